/-
  Lemmas of the walk and plain laws, put together. No condition.
-/
import Derived.Test.YtmebmpgffhajbaaKe
namespace Go.Proofs.Ytmebmpgffhajbaa
open Go.RowKit
set_option linter.unusedVariables false
set_option linter.unusedSimpArgs false

theorem vr_head {s : So} (h : validR s = true) : headB s = true := by
  simp only [validR, Bool.and_eq_true] at h
  exact h.1
theorem vr_syms {s : So} (h : validR s = true) : symsB s.ys = true := by
  have := vr_head h
  simp only [headB, Bool.and_eq_true] at this
  exact this.2.2.2.2
theorem vr_len {s : So} (h : validR s = true) : s.cs.length ≤ 1048576 := by
  have := vr_head h
  simp only [headB, Bool.and_eq_true, decide_eq_true_eq] at this
  omega
theorem vr_cell {s : So} (h : validR s = true) {i : Int} (hi : inS s i = true) : cellR s i = true := by
  simp only [validR, Bool.and_eq_true] at h
  have h1 := inS_iff.1 hi
  have hk := all_of h.2.1 (k := i.toNat) (by omega)
  rwa [show ((i.toNat : Nat) : Int) = i by omega] at hk
theorem vr_vc {s : So} (h : validR s = true) {i : Int} (hi : inS s i = true) (ht : (cellAt s i).t ≠ 4) : vcR s (cellAt s i) = true := by
  have := vr_cell h hi
  unfold cellR at this
  rw [if_neg ht] at this
  simp only [Bool.and_eq_true] at this
  exact this.1
theorem vr_ends {s : So} (h : validR s = true) {i : Int} (hi : inS s i = true) : endsB s i = true := by
  by_cases ht : (cellAt s i).t = 4
  · exact (En.st (fun hn => by have := hn.1; rw [tagS_in hi] at this; omega)).ends
  · have := vr_cell h hi
    unfold cellR at this
    rw [if_neg ht] at this
    simp only [Bool.and_eq_true] at this
    exact this.2.1
theorem vc_ref {s : So} {c : Ce} (h : vcR s c = true) (ht : c.t = 0) : inS s c.n = true ∧ (cellAt s c.n).t ≠ 4 := by
  unfold vcR at h
  rw [if_pos ht] at h
  simp only [Bool.and_eq_true, Bool.not_eq_true', decide_eq_false_iff_not] at h
  rw [tagS_in h.1] at h
  exact h
theorem vr_nx {s : So} (h : validR s = true) {n : Int} (hn : Ns s n) : inS s (nx s n) = true := by
  have hi := hn.inS
  have ht : (cellAt s n).t = 0 := by have := hn.1; rwa [tagS_in hi] at this
  exact (vc_ref (vr_vc h hi (by omega)) ht).1
theorem vr_fun {s : So} (h : validR s = true) {i : Int} (hi : inS s i = true) (ht : (cellAt s i).t = 4) : 1 ≤ arS s (cellAt s i).n ∧ arS s (cellAt s i).n ≤ 8 ∧ ∀ j : Nat, (j : Int) < arS s (cellAt s i).n → inS s (i + 1 + j) = true ∧ vcR s (cellAt s (i + 1 + j)) = true := by
  have := vr_cell h hi
  unfold cellR at this
  rw [if_pos ht] at this
  simp only [Bool.and_eq_true, decide_eq_true_eq, List.all_eq_true, List.mem_range, Bool.not_eq_true', decide_eq_false_iff_not] at this
  obtain ⟨h1, h2, h3⟩ := this
  refine ⟨h1, (symsB_ar (vr_syms h) _).2, fun j hj => ?_⟩
  have q := inS_iff.1 h2
  have q1 := inS_iff.1 hi
  have hin : inS s (i + 1 + j) = true := inS_iff.2 ⟨by omega, by omega⟩
  refine ⟨hin, vr_vc h hin ?_⟩
  have := h3 j (by omega)
  rw [show i + ((j : Int) + 1) = i + 1 + j by omega, tagS_in hin] at this
  exact this
theorem ar_rng {s : So} {n : Int} (h : 0 ≤ arS s n) : 0 ≤ n ∧ n < s.ys.length ∧ arS s n = (s.ys.getD n.toNat default).ar := by
  unfold arS at h ⊢
  split at h
  · rename_i hn
    rw [if_pos hn]
    exact ⟨hn.1, hn.2, rfl⟩
  · omega
def syAt (s : So) (n : Int) : Sy := s.ys.getD n.toNat default
theorem vr_name {s : So} (h : validR s = true) {n : Int} (hn : 0 ≤ arS s n) : (syAt s n).name.size ≤ 100 := by
  obtain ⟨h0, h1, -⟩ := ar_rng hn
  have := vr_syms h
  simp only [symsB, Bool.and_eq_true] at this
  have := all_of this.2 (k := n.toNat) (by omega)
  simp only [symAt, okY, Bool.and_eq_true, decide_eq_true_eq] at this
  exact this.1.1

theorem rank_all {s : So} (hv : ∀ m, Ns s m → inS s (nx s m) = true) : ∀ (k : Nat) (n : Int), inS s n = true → endsN s (k + 1) n = true → endsN s k n = false → ∃ l : List Int, l.length = k + 1 ∧ l.Nodup ∧ (∀ x ∈ l, inS s x = true) ∧ ∀ x ∈ l, ∃ j, j ≤ k ∧ endsN s (j + 1) x = true
  | 0, n, hi, h1, _ => ⟨[n], rfl, by simp, (fun x hx => by rw [List.mem_singleton.1 hx]; exact hi), fun x hx => ⟨0, Nat.le_refl _, by rw [List.mem_singleton.1 hx]; exact h1⟩⟩
  | k + 1, n, hi, h1, h2 => by
    have hn : Ns s n := Classical.byContradiction fun hn => by rw [endsN_st hn] at h2; cases h2
    have h1' := h1
    rw [endsN_ns hn] at h1 h2
    obtain ⟨l, e1, e2, e3, e4⟩ := rank_all hv k _ (hv n hn) h1 h2
    refine ⟨n :: l, by simp [e1], ?_, fun x hx => ?_, fun x hx => ?_⟩
    · refine List.nodup_cons.2 ⟨fun hm => ?_, e2⟩
      obtain ⟨j, hj, he⟩ := e4 n hm
      rw [endsN_ns hn] at he
      rw [endsN_le hj he] at h2
      cases h2
    · rcases List.mem_cons.1 hx with rfl | hx
      · exact hi
      · exact e3 x hx
    · rcases List.mem_cons.1 hx with rfl | hx
      · exact ⟨k + 1, Nat.le_refl _, h1'⟩
      · obtain ⟨j, hj, he⟩ := e4 x hx
        exact ⟨j, by omega, he⟩
theorem vr_ends_len {s : So} (h : validR s = true) {n : Int} (hi : inS s n = true) : endsN s s.cs.length n = true := by
  cases hk' : endsN s s.cs.length n with
  | true => rfl
  | false =>
    obtain ⟨l, e1, e2, e3, -⟩ := rank_all (fun m hm => vr_nx h hm) s.cs.length n hi (vr_ends h hi) hk'
    have h1 := nodup_lt s.cs.length (l.map Int.toNat) ?_ ?_
    · rw [List.length_map, e1] at h1
      omega
    · refine List.Pairwise.map _ (fun a b h => h) ?_
      refine List.Pairwise.imp_of_mem (R := fun a b => a ≠ b) (fun {a b} ha hb hab e => hab ?_) e2
      have h1 := inS_iff.1 (e3 a ha)
      have h2 := inS_iff.1 (e3 b hb)
      omega
    · intro x hx
      obtain ⟨a, ha, rfl⟩ := List.mem_map.1 hx
      have h1 := inS_iff.1 (e3 a ha)
      omega

def derN (s : So) : Nat → Ce → Ce
  | 0, c => c
  | k + 1, c => if c.t = 0 ∧ inS s c.n = true ∧ cellAt s c.n ≠ c then derN s k (cellAt s c.n) else c
theorem derN_t {s : So} {c : Ce} (h : c.t ≠ 0) : ∀ k, derN s k c = c
  | 0 => rfl
  | k + 1 => if_neg fun q => h q.1
theorem der_stable {s : So} (j : Nat) : ∀ (k : Nat) (n : Int), endsN s k n = true → derN s (k + j) ⟨0, n⟩ = derN s k ⟨0, n⟩
  | 0, n, h => by cases h
  | k + 1, n, h => by
    rw [show k + 1 + j = (k + j) + 1 by omega]
    unfold derN
    split
    · rename_i hc
      by_cases ht : (cellAt s n).t = 0
      · have e : cellAt s n = ⟨0, nx s n⟩ := Ce.ext' ht rfl
        have hn : Ns s n := ⟨(tagS_in hc.2.1).trans ht, fun hn => hc.2.2 (Ce.ext' ht hn)⟩
        rw [endsN_ns hn] at h
        show derN s (k + j) (cellAt s n) = derN s k (cellAt s n)
        rw [e]
        exact der_stable j k _ h
      · rw [derN_t ht, derN_t ht]
    · rfl
def derS (s : So) (c : Ce) : Ce := if vcR s c then derN s (s.cs.length + 1) c else ⟨0, 0⟩
theorem der_len {s : So} (h : validR s = true) {c : Ce} (hc : vcR s c = true) : derN s s.cs.length c = derN s (s.cs.length + 1) c := by
  by_cases ht : c.t = 0
  · have e : c = ⟨0, c.n⟩ := Ce.ext' ht rfl
    rw [e]
    exact (der_stable 1 _ _ (vr_ends_len h (vc_ref hc ht).1)).symm
  · rw [derN_t ht, derN_t ht]
theorem derN_vc {s : So} (h : validR s = true) : ∀ (k : Nat) {c : Ce}, vcR s c = true → vcR s (derN s k c) = true
  | 0, c, hc => hc
  | k + 1, c, hc => by
    unfold derN
    split
    · rename_i q
      exact derN_vc h k (vr_vc h q.2.1 (vc_ref hc q.1).2)
    · exact hc
theorem derS_vc {s : So} (h : validR s = true) {c : Ce} (hc : vcR s c = true) : vcR s (derS s c) = true := by
  rw [derS, if_pos hc]
  exact derN_vc h _ hc

def getL (g : Ce → Int → Te × Int) : List Ce → Int → List Te × Int
  | [], l => ([], l)
  | c :: cs, l => if l < 0 then ([], l) else ((g c l).1 :: (getL g cs (g c l).2).1, (getL g cs (g c l).2).2)
def argsOf (s : So) (n : Int) (k : Nat) : List Ce := (List.range k).map fun j => cellAt s (n + 1 + (j : Nat))
def getN (s : So) : Nat → Ce → Int → Te × Int
  | 0, _, left => (zT, left - 1)
  | f + 1, c, left => if left - 1 < 0 then (zT, left - 1)
    else if (derS s c).t = 1 then (.mk 1 (derS s c).n ⟨#[]⟩ [], left - 1)
    else if (derS s c).t = 2 then (.mk 2 0 (syAt s (derS s c).n).name [], left - 1)
    else if (derS s c).t = 3 then (.mk 3 0 (syAt s (cellAt s (derS s c).n).n).name (getL (getN s f) (argsOf s (derS s c).n (arS s (cellAt s (derS s c).n).n).toNat) (left - 1)).1, (getL (getN s f) (argsOf s (derS s c).n (arS s (cellAt s (derS s c).n).n).toNat) (left - 1)).2)
    else (.mk 0 (derS s c).n ⟨#[]⟩ [], left - 1)
theorem getL_le {g : Ce → Int → Te × Int} (hg : ∀ c l, 0 ≤ l → (g c l).2 ≤ l - 1 ∧ -1 ≤ (g c l).2) : ∀ (cs : List Ce) (l : Int), -1 ≤ l → (getL g cs l).2 ≤ l ∧ -1 ≤ (getL g cs l).2
  | [], l, h => ⟨Int.le_refl _, h⟩
  | c :: cs, l, h => by
    unfold getL
    split
    · exact ⟨Int.le_refl _, h⟩
    · have h1 := hg c l (by omega)
      have h2 := getL_le hg cs (g c l).2 h1.2
      exact ⟨by omega, h2.2⟩
theorem getN_le (s : So) : ∀ (f : Nat) (c : Ce) (l : Int), 0 ≤ l → (getN s f c l).2 ≤ l - 1 ∧ -1 ≤ (getN s f c l).2
  | 0, c, l, h => ⟨Int.le_refl _, by simp only [getN]; omega⟩
  | f + 1, c, l, h => by
    unfold getN
    split
    · simp only; omega
    split
    · simp only; omega
    split
    · simp only; omega
    split
    · exact getL_le (getN_le s f) _ _ (by omega)
    · simp only; omega
theorem getL_ok {g : Ce → Int → Te × Int} {P : Ce → Prop} (hl : ∀ c l, 0 ≤ l → (g c l).2 ≤ l - 1 ∧ -1 ≤ (g c l).2) (hg : ∀ c l, P c → 0 ≤ l → 0 ≤ (g c l).2 → nodesT (g c l).1 = true ∧ (szT (g c l).1 : Int) = l - (g c l).2) : ∀ (cs : List Ce) (l : Int), (∀ c ∈ cs, P c) → -1 ≤ l → 0 ≤ (getL g cs l).2 → (getL g cs l).1.length = cs.length ∧ nodesTs (getL g cs l).1 = true ∧ (szTs (getL g cs l).1 : Int) = l - (getL g cs l).2
  | [], l, _, _, _ => by simp [getL, nodesTs, szTs]
  | c :: cs, l, hP, h, h0 => by
    unfold getL at h0 ⊢
    split at h0
    · simp only at h0; omega
    rename_i hn
    rw [if_neg hn]
    have h1 := hl c l (by omega)
    have h2 := getL_le hl cs (g c l).2 h1.2
    simp only at h0
    obtain ⟨q1, q2, q3⟩ := getL_ok hl hg cs (g c l).2 (fun c hc => hP c (List.mem_cons_of_mem _ hc)) h1.2 h0
    obtain ⟨q4, q5⟩ := hg c l (hP c List.mem_cons_self) (by omega) (by omega)
    simp only [List.length_cons, nodesTs, szTs, q1, q2, q4]
    refine ⟨by first | trivial | rfl, by first | trivial | rfl, ?_⟩
    omega
theorem getN_ok {s : So} (h : validR s = true) : ∀ (f : Nat) (c : Ce) (l : Int), vcR s c = true → 0 ≤ l → 0 ≤ (getN s f c l).2 → nodesT (getN s f c l).1 = true ∧ (szT (getN s f c l).1 : Int) = l - (getN s f c l).2
  | 0, c, l, _, _, h0 => by
    simp only [getN] at h0 ⊢
    exact ⟨rfl, by simp [zT, szT, szTs]; omega⟩
  | f + 1, c, l, hc, hl, h0 => by
    have hd := derS_vc h hc
    unfold getN at h0 ⊢
    split at h0
    · simp only at h0; omega
    rename_i hn
    rw [if_neg hn]
    split at h0
    · rename_i ht
      rw [if_pos ht]
      exact ⟨by simp [nodesT, nodesTs, nodeT, Te.k, Te.n, Te.s, Te.l], by simp [szT, szTs]; omega⟩
    rename_i h1
    rw [if_neg h1]
    split at h0
    · rename_i ht
      rw [if_pos ht]
      have ha : arS s (derS s c).n = 0 := by
        simp only [vcR, ht] at hd
        simpa using hd
      have := vr_name h (n := (derS s c).n) (by omega)
      refine ⟨?_, by simp [szT, szTs]; omega⟩
      have h2 : ((syAt s (derS s c).n).name.size : Int) ≤ 100 := by omega
      simp only [nodesT, nodesTs, nodeT, Te.k, Te.n, Te.s, Te.l, h2]
      rfl
    rename_i h2
    rw [if_neg h2]
    split at h0
    · rename_i ht
      rw [if_pos ht]
      have htag : tagS s (derS s c).n = 4 := by
        simp only [vcR, ht] at hd
        simpa using hd
      have hin := tag_in' (by decide) htag
      rw [tagS_in hin] at htag
      obtain ⟨a1, a2, a3⟩ := vr_fun h hin htag
      obtain ⟨q1, q2, q3⟩ := getL_ok (P := fun c => vcR s c = true) (getN_le s f) (fun c l => getN_ok h f c l) (argsOf s (derS s c).n (arS s (cellAt s (derS s c).n).n).toNat) (l - 1) (fun x hx => by
        obtain ⟨j, hj, rfl⟩ := List.mem_map.1 hx
        have := List.mem_range.1 hj
        exact (a3 j (by omega)).2) (by omega) h0
      have h3 := vr_name h (n := (cellAt s (derS s c).n).n) (by omega)
      have h4 : ((syAt s (cellAt s (derS s c).n).n).name.size : Int) ≤ 100 := by omega
      have h5 : (argsOf s (derS s c).n (arS s (cellAt s (derS s c).n).n).toNat).length = (arS s (cellAt s (derS s c).n).n).toNat := by simp [argsOf]
      rw [h5] at q1
      refine ⟨?_, by simp only [szT]; omega⟩
      simp only [nodesT, nodeT, Te.k, Te.n, Te.s, Te.l, h4, q1, q2]
      have h6 : (1 : Int) ≤ ((arS s (cellAt s (derS s c).n).n).toNat : Int) := by omega
      have h7 : ((arS s (cellAt s (derS s c).n).n).toNat : Int) ≤ 8 := by omega
      simp only [h6, h7]
      rfl
    rename_i h3
    rw [if_neg h3]
    have hin : inS s (derS s c).n = true := by
      rcases vcR_tag hd with ht | ht | ht | ht | ht
      · exact (vc_ref hd ht).1
      · exact absurd ht h1
      · exact absurd ht h2
      · exact absurd ht h3
      · simp only [vcR, ht] at hd
        exact tag_in' (t := 5) (by decide) (by simpa using hd)
    have q := inS_iff.1 hin
    have q1 := vr_len h
    refine ⟨?_, by simp [szT, szTs]; omega⟩
    have h4 : 0 ≤ (derS s c).n := q.1
    have h5 : (derS s c).n ≤ 1099511627776 := by omega
    simp only [nodesT, nodesTs, nodeT, Te.k, Te.n, Te.s, Te.l, h4, h5]
    rfl
theorem get_valid {s : So} (h : validR s = true) {f : Nat} {c : Ce} {l : Int} (hc : vcR s c = true) (hl : 0 ≤ l) (hm : l ≤ 2000) (h0 : 0 ≤ (getN s f c l).2) : validT (getN s f c l).1 = true := by
  obtain ⟨q1, q2⟩ := getN_ok h f c l hc hl h0
  simp only [validT, q1, Bool.and_true, decide_eq_true_eq]
  omega
end Go.Proofs.Ytmebmpgffhajbaa


namespace Go.Proofs.Ytmebmpgffhajbaa
end Go.Proofs.Ytmebmpgffhajbaa


namespace Go.Proofs.Ytmebmpgffhajbaa
open Go.RowKit
set_option linter.unusedVariables false
set_option linter.unusedSimpArgs false

def gDer : List D → Option (List D)
  | [s, c] => if validR (dS s) then some [eC (derS (dS s) (dC c))] else none
  | _ => none
theorem der_0 : D.a [.i 0, .i 0] = eC ⟨0, 0⟩ := rfl
theorem ok_cells_Deref : FOk q1k gDer := fok_cells_Deref q1f q26 fun ds outs hw hg => by
  obtain ⟨d, r, rfl, hd, e, r', rfl, he, rfl⟩ := hw
  obtain ⟨s, rfl, hs⟩ := wfS hd
  obtain ⟨c, rfl, hc⟩ := wfC he
  simp only [gDer, dS_eS, dC_eC, Option.ite_none_right_eq_some, Option.some.injEq] at hg
  obtain ⟨hv, rfl⟩ := hg
  have hvs := validR_vs hv
  have hl := vr_len hv
  have hvc : ∀ c, vcP s c = vcR s c := hvs.vc
  simp only [q32, q00, go_br, q01, q02, allSay, X.says, X.ev, X.evs, evl, tblS, List.getD_cons_zero, List.getD_cons_succ, List.getElem?_cons_zero, List.getElem?_cons_succ, tt_b, int_i, str_s, rs_r, Option.isSome_some, Option.getD_some, decide_eq_true_eq, decide_eq_false_iff_not, gnE, List.length_map, gnF, gnL, decide_true, decide_false, Bool.or_true, true_and, and_true, gSCb, hvc, der_0]
  refine ⟨fun h => ?_, fun h => ?_⟩
  · simp only [derS, show vcR s c = false by simpa using h]
    rfl
  have hvc' : vcR s c = true := by simpa using h
  rw [q17]
  refine ⟨fun st => ∃ (k : Nat) (x : Ce), k ≤ s.cs.length ∧ st = [.i k, eC x] ∧ derN s (s.cs.length - k) x = derS s c, fun st => s.cs.length - (st.getD 0 .u).int.toNat, ⟨0, c, Nat.zero_le _, rfl, by rw [Nat.sub_zero, der_len hv hvc', derS, if_pos hvc']⟩, ?_⟩
  rintro st - ⟨k, x, hk, rfl, hP⟩
  rw [go_br]
  refine ⟨fun hlt => ?_, fun hlt => ?_⟩
  · simp only [q00, go_br, q01, q02, allSay, X.says, X.ev, X.evs, evl, tblS, List.getD_cons_zero, List.getD_cons_succ, List.getElem?_cons_zero, List.getElem?_cons_succ, tt_b, int_i, str_s, rs_r, Option.isSome_some, Option.getD_some, decide_eq_true_eq, decide_eq_false_iff_not, gnE, List.length_map, gnF, gnL, decide_true, decide_false, Bool.or_true, true_and, and_true] at hlt
    have hkl : k < s.cs.length := by omega
    obtain ⟨n, hn⟩ : ∃ n, s.cs.length - k = n + 1 := ⟨s.cs.length - k - 1, by omega⟩
    rw [hn] at hP
    unfold derN at hP
    have hn2 : s.cs.length - (k + 1) = n := by omega
    have ht := hvs.tag_in x.n
    by_cases h0 : x.t = 0
    · cases hin : inS s x.n with
      | true =>
        have h3 := inS_iff.1 hin
        rw [hin] at ht
        have ht' : ¬ tagS s x.n < 0 := by have := of_decide_eq_true ht; omega
        simp only [q00, go_br, q01, q02, allSay, X.says, X.ev, X.evs, evl, tblS, List.getD_cons_zero, List.getD_cons_succ, List.getElem?_cons_zero, List.getElem?_cons_succ, tt_b, int_i, str_s, rs_r, Option.isSome_some, Option.getD_some, decide_eq_true_eq, decide_eq_false_iff_not, gnE, List.length_map, gnF, gnL, decide_true, decide_false, Bool.or_true, true_and, and_true, gSIi, cell_get hin, h0, ht', h3.1, h3.2]
        refine ⟨fun hx => ?_, fun hx => ?_⟩
        · have hx' : cellAt s x.n = x := by simpa using hx
          rw [if_neg (fun q => q.2.2 hx')] at hP
          rw [hP]
        · have hx' : cellAt s x.n ≠ x := by simpa using hx
          rw [if_pos ⟨h0, hin, hx'⟩] at hP
          refine ⟨⟨by omega, by omega⟩, ?_⟩
          rw [updB, if_pos rfl]
          refine ⟨⟨k + 1, cellAt s x.n, by omega, by simp, by rw [hn2]; exact hP⟩, ?_⟩
          simp [D.int]
          omega
      | false =>
        rw [hin] at ht
        have ht' : tagS s x.n < 0 := by have := of_decide_eq_false ht; omega
        rw [if_neg (fun q => by rw [hin] at q; cases q.2.1)] at hP
        simp only [q00, go_br, q01, q02, allSay, X.says, X.ev, X.evs, evl, tblS, List.getD_cons_zero, List.getD_cons_succ, List.getElem?_cons_zero, List.getElem?_cons_succ, tt_b, int_i, str_s, rs_r, Option.isSome_some, Option.getD_some, decide_eq_true_eq, decide_eq_false_iff_not, gnE, List.length_map, gnF, gnL, decide_true, decide_false, Bool.or_true, true_and, and_true, gSIi, h0, ht', ← hP]
        simp
    · rw [if_neg (fun q => h0 q.1)] at hP
      simp only [q00, go_br, q01, q02, allSay, X.says, X.ev, X.evs, evl, tblS, List.getD_cons_zero, List.getD_cons_succ, List.getElem?_cons_zero, List.getElem?_cons_succ, tt_b, int_i, str_s, rs_r, Option.isSome_some, Option.getD_some, decide_eq_true_eq, decide_eq_false_iff_not, gnE, List.length_map, gnF, gnL, decide_true, decide_false, Bool.or_true, true_and, and_true, gSIi, h0, ← hP]
      simp
  · simp only [q00, go_br, q01, q02, allSay, X.says, X.ev, X.evs, evl, tblS, List.getD_cons_zero, List.getD_cons_succ, List.getElem?_cons_zero, List.getElem?_cons_succ, tt_b, int_i, str_s, rs_r, Option.isSome_some, Option.getD_some, decide_eq_true_eq, decide_eq_false_iff_not, gnE, List.length_map, gnF, gnL, decide_true, decide_false, Bool.or_true, true_and, and_true] at hlt ⊢
    have : k = s.cs.length := by omega
    subst this
    rw [Nat.sub_self] at hP
    rw [← hP, derN]
def getQ (s : So) (c : Ce) (l : Int) (n : Nat) : Bool := validR s && (vcR s c && (decide (0 ≤ l) && decide (l < n)))
def gGet1 (n : Nat) : List D → Option (List D)
  | [c, l, s] => if getQ (dS s) (dC c) l.int n then some [eT (getN (dS s) n (dC c) l.int).1, .i (getN (dS s) n (dC c) l.int).2] else none
  | _ => none
theorem getL_neg {g : Ce → Int → Te × Int} {l : Int} (h : l < 0) : ∀ cs, getL g cs l = ([], l)
  | [] => rfl
  | c :: cs => if_pos h
theorem args_drop {s : So} {n : Int} {m k : Nat} (h : k < m) : (argsOf s n m).drop k = cellAt s (n + 1 + k) :: (argsOf s n m).drop (k + 1) := by
  have hl : k < (argsOf s n m).length := by simp [argsOf, h]
  rw [List.drop_eq_getElem_cons hl]
  simp [argsOf]
theorem sy_get {s : So} {i : Int} (h : 0 ≤ arS s i) : (D.r (s.ys.map eY)).get i = eY (syAt s i) := get_r eY (ar_rng h).1 (ar_rng h).2.1
theorem e_var (n : Int) : D.a ((D.a ((eT zT).fs.set 0 (.i 0))).fs.set 1 (.i n)) = eT (.mk 0 n ⟨#[]⟩ []) := rfl
theorem e_str (x : ByteArray) : D.a ((D.a ((eT zT).fs.set 0 (.i 3))).fs.set 2 (.s x)) = eT (.mk 3 0 x []) := rfl

theorem ok_cells_Get_1 : ∀ n, FOk q0z (gGet1 n)
  | 0 => (FOk.none enter_cells_Get_1).sub fun ds outs h => by
    unfold gGet1 at h
    split at h
    · simp only [getQ, Option.ite_none_right_eq_some, Bool.and_eq_true, decide_eq_true_eq] at h
      omega
    · cases h
  | f + 1 => fok_cells_Get_1 (ok_cells_Get_1 f) ok_cells_Deref ok_term_Int q3p ok_term_Atom q26 fun ds outs hw hg => by
    obtain ⟨d, r, rfl, hd, e, r', rfl, he, e2, r2, rfl, he2, hw⟩ := hw
    obtain rfl : r2 = [] := hw
    obtain ⟨c, rfl, hc⟩ := wfC hd
    obtain ⟨l, rfl, hl⟩ := wfI he
    obtain ⟨s, rfl, hs⟩ := wfS he2
    simp only [gGet1, getQ, dS_eS, dC_eC, int_i, Option.ite_none_right_eq_some, Option.some.injEq, Bool.and_eq_true, decide_eq_true_eq] at hg
    obtain ⟨⟨hv, hvc, h0, hf⟩, rfl⟩ := hg
    have h0 := of_decide_eq_true h0
    have hf := of_decide_eq_true hf
    have hlen := vr_len hv
    have hd := derS_vc hv hvc
    have hder : gDer [eS s, eC c] = some [eC (derS s c)] := by simp only [gDer, dS_eS, dC_eC, hv, if_true]
    simp only [q2z, q00, go_br, q01, q02, allSay, X.says, X.ev, X.evs, evl, tblS, List.getD_cons_zero, List.getD_cons_succ, List.getElem?_cons_zero, List.getElem?_cons_succ, tt_b, int_i, str_s, rs_r, Option.isSome_some, Option.getD_some, decide_eq_true_eq, decide_eq_false_iff_not, gnE, List.length_map, gnF, gnL, decide_true, decide_false, Bool.or_true, true_and, and_true, dT_eT, eT_0, eT_1, eT_2, eT_3, eT_eq, eT_z, hder, gIt, gSIi, gSt]
    refine ⟨⟨by omega, by omega⟩, fun hn => ?_, fun hn => ?_⟩
    · rw [getN, if_pos hn]
    have hn' : ¬ l - 1 < 0 := hn
    unfold getN
    simp only [if_neg hn']
    refine ⟨fun h1 => ?_, fun h1 => ?_⟩
    · rw [if_pos h1]
    simp only [if_neg h1]
    have h2' : (derS s c).t = 2 → arS s (derS s c).n = 0 := fun ht => by
      simp only [vcR, ht] at hd
      simpa using hd
    have h3' : (derS s c).t = 3 → tagS s (derS s c).n = 4 := fun ht => by
      simp only [vcR, ht] at hd
      simpa using hd
    by_cases h2 : (derS s c).t = 2
    · have ha := h2' h2
      have hsy := sy_get (s := s) (i := (derS s c).n) (by omega)
      have hr := ar_rng (s := s) (n := (derS s c).n) (by omega)
      have hnm := vr_name hv (n := (derS s c).n) (by omega)
      simp [h2, ha, hsy, eY_0, hr.1, hr.2.1, str_s, atomT_ok hnm]
    simp only [h2]
    by_cases h3 : (derS s c).t = 3
    · have htag := h3' h3
      have hin := tag_in' (by decide) htag
      have htag' := htag
      rw [tagS_in hin] at htag'
      obtain ⟨a1, a2, a3⟩ := vr_fun hv hin htag'
      have hr := ar_rng (s := s) (n := (cellAt s (derS s c).n).n) (by omega)
      have hsy := sy_get (s := s) (i := (cellAt s (derS s c).n).n) (by omega)
      have hi := inS_iff.1 hin
      have hge : (0 : Int) ≤ arS s (cellAt s (derS s c).n).n := by omega
      have hsr : (syAt s (cellAt s (derS s c).n).n).ar = arS s (cellAt s (derS s c).n).n := hr.2.2.symm
      simp only [h3, htag, q00, go_br, q01, q02, allSay, X.says, X.ev, X.evs, evl, tblS, List.getD_cons_zero, List.getD_cons_succ, List.getElem?_cons_zero, List.getElem?_cons_succ, tt_b, int_i, str_s, rs_r, Option.isSome_some, Option.getD_some, decide_eq_true_eq, decide_eq_false_iff_not, gnE, List.length_map, gnF, gnL, decide_true, decide_false, Bool.or_true, true_and, and_true, dT_eT, eT_0, eT_1, eT_2, eT_3, eT_eq, eT_z, cell_get hin, hsy, hr.1, hr.2.1, hi.1, hi.2, hge]
      generalize hF : getL (getN s f) (argsOf s (derS s c).n (arS s (cellAt s (derS s c).n).n).toNat) (l - 1) = F
      generalize har : arS s (cellAt s (derS s c).n).n = ar at *
      refine ⟨fun h => by simp at h, fun _ => ⟨fun _ => ⟨⟨by omega, by omega⟩, ?_⟩, fun h => by simp at h⟩⟩
      simp only [if_false, if_true]
      rw [q17]
      refine ⟨fun st => ∃ (k : Nat) (x : Int) (ts : List Te), (k : Int) ≤ ar ∧ -1 ≤ x ∧ x ≤ l - 1 ∧ ts.length = k ∧ st = [.i ((derS s c).n + 1 + k), .i x, eT (.mk 3 0 (syAt s (cellAt s (derS s c).n).n).name ts)] ∧ F = (ts ++ (getL (getN s f) ((argsOf s (derS s c).n ar.toNat).drop k) x).1, (getL (getN s f) ((argsOf s (derS s c).n ar.toNat).drop k) x).2), fun st => ar.toNat - ((st.getD 0 .u).int - (derS s c).n - 1).toNat, ⟨0, l - 1, [], by omega, by omega, by omega, rfl, ?_, by rw [← hF]; rfl⟩, ?_⟩
      · simp only [X.evs, q00, go_br, q01, q02, allSay, X.says, X.ev, X.evs, evl, tblS, List.getD_cons_zero, List.getD_cons_succ, List.getElem?_cons_zero, List.getElem?_cons_succ, tt_b, int_i, str_s, rs_r, Option.isSome_some, Option.getD_some, decide_eq_true_eq, decide_eq_false_iff_not, gnE, List.length_map, gnF, gnL, decide_true, decide_false, Bool.or_true, true_and, and_true, dT_eT, eT_0, eT_1, eT_2, eT_3, eT_eq, eT_z, hder, cell_get hin, hsy, e_str]
        simp
      rintro st - ⟨k, x, ts, hk, hx1, hx2, hts, rfl, hFk⟩
      by_cases hkl : (k : Int) < ar
      · obtain ⟨b1, b2⟩ := a3 k hkl
        have b3 := inS_iff.1 b1
        have ht0 : 0 ≤ tagS s ((derS s c).n + 1 + k) := by
          have := (validR_vs hv).tag_in ((derS s c).n + 1 + k)
          rw [b1] at this
          exact of_decide_eq_true this
        have hle : (derS s c).n + 1 + k ≤ (derS s c).n + ar := by omega
        by_cases hx0 : 0 ≤ x
        · have hq : gGet1 f [eC (cellAt s ((derS s c).n + 1 + k)), .i x, eS s] = some [eT (getN s f (cellAt s ((derS s c).n + 1 + k)) x).1, .i (getN s f (cellAt s ((derS s c).n + 1 + k)) x).2] := by
            have h1 : x < f := by omega
            simp only [gGet1, getQ, dS_eS, dC_eC, int_i, hv, b2, hx0, h1, decide_true, Bool.and_true, if_true]
          have hnx := getN_le s f (cellAt s ((derS s c).n + 1 + k)) x hx0
          simp only [q00, go_br, q01, q02, allSay, X.says, X.ev, X.evs, evl, tblS, List.getD_cons_zero, List.getD_cons_succ, List.getElem?_cons_zero, List.getElem?_cons_succ, tt_b, int_i, str_s, rs_r, Option.isSome_some, Option.getD_some, decide_eq_true_eq, decide_eq_false_iff_not, gnE, List.length_map, gnF, gnL, decide_true, decide_false, Bool.or_true, true_and, and_true, dT_eT, eT_0, eT_1, eT_2, eT_3, eT_eq, eT_z, hder, cell_get hin, cell_get b1, hsy, hsr, gSIi, hle, ht0, hq, hx0, Te_l, b3.1, b3.2]
          refine ⟨⟨by omega, by omega⟩, fun _ => ⟨by omega, ⟨by omega, by omega⟩, ?_⟩, fun h => by simp at h⟩
          rw [updB, if_pos rfl]
          refine ⟨⟨k + 1, (getN s f (cellAt s ((derS s c).n + 1 + k)) x).2, ts ++ [(getN s f (cellAt s ((derS s c).n + 1 + k)) x).1], by omega, by omega, by omega, by simp [hts], ?_, ?_⟩, ?_⟩
          · rw [eT_snoc]
            simp
            omega
          · rw [hFk, args_drop (by omega), getL, if_neg (by omega)]
            simp
          · simp [D.int]
            omega
        · simp only [q00, go_br, q01, q02, allSay, X.says, X.ev, X.evs, evl, tblS, List.getD_cons_zero, List.getD_cons_succ, List.getElem?_cons_zero, List.getElem?_cons_succ, tt_b, int_i, str_s, rs_r, Option.isSome_some, Option.getD_some, decide_eq_true_eq, decide_eq_false_iff_not, gnE, List.length_map, gnF, gnL, decide_true, decide_false, Bool.or_true, true_and, and_true, dT_eT, eT_0, eT_1, eT_2, eT_3, eT_eq, eT_z, hder, cell_get hin, cell_get b1, hsy, hsr, gSIi, hle, ht0, hx0]
          rw [getL_neg (by omega)] at hFk
          refine ⟨⟨by omega, by omega⟩, fun h => by simp at h, fun _ => ?_⟩
          simp [hFk]
      · have hle : ¬ (derS s c).n + 1 + k ≤ (derS s c).n + ar := by omega
        have : (argsOf s (derS s c).n ar.toNat).drop k = [] := List.drop_eq_nil_of_le (by simp [argsOf]; omega)
        rw [this] at hFk
        simp only [q00, go_br, q01, q02, allSay, X.says, X.ev, X.evs, evl, tblS, List.getD_cons_zero, List.getD_cons_succ, List.getElem?_cons_zero, List.getElem?_cons_succ, tt_b, int_i, str_s, rs_r, Option.isSome_some, Option.getD_some, decide_eq_true_eq, decide_eq_false_iff_not, gnE, List.length_map, gnF, gnL, decide_true, decide_false, Bool.or_true, true_and, and_true, dT_eT, eT_0, eT_1, eT_2, eT_3, eT_eq, eT_z, hder, cell_get hin, hsy, hsr, gSIi, hle]
        refine ⟨⟨by omega, by omega⟩, fun h => by simp at h, fun _ => ?_⟩
        simp [hFk, getL]
    · simp only [h3, q00, go_br, q01, q02, allSay, X.says, X.ev, X.evs, evl, tblS, List.getD_cons_zero, List.getD_cons_succ, List.getElem?_cons_zero, List.getElem?_cons_succ, tt_b, int_i, str_s, rs_r, Option.isSome_some, Option.getD_some, decide_eq_true_eq, decide_eq_false_iff_not, gnE, List.length_map, gnF, gnL, decide_true, decide_false, Bool.or_true, true_and, and_true, dT_eT, eT_0, eT_1, eT_2, eT_3, eT_eq, eT_z]
      refine ⟨fun h => by simp at h, fun _ => ⟨by simp, fun h => by simp at h, fun _ => ?_⟩⟩
      simp only [e_var, if_false]

def getS (s : So) (c : Ce) : Te × Int := if vcR s c then (if (getN s 2001 c 2000).2 < 0 then (zT, 2) else ((getN s 2001 c 2000).1, 0)) else (zT, 1)
def gGet : List D → Option (List D)
  | [s, c] => if validR (dS s) then some [eT (getS (dS s) (dC c)).1, .i (getS (dS s) (dC c)).2] else none
  | _ => none
theorem ok_cells_Get : FOk q1r gGet := fok_cells_Get (ok_cells_Get_1 2001) q1f fun ds outs hw hg => by
  obtain ⟨d, r, rfl, hd, e, r', rfl, he, rfl⟩ := hw
  obtain ⟨s, rfl, hs⟩ := wfS hd
  obtain ⟨c, rfl, hc⟩ := wfC he
  simp only [gGet, dS_eS, dC_eC, Option.ite_none_right_eq_some, Option.some.injEq] at hg
  obtain ⟨hv, rfl⟩ := hg
  have hvc : ∀ c, vcP s c = vcR s c := (validR_vs hv).vc
  simp only [q3v, q00, go_br, q01, q02, allSay, X.says, X.ev, X.evs, evl, tblS, List.getD_cons_zero, List.getD_cons_succ, List.getElem?_cons_zero, List.getElem?_cons_succ, tt_b, int_i, str_s, rs_r, Option.isSome_some, Option.getD_some, decide_eq_true_eq, decide_eq_false_iff_not, gnE, List.length_map, gnF, gnL, decide_true, decide_false, Bool.or_true, true_and, and_true, dT_eT, eT_0, eT_1, eT_2, eT_3, eT_eq, eT_z, gSCb, hvc, getS]
  cases h : vcR s c with
  | false => simp
  | true =>
    have hq : gGet1 2001 [eC c, .i 2000, eS s] = some [eT (getN s 2001 c 2000).1, .i (getN s 2001 c 2000).2] := by
      simp only [gGet1, getQ, dS_eS, dC_eC, int_i, hv, h]
      rfl
    simp only [hq]
    by_cases hn : (getN s 2001 c 2000).2 < 0
    · simp [hn, int_i]
    · simp [hn, int_i]
theorem validT_z : validT zT = true := by decide
theorem getS_valid {s : So} (h : validR s = true) (c : Ce) : validT (getS s c).1 = true := by
  unfold getS
  split
  · rename_i hc
    split
    · exact validT_z
    · exact get_valid h hc (by omega) (by omega) (by omega)
  · exact validT_z

end Go.Proofs.Ytmebmpgffhajbaa


namespace Go.Proofs.Ytmebmpgffhajbaa
open Go.RowKit
set_option linter.unusedVariables false
set_option linter.unusedSimpArgs false

structure Ro where
  cs : List Ce
  tp : List Int
  ms : List Int
def eR (r : Ro) : D := .a [.r (r.cs.map eC), .r (r.tp.map D.i), .r (r.ms.map D.i)]
def dR (d : D) : Ro := ⟨(d.fld 0).rs.map dC, (d.fld 1).rs.map D.int, (d.fld 2).rs.map D.int⟩
theorem dR_eR (r : Ro) : dR (eR r) = r := by
  show Ro.mk ((r.cs.map eC).map dC) ((r.tp.map D.i).map D.int) ((r.ms.map D.i).map D.int) = r
  rw [map_id' dC_eC, map_id' fun _ => rfl, map_id' fun _ => rfl]
theorem eR_inj {a b : Ro} (h : eR a = eR b) : a = b := by rw [← dR_eR a, h, dR_eR b]
theorem eR_0 (r : Ro) : (eR r).fld 0 = .r (r.cs.map eC) := rfl
theorem eR_1 (r : Ro) : (eR r).fld 1 = .r (r.tp.map D.i) := rfl
theorem eR_2 (r : Ro) : (eR r).fld 2 = .r (r.ms.map D.i) := rfl
instance : DecidableEq Ro := fun a b => if h : eR a = eR b then .isTrue (eR_inj h) else .isFalse fun e => h (e ▸ rfl)
structure Ro.ok (r : Ro) : Prop where
  cs : r.cs.length ≤ 8796093021952 ∧ ∀ c ∈ r.cs, c.ok
  tp : r.tp.length ≤ 17592186043904 ∧ ∀ c ∈ r.tp, i64 c
  ms : r.ms.length ≤ 17592186043904 ∧ ∀ c ∈ r.ms, i64 c
theorem wfIsR {d : D} (h : Wf d (.row 3)) : ∃ l : List Int, d = .r (l.map D.i) ∧ l.length ≤ 17592186043904 ∧ ∀ c ∈ l, i64 c := by
  obtain ⟨l, rfl, h1, h2⟩ := h.row_of (te := .int .i64) rfl
  obtain ⟨m, rfl, h3⟩ := of_all (e := D.i) (P := i64) fun x hx => wfI (h2 x hx)
  have e : LM (.int .i64) = 17592186043904 := by kernel_rfl
  rw [e, List.length_map] at h1
  exact ⟨m, rfl, h1, h3⟩
theorem wfR {d : D} (h : Wf d T_Roots) : ∃ r, d = eR r ∧ r.ok := by
  obtain ⟨ds, rfl, hl⟩ := h.st_of (fs := [T_Cells, .row 3, .row 3]) rfl
  obtain ⟨d0, r, rfl, h0, hl⟩ := wfL_cons hl
  obtain ⟨d1, d2, rfl, h1, h2⟩ := wfL2 hl
  obtain ⟨a, rfl, q0⟩ := wfCs h0
  obtain ⟨b, rfl, q1⟩ := wfIsR h1
  obtain ⟨c, rfl, q2⟩ := wfIsR h2
  exact ⟨⟨a, b, c⟩, rfl, q0, q1, q2⟩
theorem sr_of {ds : List D} (hw : WfA [.val T_Store, .val T_Roots] ds) : ∃ s r, ds = [eS s, eR r] ∧ s.ok ∧ r.ok := by
  obtain ⟨d, r, rfl, hd, e, r', rfl, he, rfl⟩ := hw
  obtain ⟨s, rfl, hs⟩ := wfS hd
  obtain ⟨r, rfl, hr⟩ := wfR he
  exact ⟨s, r, rfl, hs, hr⟩

def inN (n : Nat) (x : Int) : Bool := decide (0 ≤ x) && decide (x ≤ n)
def okR (v : So → Bool) (vc : So → Ce → Bool) (s : So) (r : Ro) : Bool := v s && ((List.range r.cs.length).all (fun i => vc s (r.cs.getD i default)) && ((List.range r.tp.length).all (fun i => inN s.cs.length (r.tp.getD i default)) && (List.range r.ms.length).all fun i => inN s.tr.length (r.ms.getD i default)))
def gSRb (f : So → Ro → Bool) : List D → Option (List D)
  | [s, r] => some [.b (f (dS s) (dR r))]
  | _ => none
theorem inN_not {n : Nat} {x : Int} : (decide (x < 0) || decide ((n : Int) < x)) = !inN n x := by
  unfold inN
  by_cases h1 : x < 0
  · have : ¬ 0 ≤ x := by omega
    simp [h1, this]
  · by_cases h2 : (n : Int) < x
    · have : ¬ x ≤ (n : Int) := by omega
      simp [h2, this]
    · have a1 : 0 ≤ x := by omega
      have a2 : x ≤ (n : Int) := by omega
      simp [h1, h2, a1, a2]
theorem get_i {l : List Int} {k : Nat} (h : k < l.length) : (D.r (l.map D.i)).get (k : Int) = .i (l.getD k default) := get_n D.i h

theorem ok_gc_Valid : FOk q0o (gSRb (okR validP vcP)) := fok_gc_Valid ok_cells_Valid q1f fun ds outs hw hg => by
  obtain ⟨s, r, rfl, hs, hr⟩ := sr_of hw
  simp only [gSRb, dS_eS, dR_eR, Option.some.injEq] at hg
  subst hg
  have hl := hs.cs.1
  have hl2 := hs.tr.1
  have h1 := hr.cs.1
  have h2 := hr.tp.1
  have h3 := hr.ms.1
  rw [q2x, q00]
  refine ⟨by simp only [q00, go_br, q01, q02, allSay, X.says, X.ev, X.evs, evl, tblS, List.getD_cons_zero, List.getD_cons_succ, List.getElem?_cons_zero, List.getElem?_cons_succ, tt_b, int_i, str_s, rs_r, Option.isSome_some, Option.getD_some, decide_eq_true_eq, decide_eq_false_iff_not, gnE, List.length_map, gnF, gnL, decide_true, decide_false, Bool.or_true, true_and, and_true, gSb], ?_⟩
  rw [go_br]
  refine ⟨fun hx => ?_, fun hx => ?_⟩
  · have hh : validP s = false := by simpa [X.ev, X.evs, evl, tblS, gSb, dS_eS, D.tt] using hx
    simp [q01, X.evs, X.ev, okR, hh]
  have hh : validP s = true := by simpa [X.ev, X.evs, evl, tblS, gSb, dS_eS, D.tt] using hx
  refine scan_ok r.cs.length (fun i => vcP s (r.cs.getD i default)) (v0 := .b false) rfl fun k B' hk hP hB _ => ?_
  rw [go_br]
  refine ⟨fun hlt => ?_, fun hlt => ?_⟩
  · have hkl : k < r.cs.length := by simpa [X.ev, evl, eR_0, D.int, D.rs, D.tt] using hlt
    simp only [q00, go_br, q01, q02, allSay, X.says, X.ev, X.evs, evl, tblS, List.getD_cons_zero, List.getD_cons_succ, List.getElem?_cons_zero, List.getElem?_cons_succ, tt_b, int_i, str_s, rs_r, Option.isSome_some, Option.getD_some, decide_eq_true_eq, decide_eq_false_iff_not, gnE, List.length_map, gnF, gnL, decide_true, decide_false, Bool.or_true, true_and, and_true, gSCb, eR_0, get_n eC hkl, rs_r]
    refine ⟨⟨by omega, by omega⟩, fun hb => ?_, fun hb => ⟨⟨by omega, by omega⟩, ?_⟩⟩
    · have := all_not (P := fun i => vcP s (r.cs.getD i default)) hkl (by simpa only [Bool.not_eq_true'] using hb)
      simp only [okR, this, Bool.false_and, Bool.and_false]
    · exact hB hkl (by simpa only [Bool.not_eq_false'] using hb)
  have hc : (List.range r.cs.length).all (fun i => vcP s (r.cs.getD i default)) = true := by
    have : k = r.cs.length := by
      have : ¬ (k < r.cs.length) := by simpa [X.ev, evl, eR_0, D.int, D.rs, D.tt] using hlt
      omega
    subst this
    exact all_yes hP
  refine scan_ok r.tp.length (fun i => inN s.cs.length (r.tp.getD i default)) (v0 := .b false) rfl fun k B' hk hP hB _ => ?_
  rw [go_br]
  refine ⟨fun hlt => ?_, fun hlt => ?_⟩
  · have hkl : k < r.tp.length := by simpa [X.ev, evl, eR_1, D.int, D.rs, D.tt] using hlt
    simp only [q00, go_br, q01, q02, allSay, X.says, X.ev, X.evs, evl, tblS, List.getD_cons_zero, List.getD_cons_succ, List.getElem?_cons_zero, List.getElem?_cons_succ, tt_b, int_i, str_s, rs_r, Option.isSome_some, Option.getD_some, decide_eq_true_eq, decide_eq_false_iff_not, gnE, List.length_map, gnF, gnL, decide_true, decide_false, Bool.or_true, true_and, and_true, eR_1, get_i hkl, rs_r, inN_not]
    refine ⟨⟨by omega, by omega⟩, fun hb => ?_, fun hb => ⟨⟨by omega, by omega⟩, ?_⟩⟩
    · have := all_not (P := fun i => inN s.cs.length (r.tp.getD i default)) hkl (by simpa only [Bool.not_eq_true'] using hb)
      simp only [okR, this, Bool.false_and, Bool.and_false]
    · exact hB hkl (by simpa only [Bool.not_eq_false'] using hb)
  have hc2 : (List.range r.tp.length).all (fun i => inN s.cs.length (r.tp.getD i default)) = true := by
    have : k = r.tp.length := by
      have : ¬ (k < r.tp.length) := by simpa [X.ev, evl, eR_1, D.int, D.rs, D.tt] using hlt
      omega
    subst this
    exact all_yes hP
  refine scan_ok r.ms.length (fun i => inN s.tr.length (r.ms.getD i default)) (v0 := .b false) rfl fun k B' hk hP hB _ => ?_
  rw [go_br]
  refine ⟨fun hlt => ?_, fun hlt => ?_⟩
  · have hkl : k < r.ms.length := by simpa [X.ev, evl, eR_2, D.int, D.rs, D.tt] using hlt
    simp only [q00, go_br, q01, q02, allSay, X.says, X.ev, X.evs, evl, tblS, List.getD_cons_zero, List.getD_cons_succ, List.getElem?_cons_zero, List.getElem?_cons_succ, tt_b, int_i, str_s, rs_r, Option.isSome_some, Option.getD_some, decide_eq_true_eq, decide_eq_false_iff_not, gnE, List.length_map, gnF, gnL, decide_true, decide_false, Bool.or_true, true_and, and_true, eR_2, get_i hkl, rs_r, inN_not]
    refine ⟨⟨by omega, by omega⟩, fun hb => ?_, fun hb => ⟨⟨by omega, by omega⟩, ?_⟩⟩
    · have := all_not (P := fun i => inN s.tr.length (r.ms.getD i default)) hkl (by simpa only [Bool.not_eq_true'] using hb)
      simp only [okR, this, Bool.false_and, Bool.and_false]
    · exact hB hkl (by simpa only [Bool.not_eq_false'] using hb)
  have hc3 : (List.range r.ms.length).all (fun i => inN s.tr.length (r.ms.getD i default)) = true := by
    have : k = r.ms.length := by
      have : ¬ (k < r.ms.length) := by simpa [X.ev, evl, eR_2, D.int, D.rs, D.tt] using hlt
      omega
    subst this
    exact all_yes hP
  simp only [q01, X.evs, X.ev, okR, hh, hc, hc2, hc3, Bool.and_true]
theorem okR_eq {s : So} {r : Ro} : okR validP vcP s r = okR validR vcR s r := by
  unfold okR
  rw [valid_eq]
  cases h : validR s with
  | false => rfl
  | true =>
    have hv := validR_vs h
    simp only [hv.vc]

def gRClone : List D → Option (List D)
  | [r] => some [eR (dR r)]
  | _ => none
theorem ok_ref34_Clone : FOk q1l gRClone := fok_ref34_Clone fun ds outs hw hg => by
  obtain ⟨d, r, rfl, hd, rfl⟩ := hw
  obtain ⟨r, rfl, hr⟩ := wfR hd
  simp only [gRClone, dR_eR, Option.some.injEq] at hg
  subst hg
  have h1 := hr.cs.1
  have h2 := hr.tp.1
  have h3 := hr.ms.1
  simp [q38, q00, go_br, q01, q02, allSay, X.says, X.ev, X.evs, evl, tblS, List.getD_cons_zero, List.getD_cons_succ, List.getElem?_cons_zero, List.getElem?_cons_succ, tt_b, int_i, str_s, rs_r, Option.isSome_some, Option.getD_some, decide_eq_true_eq, decide_eq_false_iff_not, gnE, List.length_map, gnF, gnL, decide_true, decide_false, Bool.or_true, true_and, and_true, eR_0, eR_1, eR_2]
  exact ⟨⟨by omega, by omega, by omega⟩, rfl⟩

def smallB (s : So) (r : Ro) : Bool := decide (s.cs.length ≤ 300) && (decide (s.ys.length ≤ 100) && (decide (s.tr.length ≤ 300) && (decide (s.wk.length ≤ 50) && (decide (r.cs.length ≤ 50) && (decide (r.tp.length ≤ 50) && decide (r.ms.length ≤ 50))))))
theorem ok_law34_small : FOk q1o (gSRb smallB) := fok_law34_small fun ds outs hw hg => by
  obtain ⟨s, r, rfl, hs, hr⟩ := sr_of hw
  simp only [gSRb, dS_eS, dR_eR, Option.some.injEq] at hg
  subst hg
  have e : ∀ (a b : Nat), decide ((a : Int) ≤ (b : Nat)) = decide (a ≤ b) := fun a b => by
    by_cases h : a ≤ b
    · rw [decide_eq_true h, decide_eq_true (show (a : Int) ≤ (b : Nat) by omega)]
    · rw [decide_eq_false h, decide_eq_false (show ¬ (a : Int) ≤ (b : Nat) by omega)]
  have e300 : ∀ a : Nat, decide ((a : Int) ≤ 300) = decide (a ≤ 300) := fun a => e a 300
  have e100 : ∀ a : Nat, decide ((a : Int) ≤ 100) = decide (a ≤ 100) := fun a => e a 100
  have e50 : ∀ a : Nat, decide ((a : Int) ≤ 50) = decide (a ≤ 50) := fun a => e a 50
  simp only [q35, q00, go_br, q01, q02, allSay, X.says, X.ev, X.evs, evl, tblS, List.getD_cons_zero, List.getD_cons_succ, List.getElem?_cons_zero, List.getElem?_cons_succ, tt_b, int_i, str_s, rs_r, Option.isSome_some, Option.getD_some, decide_eq_true_eq, decide_eq_false_iff_not, gnE, List.length_map, gnF, gnL, decide_true, decide_false, Bool.or_true, true_and, and_true, eR_0, eR_1, eR_2, rs_r, e300, e100, e50, smallB, Bool.and_assoc]
end Go.Proofs.Ytmebmpgffhajbaa


namespace Go.Proofs.Ytmebmpgffhajbaa
open Go.RowKit
set_option linter.unusedVariables false
set_option linter.unusedSimpArgs false

abbrev eN (n : Nat) : D := .i (n : Int)
def dN (d : D) : Nat := d.int.toNat
theorem dN_eN (n : Nat) : dN (eN n) = n := by simp [dN, eN, D.int]
theorem mN (W : List Nat) : (W.map eN).map dN = W := map_id' dN_eN W
theorem wf64 {d : D} (h : Wf d (.int .u64)) : ∃ n : Nat, d = eN n ∧ n < 18446744073709551616 := by
  obtain ⟨n, rfl, hn⟩ := h.int
  simp only [rngB, Bool.and_eq_true, decide_eq_true_eq] at hn
  exact ⟨n.toNat, by rw [eN, Int.toNat_of_nonneg hn.1], by omega⟩
theorem wf64s {d : D} (h : Wf d (.row 94)) : ∃ W : List Nat, d = .r (W.map eN) ∧ W.length ≤ 17592186043904 ∧ ∀ x ∈ W, x < 18446744073709551616 := by
  obtain ⟨l, rfl, h1, h2⟩ := h.row_of (te := .int .u64) rfl
  obtain ⟨m, rfl, h3⟩ := of_all (e := eN) (P := fun x => x < 18446744073709551616) fun x hx => wf64 (h2 x hx)
  have e : LM (.int .u64) = 17592186043904 := by kernel_rfl
  rw [e, List.length_map] at h1
  exact ⟨m, rfl, h1, h3⟩

def bitW (W : List Nat) (i : Nat) : Bool := (W.getD (i / 64) 0).testBit (i % 64)
def setW (W : List Nat) (i : Nat) : List Nat := W.set (i / 64) (W.getD (i / 64) 0 ||| 2 ^ (i % 64))

theorem fdN (n k : Nat) : Int.fdiv (n : Int) (2 ^ k) = ((n / 2 ^ k : Nat) : Int) := by
  rw [Int.fdiv_eq_ediv_of_nonneg _ (by exact_mod_cast Nat.zero_le _)]
  norm_cast
theorem f8 (n k : Nat) : fnD 8 [.i (n : Int), .i (k : Int)] = eN (n / 2 ^ k) := by
  show D.i ((n : Int).fdiv (2 ^ (k : Int).toNat)) = _
  rw [Int.toNat_natCast, fdN]
theorem f13 (n k : Nat) : fnD 13 [.i (n : Int), .i (k : Int)] = eN (n &&& k) := by
  show D.i ((((n : Int).toNat &&& (k : Int).toNat : Nat)) : Int) = _
  rw [Int.toNat_natCast, Int.toNat_natCast]
theorem f14 (n k : Nat) : fnD 14 [.i (n : Int), .i (k : Int)] = eN (n ||| k) := by
  show D.i ((((n : Int).toNat ||| (k : Int).toNat : Nat)) : Int) = _
  rw [Int.toNat_natCast, Int.toNat_natCast]
theorem f15 {k : Nat} (h : k < 64) : fnD 15 [.i 1, .i (k : Int)] = eN (2 ^ k) := by
  show D.i ((1 * 2 ^ (k : Int).toNat) % 18446744073709551616) = _
  rw [Int.toNat_natCast, Int.one_mul]
  have h1 : (2 : Nat) ^ k < 18446744073709551616 := (Nat.pow_lt_pow_right (a := 2) (by omega) h : 2 ^ k < 2 ^ 64)
  have h2 : ((2 : Int) ^ k) = ((2 ^ k : Nat) : Int) := by norm_cast
  rw [h2]
  generalize (2 : Nat) ^ k = m at *
  rw [show (m : Int) % 18446744073709551616 = m by omega]
theorem f8_6 (n : Nat) : fnD 8 [.i (n : Int), .i 6] = eN (n / 64) := f8 n 6
theorem f13_63 (n : Nat) : fnD 13 [.i (n : Int), .i 63] = eN (n % 64) := by
  rw [show (63 : Int) = ((63 : Nat) : Int) from rfl, f13, show (63 : Nat) = 2 ^ 6 - 1 from rfl, Nat.and_two_pow_sub_one_eq_mod]
theorem f13_1 (n : Nat) : fnD 13 [.i (n : Int), .i 1] = eN (n % 2) := by
  rw [show (1 : Int) = ((1 : Nat) : Int) from rfl, f13, show (1 : Nat) = 2 ^ 1 - 1 from rfl, Nat.and_two_pow_sub_one_eq_mod]
theorem f0 (m k z : D) : fnD 0 [m, k, z] = (mfind k m.ms).getD z := rfl

def gHas : List D → Option (List D)
  | [.r w, .i at'] => if decide (0 ≤ at') && decide (at'.toNat / 64 < w.length) then some [.b (bitW (w.map dN) at'.toNat)] else none
  | _ => none
theorem ok_gc_marks_has : FOk q0b gHas := fok_gc_marks_has fun ds outs hw hg => by
  obtain ⟨d, r, rfl, hd, e, r', rfl, he, rfl⟩ := hw
  obtain ⟨W, rfl, hl, hW⟩ := wf64s hd
  obtain ⟨i, rfl, hi⟩ := wfI he
  simp only [gHas, mN, Bool.and_eq_true, decide_eq_true_eq, Option.ite_none_right_eq_some, Option.some.injEq, List.length_map] at hg
  obtain ⟨⟨h0, h1⟩, rfl⟩ := hg
  obtain ⟨a, rfl⟩ := Int.eq_ofNat_of_zero_le h0
  rw [Int.toNat_natCast] at h1 ⊢
  have hget : (D.r (W.map eN)).get (((a / 64 : Nat)) : Int) = eN (W.getD (a / 64) 0) := get_n eN h1
  have hw : W.getD (a / 64) 0 < 18446744073709551616 := by
    rw [List.getD_eq_getElem?_getD, List.getElem?_eq_getElem h1]
    exact hW _ (List.getElem_mem h1)
  have hq : W.getD (a / 64) 0 / 2 ^ (a % 64) ≤ W.getD (a / 64) 0 := Nat.div_le_self _ _
  have h64 : a % 64 < 64 := Nat.mod_lt _ (by omega)
  have hb : decide (eN (W.getD (a / 64) 0 / 2 ^ (a % 64) % 2) = .i 1) = bitW W a := by
    unfold bitW
    rw [Nat.testBit_eq_decide_div_mod_eq]
    unfold eN
    congr 1
    simp only [D.i.injEq, eq_iff_iff]
    omega
  have hadiv : a / 64 ≤ a := Nat.div_le_self _ _
  have hlen : (W.length : Int) > ((a / 64 : Nat) : Int) := by omega
  simp only [q24, q00, go_br, q01, q02, allSay, X.says, X.ev, X.evs, evl, tblS, List.getD_cons_zero, List.getD_cons_succ, List.getElem?_cons_zero, List.getElem?_cons_succ, tt_b, int_i, str_s, rs_r, Option.isSome_some, Option.getD_some, decide_eq_true_eq, decide_eq_false_iff_not, gnE, List.length_map, gnF, gnL, decide_true, decide_false, Bool.or_true, true_and, and_true, f8_6, f13_63, hget, f8, f13_1, hb]
  simp only [rngB, Bool.and_eq_true, decide_eq_true_eq]
  simp only [i_inj] at hb
  generalize W.getD (a / 64) 0 / 2 ^ (a % 64) = q at *
  refine ⟨⟨by omega, by omega, by omega, by omega, by omega, by omega, by omega, by omega⟩, by rw [hb]⟩

def gVis : List D → Option (List D)
  | [.i at', .r w, .r t, s, m] => if decide (0 ≤ at') && (decide (at' < (dS s).cs.length) && (decide (at'.toNat / 64 < w.length) && decide (t.length + 1 + ((mfind (.i at') m.ms).getD (.r [])).rs.length ≤ 8796093021952))) then
      some (if bitW (w.map dN) at'.toNat then [.r w, .r t] else [.r ((setW (w.map dN) at'.toNat).map eN), .r (t ++ [eC (cellAt (dS s) at')] ++ ((mfind (.i at') m.ms).getD (.r [])).rs)]) else none
  | _ => none
theorem ok_gc_mark_1 : FOk q0g gVis := fok_gc_mark_1 ok_gc_marks_has fun ds outs hw hg => by
  obtain ⟨d, r, rfl, hd, dw, r, rfl, hdw, dt, r, rfl, hdt, dss, r, rfl, hds, dm, r, rfl, hdm, rfl⟩ := hw
  obtain ⟨i, rfl, hi⟩ := wfI hd
  obtain ⟨W, rfl, hl, hW⟩ := wf64s hdw
  obtain ⟨T, rfl, hT, hTc⟩ := wfCs hdt
  obtain ⟨s, rfl, hs⟩ := wfS hds
  simp only [gVis, mN, dS_eS, Bool.and_eq_true, decide_eq_true_eq, Option.ite_none_right_eq_some, Option.some.injEq, List.length_map] at hg
  obtain ⟨⟨h0, h1, h2, h3⟩, rfl⟩ := hg
  obtain ⟨a, rfl⟩ := Int.eq_ofNat_of_zero_le h0
  rw [Int.toNat_natCast] at h2
  rw [Int.toNat_natCast]
  have hin : inS s (a : Nat) = true := inS_iff.2 ⟨by omega, h1⟩
  have hhas : gHas [.r (W.map eN), .i (a : Int)] = some [.b (bitW W a)] := by
    simp only [gHas, mN, h2, Int.toNat_natCast, List.length_map, decide_true, Bool.and_true, show decide ((0 : Int) ≤ (a : Int)) = true from decide_eq_true (by omega), if_true]
  have hget : (D.r (W.map eN)).get (((a / 64 : Nat)) : Int) = eN (W.getD (a / 64) 0) := get_n eN h2
  have hw : W.getD (a / 64) 0 < 18446744073709551616 := by
    rw [List.getD_eq_getElem?_getD, List.getElem?_eq_getElem h2]
    exact hW _ (List.getElem_mem h2)
  have h64 : a % 64 < 64 := Nat.mod_lt _ (by omega)
  have hp : 0 < 2 ^ (a % 64) := Nat.pow_pos (by omega)
  have hset : ∀ v : Nat, (W.map eN).set (a / 64) (eN v) = (W.set (a / 64) v).map eN := fun v => by rw [List.map_set]
  have hcell := cell_get hin
  rw [q2i, q00]
  refine ⟨by simp only [allSay, X.says, X.ev, X.evs, evl, tblS, List.getD_cons_zero, List.getD_cons_succ, List.getElem?_cons_zero, hhas, tt_b, Option.isSome_some]; trivial, ?_⟩
  rw [go_br]
  simp only [X.ev, X.evs, evl, tblS, List.getD_cons_zero, List.getD_cons_succ, List.getElem?_cons_zero, hhas, tt_b, Option.getD_some]
  refine ⟨fun hb => ?_, fun hb => ?_⟩
  · have hb : bitW W a = false := by simpa using hb
    simp only [hb, Bool.false_eq_true, if_false]
    have hset' := hset (W.getD (a / 64) 0 ||| 2 ^ (a % 64))
    simp only [q00, go_br, q01, q02, allSay, X.says, X.ev, X.evs, evl, tblS, List.getD_cons_zero, List.getD_cons_succ, List.getElem?_cons_zero, List.getElem?_cons_succ, tt_b, int_i, str_s, rs_r, Option.isSome_some, Option.getD_some, decide_eq_true_eq, decide_eq_false_iff_not, gnE, List.length_map, gnF, gnL, decide_true, decide_false, Bool.or_true, true_and, and_true, f8_6, f13_63, hget, f15 h64, f14, f0, hcell, Int.toNat_natCast, hset', rs_r, List.length_append, List.length_cons, List.length_nil]
    refine ⟨⟨by omega, by omega, by omega, by omega, by omega, by omega, by omega, by omega, by omega, by omega⟩, ⟨by omega, by omega, by omega, by omega⟩, ?_⟩
    rfl
  · have hb : bitW W a = true := by simpa using hb
    simp only [hb, if_true, q01, X.evs, X.ev, evl, List.getD_cons_zero, List.getD_cons_succ]
end Go.Proofs.Ytmebmpgffhajbaa


namespace Go.Proofs.Ytmebmpgffhajbaa
open Go.RowKit
set_option linter.unusedVariables false
set_option linter.unusedSimpArgs false

def cntS (s : So) (c : Ce) : Nat := if c.t = 0 then 1 else if c.t = 3 then (s.ys.getD (cellAt s c.n).n.toNat default).ar.toNat + 1 else if c.t = 5 then 3 else 0
def tgS (s : So) (c : Ce) : List Nat := (List.range (cntS s c)).map (c.n.toNat + ·)
def oldsS (s : So) (a : Nat) : List Ce := (s.tr.filter fun u => decide (u.at' = (a : Int))).map (·.old)
def rootsC (s : So) (r : Ro) : List Ce := r.cs ++ s.wk.flatMap fun w => [w.att, w.val]
structure Gce (s : So) (c : Ce) : Prop where
  b : c.t = 0 ∨ c.t = 3 ∨ c.t = 5 → 0 ≤ c.n ∧ c.n + cntS s c ≤ s.cs.length
  y : c.t = 3 → 0 ≤ (cellAt s c.n).n ∧ (cellAt s c.n).n < s.ys.length ∧ 0 ≤ (s.ys.getD (cellAt s c.n).n.toNat default).ar
structure VG (s : So) (r : Ro) : Prop where
  cell : ∀ i : Nat, i < s.cs.length → Gce s (cellAt s (i : Nat))
  old : ∀ u ∈ s.tr, 0 ≤ u.at' ∧ u.at' < s.cs.length ∧ Gce s u.old
  root : ∀ c ∈ rootsC s r, Gce s c

theorem tg_lt {s : So} {c : Ce} (h : Gce s c) {x : Nat} (hx : x ∈ tgS s c) : x < s.cs.length := by
  unfold tgS at hx
  obtain ⟨i, hi, rfl⟩ := List.mem_map.1 hx
  have hi := List.mem_range.1 hi
  have ht : c.t = 0 ∨ c.t = 3 ∨ c.t = 5 := by
    unfold cntS at hi
    split at hi
    · exact .inl ‹_›
    · split at hi
      · exact .inr (.inl ‹_›)
      · split at hi
        · exact .inr (.inr ‹_›)
        · omega
  obtain ⟨h1, h2⟩ := h.b ht
  omega
theorem tg_mem {s : So} {c : Ce} {x : Nat} : x ∈ tgS s c ↔ ∃ j, j < cntS s c ∧ x = c.n.toNat + j := by
  unfold tgS
  rw [List.mem_map]
  exact ⟨fun ⟨j, h, e⟩ => ⟨j, List.mem_range.1 h, e.symm⟩, fun ⟨j, h, e⟩ => ⟨j, List.mem_range.2 h, e.symm⟩⟩

inductive Rch (s : So) (r : Ro) : Nat → Prop
  | root {c : Ce} {x : Nat} : c ∈ rootsC s r → x ∈ tgS s c → Rch s r x
  | cell {y x : Nat} : Rch s r y → x ∈ tgS s (cellAt s (y : Nat)) → Rch s r x
  | old {y x : Nat} {c : Ce} : Rch s r y → c ∈ oldsS s y → x ∈ tgS s c → Rch s r x

theorem olds_good {s : So} {r : Ro} (h : VG s r) {y : Nat} {c : Ce} (hc : c ∈ oldsS s y) : Gce s c := by
  obtain ⟨u, hu, rfl⟩ := List.mem_map.1 hc
  exact (h.old u (List.mem_filter.1 hu).1).2.2
theorem Rch.lt {s : So} {r : Ro} (h : VG s r) {x : Nat} (hx : Rch s r x) : x < s.cs.length := by
  induction hx with
  | root hc hx => exact tg_lt (h.root _ hc) hx
  | cell _ hx ih => exact tg_lt (h.cell _ ih) hx
  | old _ hc hx ih => exact tg_lt (olds_good h hc) hx
theorem Rch.of_closed {s : So} {r : Ro} {P : Nat → Prop} (h0 : ∀ c ∈ rootsC s r, ∀ x ∈ tgS s c, P x) (h1 : ∀ y, P y → ∀ x ∈ tgS s (cellAt s (y : Nat)), P x) (h2 : ∀ y, P y → ∀ c ∈ oldsS s y, ∀ x ∈ tgS s c, P x) {x : Nat} (hx : Rch s r x) : P x := by
  induction hx with
  | root hc hx => exact h0 _ hc _ hx
  | cell _ hx ih => exact h1 _ ih _ hx
  | old _ hc hx ih => exact h2 _ ih _ hc _ hx

noncomputable def Mk (s : So) (r : Ro) (i : Nat) : Bool := @decide (Rch s r i) (Classical.propDecidable _)
theorem Mk_iff {s : So} {r : Ro} {i : Nat} : Mk s r i = true ↔ Rch s r i := by
  unfold Mk
  exact @decide_eq_true_iff _ (Classical.propDecidable _)

def wbits (f : Nat → Bool) (k : Nat) : Nat → Nat
  | 0 => 0
  | j + 1 => wbits f k j + if f (k * 64 + j) then 2 ^ j else 0
def wordsOf (len : Nat) (f : Nat → Bool) : List Nat := (List.range len).map fun k => wbits f k 64
theorem wbits_lt (f : Nat → Bool) (k m : Nat) : wbits f k m < 2 ^ m := by
  induction m with
  | zero => simp [wbits]
  | succ m ih =>
    unfold wbits
    rw [Nat.pow_succ]
    split <;> omega
theorem wbits_bit (f : Nat → Bool) (k m j : Nat) : (wbits f k m).testBit j = (decide (j < m) && f (k * 64 + j)) := by
  induction m with
  | zero => simp [wbits]
  | succ m ih =>
    unfold wbits
    have hlt := wbits_lt f k m
    cases hf : f (k * 64 + m) with
    | false =>
      simp only [Bool.false_eq_true, if_false, Nat.add_zero, ih]
      by_cases h : j = m
      · subst h
        simp [hf]
      · by_cases h2 : j < m
        · simp [h2, Nat.lt_succ_of_lt h2]
        · have : ¬ j < m + 1 := by omega
          simp [h2, this]
    | true =>
      simp only [if_true]
      rw [Nat.add_comm]
      by_cases h : j = m
      · subst h
        rw [Nat.testBit_two_pow_add_eq, Nat.testBit_lt_two_pow hlt]
        simp [hf]
      · by_cases h2 : j < m
        · rw [Nat.testBit_two_pow_add_gt h2, ih]
          simp [h2, Nat.lt_succ_of_lt h2]
        · have h3 : ¬ j < m + 1 := by omega
          have h4 : 2 ^ m + wbits f k m < 2 ^ j := by
            have h5 : 2 ^ (m + 1) ≤ 2 ^ j := Nat.pow_le_pow_right (by omega) (by omega)
            rw [Nat.pow_succ] at h5
            omega
          rw [Nat.testBit_lt_two_pow h4]
          simp [h3]
theorem words_len (len : Nat) (f : Nat → Bool) : (wordsOf len f).length = len := by simp [wordsOf]
theorem words_bit {len : Nat} {f : Nat → Bool} {i : Nat} (h : i / 64 < len) : bitW (wordsOf len f) i = f i := by
  unfold bitW wordsOf
  have e : ((List.range len).map fun k => wbits f k 64).getD (i / 64) 0 = wbits f (i / 64) 64 := by
    rw [List.getD_eq_getElem?_getD, List.getElem?_map, List.getElem?_range h]
    rfl
  rw [e, wbits_bit]
  have h1 : i % 64 < 64 := Nat.mod_lt _ (by omega)
  have h2 : i / 64 * 64 + i % 64 = i := by omega
  simp [h1, h2]
theorem words_eq {W : List Nat} {len : Nat} {f : Nat → Bool} (hl : W.length = len) (hW : ∀ x ∈ W, x < 18446744073709551616) (h : ∀ i, i / 64 < len → bitW W i = f i) : W = wordsOf len f := by
  refine List.ext_getElem (by rw [hl, words_len]) fun k h1 h2 => ?_
  have hk : k < len := by omega
  have e : (wordsOf len f)[k] = wbits f k 64 := by simp [wordsOf]
  rw [e]
  refine Nat.eq_of_testBit_eq fun j => ?_
  rw [wbits_bit]
  by_cases hj : j < 64
  · have := h (k * 64 + j) (by omega)
    unfold bitW at this
    rw [show (k * 64 + j) / 64 = k by omega, show (k * 64 + j) % 64 = j by omega, List.getD_eq_getElem?_getD, List.getElem?_eq_getElem h1] at this
    simp only [Option.getD_some] at this
    rw [this]
    simp [hj]
  · have h3 := hW _ (List.getElem_mem h1)
    have h4 : W[k] < 2 ^ j := Nat.lt_of_lt_of_le h3 (Nat.pow_le_pow_right (n := 2) (by omega) (by omega) : 2 ^ 64 ≤ 2 ^ j)
    rw [Nat.testBit_lt_two_pow h4]
    simp [hj]
theorem set_bit {W : List Nat} {a i : Nat} (ha : a / 64 < W.length) : bitW (setW W a) i = (bitW W i || decide (i = a)) := by
  unfold bitW setW
  by_cases h : i / 64 = a / 64
  · rw [h]
    have e : (W.set (a / 64) (W.getD (a / 64) 0 ||| 2 ^ (a % 64))).getD (a / 64) 0 = W.getD (a / 64) 0 ||| 2 ^ (a % 64) := by
      rw [List.getD_eq_getElem?_getD, List.getElem?_set_self ha]
      rfl
    rw [e, Nat.testBit_or, Nat.testBit_two_pow]
    congr 1
    simp only [decide_eq_decide]
    omega
  · have e : (W.set (a / 64) (W.getD (a / 64) 0 ||| 2 ^ (a % 64))).getD (i / 64) 0 = W.getD (i / 64) 0 := by
      rw [List.getD_eq_getElem?_getD, List.getElem?_set_ne (fun e => h e.symm), ← List.getD_eq_getElem?_getD]
    have : ¬ i = a := fun e => h (by rw [e])
    rw [e]
    simp [this]
theorem set_len (W : List Nat) (a : Nat) : (setW W a).length = W.length := by simp [setW]
theorem set_lt {W : List Nat} {a : Nat} (hW : ∀ x ∈ W, x < 18446744073709551616) : ∀ x ∈ setW W a, x < 18446744073709551616 := by
  intro x hx
  rcases List.mem_or_eq_of_mem_set hx with h | rfl
  · exact hW x h
  · have h1 : W.getD (a / 64) 0 < 2 ^ 64 := by
      rw [List.getD_eq_getElem?_getD]
      cases h : W[a / 64]? with
      | none => simp
      | some y => exact hW y (List.mem_of_getElem? h)
    have h2 : 2 ^ (a % 64) < 2 ^ 64 := Nat.pow_lt_pow_right (by omega) (Nat.mod_lt _ (by omega))
    exact Nat.or_lt_two_pow h1 h2
theorem bit_zero {n i : Nat} : bitW (List.replicate n 0) i = false := by
  unfold bitW
  have : (List.replicate n 0).getD (i / 64) 0 = 0 := by
    rw [List.getD_eq_getElem?_getD, List.getElem?_replicate]
    split <;> rfl
  rw [this]
  simp

theorem addK_get {k k' x : D} : ∀ {m : List D}, (((mfind k' (addK k x m)).getD (.r [])).rs) = ((mfind k' m).getD (.r [])).rs ++ if k' = k then [x] else []
  | [] => by
    by_cases h : k' = k
    · subst h
      simp [addK, mfind, D.fld, D.fs, D.rs]
    · have : ¬ D.fld (.a [k, .r [x]]) 0 = k' := fun e => h e.symm
      simp only [addK, mfind, if_neg this, if_neg h]
      simp
  | p :: m => by
    unfold addK
    split
    · rename_i hp
      by_cases h : k' = k
      · subst h
        have h1 : D.fld (.a [k', .r ((p.fld 1).rs ++ [x])]) 0 = k' := rfl
        simp only [mfind, if_pos h1, if_pos hp, if_true, Option.getD_some]
        rfl
      · have h1 : ¬ D.fld (.a [k, .r ((p.fld 1).rs ++ [x])]) 0 = k' := fun e => h e.symm
        have h2 : ¬ p.fld 0 = k' := fun e => h (e.symm.trans hp)
        simp only [mfind, if_neg h1, if_neg h2, if_neg h]
        simp
    · by_cases h : p.fld 0 = k'
      · have : ¬ k' = k := fun e => by subst e; exact absurd h ‹_›
        simp only [mfind, if_pos h, if_neg this]
        simp
      · simp only [mfind, if_neg h]
        exact addK_get
theorem grp_get (k : D) : ∀ (l m : List D), ((mfind k (l.foldl (fun m y => addK (y.fld 0) (y.fld 1) m) m)).getD (.r [])).rs = ((mfind k m).getD (.r [])).rs ++ (l.filter fun y => decide (k = y.fld 0)).map (·.fld 1)
  | [], m => by simp
  | y :: l, m => by
    rw [List.foldl_cons, grp_get k l, addK_get, List.append_assoc]
    congr 1
    by_cases h : k = y.fld 0
    · simp [h]
    · simp [h]
theorem grp_olds (s : So) (a : Nat) : ((mfind (.i (a : Int)) (fnD 16 [(eS s).fld 2]).ms).getD (.r [])).rs = (oldsS s a).map eC := by
  have e : (fnD 16 [(eS s).fld 2]).ms = (s.tr.map eU).foldl (fun m y => addK (y.fld 0) (y.fld 1) m) [] := rfl
  rw [e, grp_get]
  have h0 : ((mfind (.i (a : Int)) []).getD (.r [])).rs = [] := rfl
  rw [h0, List.nil_append]
  unfold oldsS
  induction s.tr with
  | nil => rfl
  | cons u l ih =>
    simp only [List.map_cons, List.filter_cons, eU_0, i_inj]
    by_cases h : u.at' = (a : Int)
    · simp only [h, decide_true, if_true, List.map_cons, eU_1, ih]
    · have h' : ¬ (a : Int) = u.at' := fun e => h e.symm
      simp only [h, h', decide_false, Bool.false_eq_true, if_false, ih]

def potW (s : So) (W : List Nat) : Nat := ((List.range s.cs.length).map fun i => if bitW W i then 0 else 1 + (oldsS s i).length).sum
theorem sum_upd {f g : Nat → Nat} {a d : Nat} : ∀ {n : Nat}, (∀ i, i < n → i ≠ a → f i = g i) → f a = g a + d → ((List.range n).map f).sum = ((List.range n).map g).sum + if a < n then d else 0
  | 0, _, _ => by simp
  | n + 1, h, ha => by
    rw [List.range_succ, List.map_append, List.map_append, List.sum_append, List.sum_append, sum_upd (n := n) (fun i hi hne => h i (by omega) hne) ha]
    by_cases hn : n = a
    · have e1 : (if a < n then d else 0) = 0 := if_neg (by omega)
      have e2 : (if a < n + 1 then d else 0) = d := if_pos (by omega)
      rw [e1, e2, hn]
      simp only [List.map_cons, List.map_nil, List.sum_cons, List.sum_nil, ha]
      omega
    · have := h n (by omega) hn
      simp only [List.map_cons, List.map_nil, List.sum_cons, List.sum_nil, this]
      by_cases h2 : a < n
      · rw [if_pos h2, if_pos (by omega)]
        omega
      · rw [if_neg h2, if_neg (by omega)]
        omega
theorem pot_set {s : So} {W : List Nat} {a : Nat} (ha : a < s.cs.length) (hl : a / 64 < W.length) (hb : bitW W a = false) : potW s W = potW s (setW W a) + (1 + (oldsS s a).length) := by
  unfold potW
  rw [sum_upd (a := a) (d := 1 + (oldsS s a).length) (g := fun i => if bitW (setW W a) i then 0 else 1 + (oldsS s i).length), if_pos ha]
  · intro i hi hne
    simp only [set_bit hl]
    simp [hne]
  · simp only [set_bit hl, hb]
    simp
theorem olds_le (s : So) (a : Nat) : (oldsS s a).length ≤ s.tr.length := by
  unfold oldsS
  rw [List.length_map]
  exact List.length_filter_le _ _
theorem pot_le (s : So) (W : List Nat) : potW s W ≤ s.cs.length * (1 + s.tr.length) := by
  unfold potW
  generalize s.cs.length = n
  induction n with
  | zero => simp
  | succ n ih =>
    rw [List.range_succ, List.map_append, List.sum_append, Nat.add_mul]
    simp only [List.map_cons, List.map_nil, List.sum_cons, List.sum_nil]
    have := olds_le s n
    split <;> omega

def Due (s : So) (r : Ro) (W : List Nat) (c : Ce) : Prop := c ∈ rootsC s r ∨ ∃ y : Nat, bitW W y = true ∧ (c = cellAt s (y : Nat) ∨ c ∈ oldsS s y)
structure PJ (s : So) (r : Ro) (E : Ce → Prop) (W : List Nat) (T : List Ce) (m : Nat) : Prop where
  len : W.length = s.cs.length / 64 + 1
  lt : ∀ x ∈ W, x < 18446744073709551616
  sound : ∀ i, bitW W i = true → Rch s r i
  good : ∀ c ∈ T, Gce s c ∧ ∀ x ∈ tgS s c, Rch s r x
  due : ∀ c, Due s r W c → E c ∨ c ∈ T ∨ ∀ x ∈ tgS s c, bitW W x = true
  wt : T.length + potW s W = m

theorem PJ.bound {s : So} {r : Ro} (hv : VG s r) {E : Ce → Prop} {W : List Nat} {T : List Ce} {m : Nat} (h : PJ s r E W T m) {i : Nat} (hi : i < s.cs.length) : i / 64 < W.length := by
  rw [h.len]
  omega

theorem PJ.visit {s : So} {r : Ro} (hv : VG s r) {E : Ce → Prop} {W : List Nat} {T : List Ce} {m a : Nat} (h : PJ s r E W T m) (ha : Rch s r a) (hb : bitW W a = false) :
    PJ s r E (setW W a) (T ++ [cellAt s (a : Nat)] ++ oldsS s a) m := by
  have hal := ha.lt hv
  have hl := h.bound hv hal
  refine ⟨by rw [set_len]; exact h.len, set_lt h.lt, fun i hi => ?_, fun c hc => ?_, fun c hc => ?_, ?_⟩
  · rw [set_bit hl, Bool.or_eq_true, decide_eq_true_eq] at hi
    rcases hi with hi | rfl
    · exact h.sound i hi
    · exact ha
  · rcases List.mem_append.1 hc with hc | hc
    · rcases List.mem_append.1 hc with hc | hc
      · exact h.good c hc
      · rw [List.mem_singleton] at hc
        subst hc
        exact ⟨hv.cell a hal, fun x hx => .cell ha hx⟩
    · exact ⟨olds_good hv hc, fun x hx => .old ha hc hx⟩
  · have mono : ∀ x, bitW W x = true → bitW (setW W a) x = true := fun x hx => by rw [set_bit hl, hx]; rfl
    have keep : Due s r W c → E c ∨ c ∈ T ++ [cellAt s (a : Nat)] ++ oldsS s a ∨ ∀ x ∈ tgS s c, bitW (setW W a) x = true := fun hd => by
      rcases h.due c hd with h1 | h1 | h1
      · exact .inl h1
      · exact .inr (.inl (by simp [h1]))
      · exact .inr (.inr fun x hx => mono x (h1 x hx))
    rcases hc with hc | ⟨y, hy, hc⟩
    · exact keep (.inl hc)
    · rw [set_bit hl, Bool.or_eq_true, decide_eq_true_eq] at hy
      rcases hy with hy | rfl
      · exact keep (.inr ⟨y, hy, hc⟩)
      · rcases hc with rfl | hc
        · exact .inr (.inl (by simp))
        · exact .inr (.inl (by simp [hc]))
  · have h1 := pot_set hal hl hb
    have h2 := h.wt
    simp only [List.length_append, List.length_singleton]
    omega

theorem PJ.done {s : So} {r : Ro} (hv : VG s r) {W : List Nat} {m : Nat} (h : PJ s r (fun _ => False) W [] m) : W = wordsOf (s.cs.length / 64 + 1) (Mk s r) := by
  refine words_eq h.len h.lt fun i hi => ?_
  have hdue : ∀ c, Due s r W c → ∀ x ∈ tgS s c, bitW W x = true := fun c hc => by
    rcases h.due c hc with h1 | h1 | h1
    · exact h1.elim
    · cases h1
    · exact h1
  rw [Bool.eq_iff_iff, Mk_iff]
  exact ⟨h.sound i, fun hr => Rch.of_closed (P := fun x => bitW W x = true) (fun c hc => hdue c (.inl hc)) (fun y hy => hdue _ (.inr ⟨y, hy, .inl rfl⟩)) (fun y hy c hc => hdue c (.inr ⟨y, hy, .inr hc⟩)) hr⟩
end Go.Proofs.Ytmebmpgffhajbaa


namespace Go.Proofs.Ytmebmpgffhajbaa
open Go.RowKit
set_option linter.unusedVariables false
set_option linter.unusedSimpArgs false

theorem gce_vc {s : So} (h : validR s = true) {c : Ce} (hc : vcR s c = true) : Gce s c := by
  unfold vcR at hc
  by_cases h0 : c.t = 0
  · rw [if_pos h0] at hc
    simp only [Bool.and_eq_true] at hc
    have := inS_iff.1 hc.1
    refine ⟨fun _ => ⟨this.1, ?_⟩, fun h3 => by omega⟩
    rw [cntS, if_pos h0]
    omega
  · rw [if_neg h0] at hc
    by_cases h1 : c.t = 1
    · exact ⟨fun h => by omega, fun h => by omega⟩
    · rw [if_neg h1] at hc
      by_cases h2 : c.t = 2
      · exact ⟨fun h => by omega, fun h => by omega⟩
      · rw [if_neg h2] at hc
        by_cases h3 : c.t = 3
        · rw [if_pos h3, decide_eq_true_eq] at hc
          have hi := tag_in' (by omega) hc
          rw [tagS_in hi] at hc
          obtain ⟨a1, a2, a3⟩ := vr_fun h hi hc
          have hi' := inS_iff.1 hi
          have ha : 0 ≤ (cellAt s c.n).n ∧ (cellAt s c.n).n < s.ys.length ∧ arS s (cellAt s c.n).n = (s.ys.getD (cellAt s c.n).n.toNat default).ar := by
            unfold arS at a1 ⊢
            split at a1
            · rename_i hq
              exact ⟨hq.1, hq.2, by rw [if_pos hq]⟩
            · omega
          have h4 := inS_iff.1 (a3 ((arS s (cellAt s c.n).n).toNat - 1) (by omega)).1
          refine ⟨fun _ => ⟨hi'.1, ?_⟩, fun _ => ⟨ha.1, ha.2.1, by rw [← ha.2.2]; omega⟩⟩
          rw [cntS, if_neg h0, if_pos h3, ← ha.2.2]
          omega
        · rw [if_neg h3] at hc
          by_cases h5 : c.t = 5
          · rw [if_pos h5, decide_eq_true_eq] at hc
            have hi := tag_in' (by omega) hc
            rw [tagS_in hi] at hc
            have hcell := vr_cell h hi
            unfold cellR at hcell
            rw [if_neg (by omega)] at hcell
            simp only [Bool.and_eq_true, hc, decide_true, Bool.not_true, Bool.false_or, groupS, decide_eq_true_eq] at hcell
            have h6 := inS_iff.1 (tag_nn hcell.2.2.2.2.2.2.1)
            have hi' := inS_iff.1 hi
            refine ⟨fun _ => ⟨hi'.1, ?_⟩, fun h => by omega⟩
            rw [cntS, if_neg h0, if_neg h3, if_pos h5]
            omega
          · rw [if_neg h5] at hc
            cases hc
theorem gce_cell {s : So} (h : validR s = true) {i : Int} (hi : inS s i = true) : Gce s (cellAt s i) := by
  by_cases ht : (cellAt s i).t = 4
  · exact ⟨fun h => by omega, fun h => by omega⟩
  · exact gce_vc h (vr_vc h hi ht)
theorem vr_old {s : So} (h : validR s = true) {u : Un} (hu : u ∈ s.tr) : oldR s u = true := by
  simp only [validR, Bool.and_eq_true] at h
  obtain ⟨i, hi, rfl⟩ := List.mem_iff_getElem.1 hu
  have := all_of h.2.2.1 (k := i) hi
  simpa [List.getD_eq_getElem?_getD, hi] using this
theorem vr_wk {s : So} (h : validR s = true) {w : Wk} (hw : w ∈ s.wk) : wkB vcR s w = true := by
  simp only [validR, Bool.and_eq_true] at h
  obtain ⟨i, hi, rfl⟩ := List.mem_iff_getElem.1 hw
  have := all_of h.2.2.2 (k := i) hi
  simpa [List.getD_eq_getElem?_getD, hi] using this
theorem gce_old {s : So} (h : validR s = true) {u : Un} (hu : oldR s u = true) : inS s u.at' = true ∧ Gce s u.old := by
  unfold oldR oldB at hu
  rw [Bool.and_eq_true] at hu
  obtain ⟨hi, hu⟩ := hu
  have hi' := inS_iff.1 hi
  refine ⟨hi, ?_⟩
  by_cases h0 : u.old.t = 0
  · rw [if_pos h0, decide_eq_true_eq] at hu
    refine ⟨fun _ => ⟨by omega, ?_⟩, fun h => by omega⟩
    rw [cntS, if_pos h0]
    omega
  · rw [if_neg h0] at hu
    by_cases h5 : u.old.t = 5
    · rw [if_pos h5] at hu
      simp only [Bool.and_eq_true, groupS, decide_eq_true_eq] at hu
      have h6 := inS_iff.1 (tag_nn hu.2.1.2.2.2.1)
      refine ⟨fun _ => ⟨by omega, ?_⟩, fun h => by omega⟩
      rw [cntS, if_neg h0, if_neg (by omega), if_pos h5]
      omega
    · rw [if_neg h5] at hu
      by_cases h1 : u.old.t = 1 ∨ u.old.t = 2 ∨ u.old.t = 3
      · rw [if_pos h1] at hu
        exact gce_vc h hu
      · rw [if_neg h1] at hu
        cases hu
theorem okR_parts {s : So} {r : Ro} (h : okR validR vcR s r = true) : validR s = true ∧ (∀ c ∈ r.cs, vcR s c = true) ∧ (∀ x ∈ r.tp, 0 ≤ x ∧ x ≤ s.cs.length) ∧ ∀ x ∈ r.ms, 0 ≤ x ∧ x ≤ s.tr.length := by
  simp only [okR, Bool.and_eq_true] at h
  refine ⟨h.1, fun c hc => ?_, fun x hx => ?_, fun x hx => ?_⟩
  · obtain ⟨i, hi, rfl⟩ := List.mem_iff_getElem.1 hc
    have := all_of h.2.1 (k := i) hi
    simpa [List.getD_eq_getElem?_getD, hi] using this
  · obtain ⟨i, hi, rfl⟩ := List.mem_iff_getElem.1 hx
    have := all_of h.2.2.1 (k := i) hi
    simpa [List.getD_eq_getElem?_getD, hi, inN] using this
  · obtain ⟨i, hi, rfl⟩ := List.mem_iff_getElem.1 hx
    have := all_of h.2.2.2 (k := i) hi
    simpa [List.getD_eq_getElem?_getD, hi, inN] using this
theorem roots_mem {s : So} {r : Ro} {c : Ce} (h : c ∈ rootsC s r) : c ∈ r.cs ∨ ∃ w ∈ s.wk, c = w.att ∨ c = w.val := by
  rcases List.mem_append.1 h with h | h
  · exact .inl h
  · obtain ⟨w, hw, hc⟩ := List.mem_flatMap.1 h
    exact .inr ⟨w, hw, by simpa using hc⟩
theorem vc_root {s : So} {r : Ro} (h : okR validR vcR s r = true) {c : Ce} (hc : c ∈ rootsC s r) : vcR s c = true := by
  obtain ⟨h1, h2, -, -⟩ := okR_parts h
  rcases roots_mem hc with hc | ⟨w, hw, hc⟩
  · exact h2 c hc
  · have := vr_wk h1 hw
    simp only [wkB, Bool.and_eq_true] at this
    rcases hc with rfl | rfl
    · exact this.2.2.1
    · exact this.2.2.2
theorem vg_of {s : So} {r : Ro} (h : okR validR vcR s r = true) : VG s r := by
  obtain ⟨h1, h2, -, -⟩ := okR_parts h
  refine ⟨fun i hi => gce_cell h1 (inS_iff.2 ⟨by omega, by omega⟩), fun u hu => ?_, fun c hc => gce_vc h1 (vc_root h hc)⟩
  obtain ⟨a, b⟩ := gce_old h1 (vr_old h1 hu)
  exact ⟨(inS_iff.1 a).1, (inS_iff.1 a).2, b⟩

theorem roots_len (s : So) (r : Ro) : (rootsC s r).length = r.cs.length + 2 * s.wk.length := by
  unfold rootsC
  rw [List.length_append]
  congr 1
  induction s.wk with
  | nil => rfl
  | cons w l ih => simp only [List.flatMap_cons, List.length_append, List.length_cons, List.length_nil, ih]; omega

abbrev xPop : X := (.get (.tok 5) (.sub (.len (.tok 5)) (.lit (.i 1))))
def inT (bnd : X) : Tree := (.loop 27 6 [(.lit (.i 0)), (.tok 4), (.cut (.tok 5) (.lit (.i 0)) (.sub (.len (.tok 5)) (.lit (.i 1))))] (.br (.lt (.tok 6) bnd) (.need [(.rng .i64 (.add (.fld (.get (.tok 5) (.sub (.len (.tok 5)) (.lit (.i 1)))) 1) (.tok 6))), (.ok 0 [(.add (.fld (.get (.tok 5) (.sub (.len (.tok 5)) (.lit (.i 1)))) 1) (.tok 6)), (.tok 7), (.tok 8), (.tok 0), (.fn 16 [(.fld (.tok 0) 2)])])] (.need [(.rng .i64 (.add (.tok 6) (.lit (.i 1))))] (.back 27 [(.add (.tok 6) (.lit (.i 1))), (.call 0 0 [(.add (.fld (.get (.tok 5) (.sub (.len (.tok 5)) (.lit (.i 1)))) 1) (.tok 6)), (.tok 7), (.tok 8), (.tok 0), (.fn 16 [(.fld (.tok 0) 2)])]), (.call 0 1 [(.add (.fld (.get (.tok 5) (.sub (.len (.tok 5)) (.lit (.i 1)))) 1) (.tok 6)), (.tok 7), (.tok 8), (.tok 0), (.fn 16 [(.fld (.tok 0) 2)])])]))) (.back 16 [(.tok 7), (.tok 8)])))
theorem in_ok {s : So} {r : Ro} (hv : VG s r) {W : List Nat} {T : List Ce} {c : Ce} {m : Nat} {bnd : X} {k : Int} {R0 : List D} {R : List D → Prop} {B : Nat → List D → Prop} (hcs : s.cs.length ≤ 300) (htr : s.tr.length ≤ 300) (hm : m ≤ 1000000)
    (hP : PJ s r (fun x => x = c) W T m) (hc : Gce s c) (hcr : ∀ x ∈ tgS s c, Rch s r x) (hbnd : ∀ st : List D, bnd.ev (evl (tblS [(q0g, gVis)]) ([eS s, eR r, .i k, .r R0, .r (W.map eN), .r ((T ++ [c]).map eC)] ++ st)) = .i (cntS s c : Nat))
    (hB : ∀ W' T', PJ s r (fun _ => False) W' T' m → B 16 [.r (W'.map eN), .r (T'.map eC)]) :
    (inT bnd).go (tblS [(q0g, gVis)]) R [eS s, eR r, .i k, .r R0, .r (W.map eN), .r ((T ++ [c]).map eC)] B := by
  have hTl : ((T.map eC ++ [eC c]).length : Int) - 1 = (T.length : Nat) := by simp
  have hpop : (D.r (T.map eC ++ [eC c])).get ((T.length : Nat) : Int) = eC c := by
    show (T.map eC ++ [eC c]).getD ((T.length : Nat) : Int).toNat .u = eC c
    rw [Int.toNat_natCast, List.getD_eq_getElem?_getD, List.getElem?_append_right (by simp)]
    simp
  unfold inT
  rw [q17]
  refine ⟨fun st => ∃ (j : Nat) (W' : List Nat) (T' : List Ce), j ≤ cntS s c ∧ st = [.i j, .r (W'.map eN), .r (T'.map eC)] ∧ PJ s r (fun x => x = c) W' T' m ∧ ∀ i, i < j → bitW W' (c.n.toNat + i) = true, fun st => cntS s c - (st.getD 0 .u).int.toNat, ⟨0, W, T, Nat.zero_le _, ?_, hP, fun i hi => absurd hi (Nat.not_lt_zero _)⟩, ?_⟩
  · simp only [q00, go_br, q01, q02, allSay, X.says, X.ev, X.evs, evl, tblS, List.getD_cons_zero, List.getD_cons_succ, List.getElem?_cons_zero, List.getElem?_cons_succ, tt_b, int_i, str_s, rs_r, Option.isSome_some, Option.getD_some, decide_eq_true_eq, decide_eq_false_iff_not, gnE, List.length_map, gnF, gnL, decide_true, decide_false, Bool.or_true, true_and, and_true, List.map_append, List.map_cons, List.map_nil, hTl, Int.toNat_natCast]
    have : ((T.map eC ++ [eC c]).take T.length).drop 0 = T.map eC := by
      rw [List.drop_zero, ← List.length_map (f := eC), List.take_left]
    simp [this]
  rintro st - ⟨j, W', T', hj, rfl, hP', hpre⟩
  have hb := hbnd [.i j, .r (W'.map eN), .r (T'.map eC)]
  simp only [List.map_append, List.map_cons, List.map_nil, List.cons_append, List.nil_append] at hb
  have hTlen : T'.length ≤ m := by have := hP'.wt; omega
  rw [go_br]
  simp only [X.ev, evl, List.take_succ_cons, List.take_zero, List.map_append, List.map_cons, List.map_nil, List.cons_append, List.nil_append, List.getD_cons_succ, List.getD_cons_zero, tt_b, decide_eq_true_eq, decide_eq_false_iff_not]
  simp only [evl] at hb
  rw [hb]
  simp only [int_i]
  refine ⟨fun hlt => ?_, fun hlt => ?_⟩
  · have hlt : j < cntS s c := by omega
    have hxm : c.n.toNat + j ∈ tgS s c := tg_mem.2 ⟨j, hlt, rfl⟩
    have hr := hcr _ hxm
    have ha := hr.lt hv
    have hl := hP'.bound hv ha
    have hcn : 0 ≤ c.n := by
      have ht : c.t = 0 ∨ c.t = 3 ∨ c.t = 5 := by
        unfold cntS at hlt
        split at hlt
        · exact .inl ‹_›
        · split at hlt
          · exact .inr (.inl ‹_›)
          · split at hlt
            · exact .inr (.inr ‹_›)
            · omega
      exact (hc.b ht).1
    have hadd : c.n + (j : Int) = ((c.n.toNat + j : Nat) : Int) := by omega
    have hol := olds_le s (c.n.toNat + j)
    have hgr := grp_olds s (c.n.toNat + j)
    rw [eS_2] at hgr
    have hvis : gVis [.i ((c.n.toNat + j : Nat) : Int), .r (W'.map eN), .r (T'.map eC), eS s, fnD 16 [.r (s.tr.map eU)]] = some (if bitW W' (c.n.toNat + j) then [.r (W'.map eN), .r (T'.map eC)] else [.r ((setW W' (c.n.toNat + j)).map eN), .r ((T' ++ [cellAt s ((c.n.toNat + j : Nat) : Int)] ++ oldsS s (c.n.toNat + j)).map eC)]) := by
      simp only [gVis, mN, dS_eS, hgr, List.length_map, Int.toNat_natCast]
      rw [if_pos]
      · simp only [List.map_append, List.map_cons, List.map_nil]
      · simp only [Bool.and_eq_true, decide_eq_true_eq]
        exact ⟨by omega, by omega, hl, by omega⟩
    simp only [q00, go_br, q01, q02, allSay, X.says, X.ev, X.evs, evl, tblS, List.getD_cons_zero, List.getD_cons_succ, List.getElem?_cons_zero, List.getElem?_cons_succ, tt_b, int_i, str_s, rs_r, Option.isSome_some, Option.getD_some, decide_eq_true_eq, decide_eq_false_iff_not, gnE, List.length_map, gnF, gnL, decide_true, decide_false, Bool.or_true, true_and, and_true, List.map_append, List.map_cons, List.map_nil, hTl, hpop, hadd, hvis]
    have hi1 := hj
    have hcnt : cntS s c ≤ 300 := by
      have := tg_lt hc (tg_mem.2 ⟨cntS s c - 1, by omega, rfl⟩)
      omega
    refine ⟨⟨by omega, by omega⟩, ⟨by omega, by omega⟩, ?_⟩
    rw [updB, if_pos rfl]
    cases hbit : bitW W' (c.n.toNat + j) with
    | true =>
      simp only [if_true, Option.getD_some, List.getD_cons_zero, List.getD_cons_succ]
      refine ⟨⟨j + 1, W', T', hlt, by simp, hP', fun i hi => ?_⟩, by simp [D.int]; omega⟩
      by_cases h : i < j
      · exact hpre i h
      · obtain rfl : i = j := by omega
        exact hbit
    | false =>
      simp only [Bool.false_eq_true, if_false, Option.getD_some, List.getD_cons_zero, List.getD_cons_succ]
      refine ⟨⟨j + 1, setW W' (c.n.toNat + j), T' ++ [cellAt s ((c.n.toNat + j : Nat) : Int)] ++ oldsS s (c.n.toNat + j), hlt, by simp, hP'.visit hv hr hbit, fun i hi => ?_⟩, by simp [D.int]; omega⟩
      rw [set_bit hl]
      by_cases h : i < j
      · rw [hpre i h]; rfl
      · obtain rfl : i = j := by omega
        simp
  · have hjc : j = cntS s c := by omega
    subst hjc
    simp only [q00, go_br, q01, q02, allSay, X.says, X.ev, X.evs, evl, tblS, List.getD_cons_zero, List.getD_cons_succ, List.getElem?_cons_zero, List.getElem?_cons_succ, tt_b, int_i, str_s, rs_r, Option.isSome_some, Option.getD_some, decide_eq_true_eq, decide_eq_false_iff_not, gnE, List.length_map, gnF, gnL, decide_true, decide_false, Bool.or_true, true_and, and_true]
    rw [updB, if_neg (by decide)]
    refine hB W' T' ⟨hP'.len, hP'.lt, hP'.sound, hP'.good, fun c' hc' => ?_, hP'.wt⟩
    rcases hP'.due c' hc' with rfl | h | h
    · refine .inr (.inr fun x hx => ?_)
      obtain ⟨i, hi, rfl⟩ := tg_mem.1 hx
      exact hpre i hi
    · exact .inr (.inl h)
    · exact .inr (.inr h)
end Go.Proofs.Ytmebmpgffhajbaa


namespace Go.Proofs.Ytmebmpgffhajbaa
open Go.RowKit
set_option linter.unusedVariables false
set_option linter.unusedSimpArgs false

noncomputable def gMark : List D → Option (List D)
  | [s, r] => if okR validR vcR (dS s) (dR r) && smallB (dS s) (dR r) then some [.r ((wordsOf ((dS s).cs.length / 64 + 1) (Mk (dS s) (dR r))).map eN)] else none
  | _ => none
theorem small_parts {s : So} {r : Ro} (h : smallB s r = true) : s.cs.length ≤ 300 ∧ s.ys.length ≤ 100 ∧ s.tr.length ≤ 300 ∧ s.wk.length ≤ 50 ∧ r.cs.length ≤ 50 ∧ r.tp.length ≤ 50 ∧ r.ms.length ≤ 50 := by
  simpa only [smallB, Bool.and_eq_true, decide_eq_true_eq] using h
def wkCs (s : So) (k : Nat) : List Ce := (s.wk.take k).flatMap fun w => [w.att, w.val]
theorem wkCs_len (s : So) (k : Nat) : (wkCs s k).length ≤ 2 * s.wk.length := by
  unfold wkCs
  have h1 : ∀ l : List Wk, (l.flatMap fun w => [w.att, w.val]).length = 2 * l.length := by
    intro l
    induction l with
    | nil => rfl
    | cons w l ih => simp only [List.flatMap_cons, List.length_append, List.length_cons, List.length_nil, ih]; omega
  rw [h1]
  have := List.length_take_le' k s.wk
  omega
theorem wkCs_succ {s : So} {k : Nat} (h : k < s.wk.length) : wkCs s (k + 1) = wkCs s k ++ [(s.wk.getD k default).att, (s.wk.getD k default).val] := by
  unfold wkCs
  rw [take_snoc h, List.flatMap_append]
  simp
theorem start_pj {s : So} {r : Ro} (hv : VG s r) : PJ s r (fun _ => False) (List.replicate (s.cs.length / 64 + 1) 0) (rootsC s r) ((rootsC s r).length + potW s (List.replicate (s.cs.length / 64 + 1) 0)) := by
  refine ⟨by simp, fun x hx => ?_, fun i hi => ?_, fun c hc => ⟨hv.root c hc, fun x hx => .root hc hx⟩, fun c hc => ?_, rfl⟩
  · rw [(List.mem_replicate.1 hx).2]; decide
  · rw [bit_zero] at hi; cases hi
  · rcases hc with hc | ⟨y, hy, -⟩
    · exact .inr (.inl hc)
    · rw [bit_zero] at hy; cases hy
theorem PJ.pop {s : So} {r : Ro} {W : List Nat} {T : List Ce} {c : Ce} {m : Nat} (h : PJ s r (fun _ => False) W (T ++ [c]) m) : PJ s r (fun x => x = c) W T (m - 1) ∧ 0 < m := by
  have hw := h.wt
  rw [List.length_append, List.length_singleton] at hw
  refine ⟨⟨h.len, h.lt, h.sound, fun x hx => h.good x (by simp [hx]), fun x hx => ?_, by omega⟩, by omega⟩
  rcases h.due x hx with h1 | h1 | h1
  · exact h1.elim
  · rcases List.mem_append.1 h1 with h1 | h1
    · exact .inr (.inl h1)
    · exact .inl (by simpa using h1)
  · exact .inr (.inr h1)
theorem PJ.drop {s : So} {r : Ro} {W : List Nat} {T : List Ce} {c : Ce} {m : Nat} (h : PJ s r (fun x => x = c) W T m) (hc : cntS s c = 0) : PJ s r (fun _ => False) W T m := by
  refine ⟨h.len, h.lt, h.sound, h.good, fun x hx => ?_, h.wt⟩
  rcases h.due x hx with rfl | h1 | h1
  · refine .inr (.inr fun y hy => ?_)
    obtain ⟨j, hj, -⟩ := tg_mem.1 hy
    omega
  · exact .inr (.inl h1)
  · exact .inr (.inr h1)

theorem ok_gc_mark : FOk q18 gMark := fok_gc_mark ok_gc_mark_1 fun ds outs hw hg => by
  obtain ⟨s, r, rfl, hs, hr⟩ := sr_of hw
  simp only [gMark, dS_eS, dR_eR, Bool.and_eq_true, Option.ite_none_right_eq_some, Option.some.injEq] at hg
  obtain ⟨⟨hok, hsm⟩, rfl⟩ := hg
  have hv := vg_of hok
  obtain ⟨z1, z2, z3, z4, z5, z6, z7⟩ := small_parts hsm
  have hdiv : s.cs.length / 64 ≤ s.cs.length := Nat.div_le_self _ _
  have hrep : ∀ n : Nat, List.replicate n (D.i 0) = (List.replicate n 0).map eN := fun n => by rw [List.map_replicate]; rfl
  have hn1 : ((s.cs.length / 64 : Nat) : Int) + 1 = ((s.cs.length / 64 + 1 : Nat) : Int) := by omega
  rw [q3j, q00]
  refine ⟨by simp only [q00, go_br, q01, q02, allSay, X.says, X.ev, X.evs, evl, tblS, List.getD_cons_zero, List.getD_cons_succ, List.getElem?_cons_zero, List.getElem?_cons_succ, tt_b, int_i, str_s, rs_r, Option.isSome_some, Option.getD_some, decide_eq_true_eq, decide_eq_false_iff_not, gnE, List.length_map, gnF, gnL, decide_true, decide_false, Bool.or_true, true_and, and_true, f8_6]; omega, ?_⟩
  rw [q00]
  refine ⟨by simp only [q00, go_br, q01, q02, allSay, X.says, X.ev, X.evs, evl, tblS, List.getD_cons_zero, List.getD_cons_succ, List.getElem?_cons_zero, List.getElem?_cons_succ, tt_b, int_i, str_s, rs_r, Option.isSome_some, Option.getD_some, decide_eq_true_eq, decide_eq_false_iff_not, gnE, List.length_map, gnF, gnL, decide_true, decide_false, Bool.or_true, true_and, and_true], ?_⟩
  rw [q00]
  refine ⟨by simp only [q00, go_br, q01, q02, allSay, X.says, X.ev, X.evs, evl, tblS, List.getD_cons_zero, List.getD_cons_succ, List.getElem?_cons_zero, List.getElem?_cons_succ, tt_b, int_i, str_s, rs_r, Option.isSome_some, Option.getD_some, decide_eq_true_eq, decide_eq_false_iff_not, gnE, List.length_map, gnF, gnL, decide_true, decide_false, Bool.or_true, true_and, and_true, eR_0]; omega, ?_⟩
  -- the wakes
  rw [q17]
  refine ⟨fun st => ∃ k : Nat, k ≤ s.wk.length ∧ st = [.i k, .r ((r.cs ++ wkCs s k).map eC)], fun st => s.wk.length - (st.getD 0 .u).int.toNat, ⟨0, Nat.zero_le _, ?_⟩, ?_⟩
  · simp [X.evs, X.ev, evl, eR_0, D.rs, wkCs]
  rintro st - ⟨k, hk, rfl⟩
  have hwl := wkCs_len s k
  rw [go_br]
  refine ⟨fun hlt => ?_, fun hlt => ?_⟩
  · have hkl : k < s.wk.length := by simpa [X.ev, evl, eS_3, D.int, D.rs, D.tt] using hlt
    simp only [q00, go_br, q01, q02, allSay, X.says, X.ev, X.evs, evl, tblS, List.getD_cons_zero, List.getD_cons_succ, List.getElem?_cons_zero, List.getElem?_cons_succ, tt_b, int_i, str_s, rs_r, Option.isSome_some, Option.getD_some, decide_eq_true_eq, decide_eq_false_iff_not, gnE, List.length_map, gnF, gnL, decide_true, decide_false, Bool.or_true, true_and, and_true, get_n eW hkl, List.length_append, List.map_append]
    refine ⟨⟨by omega, by omega⟩, by omega, ⟨by omega, by omega⟩, ?_⟩
    rw [updB, if_pos rfl]
    refine ⟨⟨k + 1, hkl, ?_⟩, by simp [D.int]; omega⟩
    rw [wkCs_succ hkl]
    simp
  have hkk : k = s.wk.length := by
    have : ¬ (k < s.wk.length) := by simpa [X.ev, evl, eS_3, D.int, D.rs, D.tt] using hlt
    omega
  subst hkk
  have hroots : r.cs ++ wkCs s s.wk.length = rootsC s r := by unfold wkCs rootsC; rw [List.take_length]
  rw [hroots]
  -- the stack
  rw [q17]
  refine ⟨fun st => ∃ (W : List Nat) (T : List Ce) (m : Nat), m ≤ 200000 ∧ st = [.r (W.map eN), .r (T.map eC)] ∧ PJ s r (fun _ => False) W T m, fun st => (st.getD 1 .u).rs.length + potW s ((st.getD 0 .u).rs.map dN), ⟨_, _, _, ?_, ?_, start_pj hv⟩, ?_⟩
  · have h1 := pot_le s (List.replicate (s.cs.length / 64 + 1) 0)
    have h2 := roots_len s r
    have h3 : s.cs.length * (1 + s.tr.length) ≤ 300 * 301 := Nat.mul_le_mul z1 (by omega)
    omega
  · simp only [q00, go_br, q01, q02, allSay, X.says, X.ev, X.evs, evl, tblS, List.getD_cons_zero, List.getD_cons_succ, List.getElem?_cons_zero, List.getElem?_cons_succ, tt_b, int_i, str_s, rs_r, Option.isSome_some, Option.getD_some, decide_eq_true_eq, decide_eq_false_iff_not, gnE, List.length_map, gnF, gnL, decide_true, decide_false, Bool.or_true, true_and, and_true, f8_6, hn1, Int.toNat_natCast, hrep]
  rintro st - ⟨W, T, m, hm, rfl, hP⟩
  have hmu : ∀ (W' : List Nat) (T' : List Ce) (m' : Nat), PJ s r (fun _ => False) W' T' m' → m' < m → (([.r (W'.map eN), .r (T'.map eC)] : List D).getD 1 .u).rs.length + potW s ((([.r (W'.map eN), .r (T'.map eC)] : List D).getD 0 .u).rs.map dN) < (([.r (W.map eN), .r (T.map eC)] : List D).getD 1 .u).rs.length + potW s ((([.r (W.map eN), .r (T.map eC)] : List D).getD 0 .u).rs.map dN) := fun W' T' m' h' hlt => by
    simp only [List.getD_cons_zero, List.getD_cons_succ, rs_r, List.length_map, mN]
    have := h'.wt
    have := hP.wt
    omega
  rw [go_br]
  refine ⟨fun hlt => ?_, fun hlt => ?_⟩
  · have hT : 0 < T.length := by
      simp only [q00, go_br, q01, q02, allSay, X.says, X.ev, X.evs, evl, tblS, List.getD_cons_zero, List.getD_cons_succ, List.getElem?_cons_zero, List.getElem?_cons_succ, tt_b, int_i, str_s, rs_r, Option.isSome_some, Option.getD_some, decide_eq_true_eq, decide_eq_false_iff_not, gnE, List.length_map, gnF, gnL, decide_true, decide_false, Bool.or_true, true_and, and_true] at hlt
      omega
    obtain ⟨T0, c, rfl⟩ : ∃ T0 c, T = T0 ++ [c] := ⟨T.dropLast, T.getLast (fun e => by rw [e] at hT; simp at hT), (List.dropLast_concat_getLast _).symm⟩
    obtain ⟨hP', hm0⟩ := hP.pop
    obtain ⟨hcg, hcr⟩ := hP.good c (by simp)
    have hTm : T0.length ≤ m := by have := hP'.wt; omega
    have hTl : ((T0.map eC ++ [eC c]).length : Int) - 1 = (T0.length : Nat) := by simp
    have hpop : (D.r (T0.map eC ++ [eC c])).get ((T0.length : Nat) : Int) = eC c := by
      show (T0.map eC ++ [eC c]).getD ((T0.length : Nat) : Int).toNat .u = eC c
      rw [Int.toNat_natCast, List.getD_eq_getElem?_getD, List.getElem?_append_right (by simp)]
      simp
    have hcut : ((T0.map eC ++ [eC c]).take T0.length).drop 0 = T0.map eC := by
      rw [List.drop_zero, ← List.length_map (f := eC), List.take_left]
    have hBk : ∀ (B0 : Nat → List D → Prop) W' T', PJ s r (fun _ => False) W' T' (m - 1) → updB B0 16 (fun st' => (∃ (W : List Nat) (T : List Ce) (m : Nat), m ≤ 200000 ∧ st' = [.r (W.map eN), .r (T.map eC)] ∧ PJ s r (fun _ => False) W T m) ∧ (st'.getD 1 .u).rs.length + potW s ((st'.getD 0 .u).rs.map dN) < (([.r (W.map eN), .r ((T0 ++ [c]).map eC)] : List D).getD 1 .u).rs.length + potW s ((([.r (W.map eN), .r ((T0 ++ [c]).map eC)] : List D).getD 0 .u).rs.map dN)) 16 [.r (W'.map eN), .r (T'.map eC)] := fun B0 W' T' h' => by
      rw [updB, if_pos rfl]
      exact ⟨⟨W', T', m - 1, by omega, rfl, h'⟩, hmu W' T' (m - 1) h' (by omega)⟩
    have hlen1 : (T0 ++ [c]).length = T0.length + 1 := by simp
    rw [q00]
    refine ⟨by simp only [q00, go_br, q01, q02, allSay, X.says, X.ev, X.evs, evl, tblS, List.getD_cons_zero, List.getD_cons_succ, List.getElem?_cons_zero, List.getElem?_cons_succ, tt_b, int_i, str_s, rs_r, Option.isSome_some, Option.getD_some, decide_eq_true_eq, decide_eq_false_iff_not, gnE, List.length_map, gnF, gnL, decide_true, decide_false, Bool.or_true, true_and, and_true, List.map_append, List.map_cons, List.map_nil, hTl]; simp only [List.length_append, List.length_map, List.length_singleton]; omega, ?_⟩
    rw [q00]
    refine ⟨by simp only [q00, go_br, q01, q02, allSay, X.says, X.ev, X.evs, evl, tblS, List.getD_cons_zero, List.getD_cons_succ, List.getElem?_cons_zero, List.getElem?_cons_succ, tt_b, int_i, str_s, rs_r, Option.isSome_some, Option.getD_some, decide_eq_true_eq, decide_eq_false_iff_not, gnE, List.length_map, gnF, gnL, decide_true, decide_false, Bool.or_true, true_and, and_true, List.map_append, List.map_cons, List.map_nil, hTl]; simp only [List.length_append, List.length_map, List.length_singleton]; omega, ?_⟩
    have hxp : ∀ rest : List D, (xPop.ev (evl (tblS [(q0g, gVis)]) ([eS s, eR r, .i ((s.wk.length : Nat) : Int), .r ((rootsC s r).map eC), .r (W.map eN), .r ((T0 ++ [c]).map eC)] ++ rest))) = eC c := fun rest => by
      simp only [q00, go_br, q01, q02, allSay, X.says, X.ev, X.evs, evl, tblS, List.getD_cons_zero, List.getD_cons_succ, List.getElem?_cons_zero, List.getElem?_cons_succ, tt_b, int_i, str_s, rs_r, Option.isSome_some, Option.getD_some, decide_eq_true_eq, decide_eq_false_iff_not, gnE, List.length_map, gnF, gnL, decide_true, decide_false, Bool.or_true, true_and, and_true, List.map_append, List.map_cons, List.map_nil, hTl, hpop]
    have hxp0 := hxp []
    simp only [List.append_nil] at hxp0
    have key : ∀ (q : Nat) (x0 : X), x0 = .fld xPop q → x0.ev (evl (tblS [(q0g, gVis)]) [eS s, eR r, .i ((s.wk.length : Nat) : Int), .r ((rootsC s r).map eC), .r (W.map eN), .r ((T0 ++ [c]).map eC)]) = (eC c).fld q := fun q x0 h => by
      subst h
      show (xPop.ev _).fld q = _
      rw [hxp0]
    have htag : (X.ev (evl (tblS [(q0g, gVis)]) [eS s, eR r, .i ((s.wk.length : Nat) : Int), .r ((rootsC s r).map eC), .r (W.map eN), .r ((T0 ++ [c]).map eC)]) (.fld xPop 0)) = .i c.t := key 0 _ rfl
    have hbr : ∀ n : Int, (X.ev (evl (tblS [(q0g, gVis)]) [eS s, eR r, .i ((s.wk.length : Nat) : Int), .r ((rootsC s r).map eC), .r (W.map eN), .r ((T0 ++ [c]).map eC)]) (.eq (.fld xPop 0) (.lit (.i n)))).tt = decide (c.t = n) := fun n => by
      show (D.b (decide ((X.ev _ (.fld xPop 0)) = D.i n))).tt = _
      rw [htag, tt_b]
      simp
    have hinT : ∀ (bnd : X) (B0 : Nat → List D → Prop), cntS s c ≤ 300 → (∀ st : List D, bnd.ev (evl (tblS [(q0g, gVis)]) ([eS s, eR r, .i ((s.wk.length : Nat) : Int), .r ((rootsC s r).map eC), .r (W.map eN), .r ((T0 ++ [c]).map eC)] ++ st)) = .i (cntS s c : Nat)) → (∀ W' T', PJ s r (fun _ => False) W' T' (m - 1) → B0 16 [.r (W'.map eN), .r (T'.map eC)]) → (inT bnd).go (tblS [(q0g, gVis)]) (fun o => o = [.r ((wordsOf (s.cs.length / 64 + 1) (Mk s r)).map eN)]) [eS s, eR r, .i ((s.wk.length : Nat) : Int), .r ((rootsC s r).map eC), .r (W.map eN), .r ((T0 ++ [c]).map eC)] B0 := fun bnd B0 _ hb hB => in_ok hv z1 z3 (by omega) hP' hcg hcr hb hB
    simp only [List.take_succ_cons, List.take_zero, List.cons_append, List.nil_append]
    rw [go_br]
    refine ⟨fun h0 => ?_, fun h0 => ?_⟩
    · have h0 : c.t = 0 := of_decide_eq_true ((hbr 0).symm.trans h0)
      have hcnt : cntS s c = 1 := if_pos h0
      rw [q00]
      refine ⟨by simp only [q00, go_br, q01, q02, allSay, X.says, X.ev, X.evs, evl, tblS, List.getD_cons_zero, List.getD_cons_succ, List.getElem?_cons_zero, List.getElem?_cons_succ, tt_b, int_i, str_s, rs_r, Option.isSome_some, Option.getD_some, decide_eq_true_eq, decide_eq_false_iff_not, gnE, List.length_map, gnF, gnL, decide_true, decide_false, Bool.or_true, true_and, and_true]; omega, ?_⟩
      exact hinT (.lit (.i 1)) _ (by omega) (fun st => by rw [hcnt]; rfl) (hBk _)
    · have h0 : ¬ c.t = 0 := of_decide_eq_false ((hbr 0).symm.trans h0)
      rw [go_br]
      refine ⟨fun h3 => ?_, fun h3 => ?_⟩
      · have h3 : c.t = 3 := of_decide_eq_true ((hbr 3).symm.trans h3)
        obtain ⟨b1, b2⟩ := hcg.b (.inr (.inl h3))
        obtain ⟨y1, y2, y3⟩ := hcg.y h3
        have hcnt : cntS s c = (s.ys.getD (cellAt s c.n).n.toNat default).ar.toNat + 1 := by rw [cntS, if_neg h0, if_pos h3]
        have hin : inS s c.n = true := inS_iff.2 ⟨b1, by omega⟩
        have hcell := cell_get hin
        have hsy := ar_get (s := s) ⟨y1, y2⟩
        rw [q00]
        refine ⟨?_, ?_⟩
        · simp only [q00, go_br, q01, q02, allSay, X.says, X.ev, X.evs, evl, tblS, List.getD_cons_zero, List.getD_cons_succ, List.getElem?_cons_zero, List.getElem?_cons_succ, tt_b, int_i, str_s, rs_r, Option.isSome_some, Option.getD_some, decide_eq_true_eq, decide_eq_false_iff_not, gnE, List.length_map, gnF, gnL, decide_true, decide_false, Bool.or_true, true_and, and_true, List.map_append, List.map_cons, List.map_nil, hTl, hpop, hcell]
          omega
        rw [q00]
        refine ⟨?_, ?_⟩
        · simp only [q00, go_br, q01, q02, allSay, X.says, X.ev, X.evs, evl, tblS, List.getD_cons_zero, List.getD_cons_succ, List.getElem?_cons_zero, List.getElem?_cons_succ, tt_b, int_i, str_s, rs_r, Option.isSome_some, Option.getD_some, decide_eq_true_eq, decide_eq_false_iff_not, gnE, List.length_map, gnF, gnL, decide_true, decide_false, Bool.or_true, true_and, and_true, List.map_append, List.map_cons, List.map_nil, hTl, hpop, hcell, hsy]
          omega
        refine hinT _ _ (by omega) (fun st => ?_) (hBk _)
        simp only [q00, go_br, q01, q02, allSay, X.says, X.ev, X.evs, evl, tblS, List.getD_cons_zero, List.getD_cons_succ, List.getElem?_cons_zero, List.getElem?_cons_succ, tt_b, int_i, str_s, rs_r, Option.isSome_some, Option.getD_some, decide_eq_true_eq, decide_eq_false_iff_not, gnE, List.length_map, gnF, gnL, decide_true, decide_false, Bool.or_true, true_and, and_true, List.map_append, List.map_cons, List.map_nil, hTl, hpop, hcell, hsy, hcnt]
        congr 1
        omega
      · have h3 : ¬ c.t = 3 := of_decide_eq_false ((hbr 3).symm.trans h3)
        rw [go_br]
        refine ⟨fun h5 => ?_, fun h5 => ?_⟩
        · have h5 : c.t = 5 := of_decide_eq_true ((hbr 5).symm.trans h5)
          have hcnt : cntS s c = 3 := by rw [cntS, if_neg h0, if_neg h3, if_pos h5]
          rw [q00]
          refine ⟨by simp only [q00, go_br, q01, q02, allSay, X.says, X.ev, X.evs, evl, tblS, List.getD_cons_zero, List.getD_cons_succ, List.getElem?_cons_zero, List.getElem?_cons_succ, tt_b, int_i, str_s, rs_r, Option.isSome_some, Option.getD_some, decide_eq_true_eq, decide_eq_false_iff_not, gnE, List.length_map, gnF, gnL, decide_true, decide_false, Bool.or_true, true_and, and_true]; omega, ?_⟩
          exact hinT (.lit (.i 3)) _ (by omega) (fun st => by rw [hcnt]; rfl) (hBk _)
        · have h5 : ¬ c.t = 5 := of_decide_eq_false ((hbr 5).symm.trans h5)
          have hcnt : cntS s c = 0 := by rw [cntS, if_neg h0, if_neg h3, if_neg h5]
          rw [q02]
          have he : X.evs (evl (tblS [(q0g, gVis)]) [eS s, eR r, .i ((s.wk.length : Nat) : Int), .r ((rootsC s r).map eC), .r (W.map eN), .r ((T0 ++ [c]).map eC)]) [(.tok 4), (.cut (.tok 5) (.lit (.i 0)) (.sub (.len (.tok 5)) (.lit (.i 1))))] = [.r (W.map eN), .r (T0.map eC)] := by
            simp only [q00, go_br, q01, q02, allSay, X.says, X.ev, X.evs, evl, tblS, List.getD_cons_zero, List.getD_cons_succ, List.getElem?_cons_zero, List.getElem?_cons_succ, tt_b, int_i, str_s, rs_r, Option.isSome_some, Option.getD_some, decide_eq_true_eq, decide_eq_false_iff_not, gnE, List.length_map, gnF, gnL, decide_true, decide_false, Bool.or_true, true_and, and_true, List.map_append, List.map_cons, List.map_nil, hTl, Int.toNat_natCast, Int.toNat_zero, hcut]
          rw [he]
          exact hBk _ W T0 (hP'.drop hcnt)
  · have hT : T = [] := by
      simp only [q00, go_br, q01, q02, allSay, X.says, X.ev, X.evs, evl, tblS, List.getD_cons_zero, List.getD_cons_succ, List.getElem?_cons_zero, List.getElem?_cons_succ, tt_b, int_i, str_s, rs_r, Option.isSome_some, Option.getD_some, decide_eq_true_eq, decide_eq_false_iff_not, gnE, List.length_map, gnF, gnL, decide_true, decide_false, Bool.or_true, true_and, and_true] at hlt
      exact List.eq_nil_of_length_eq_zero (by omega)
    subst hT
    simp only [q00, go_br, q01, q02, allSay, X.says, X.ev, X.evs, evl, tblS, List.getD_cons_zero, List.getD_cons_succ, List.getElem?_cons_zero, List.getElem?_cons_succ, tt_b, int_i, str_s, rs_r, Option.isSome_some, Option.getD_some, decide_eq_true_eq, decide_eq_false_iff_not, gnE, List.length_map, gnF, gnL, decide_true, decide_false, Bool.or_true, true_and, and_true]
    rw [hP.done hv]
end Go.Proofs.Ytmebmpgffhajbaa


namespace Go.Proofs.Ytmebmpgffhajbaa
open Go.RowKit
set_option linter.unusedVariables false
set_option linter.unusedSimpArgs false

def bq (on : List Bool) (x : Nat) : Bool := on.getD x false
def cntF (on : List Bool) : Nat := (on.filter fun b => !b).length
def markF (s : So) : Nat → List Bool → Nat → Option (List Bool)
  | 0, on, a => if bq on a then some on else none
  | f + 1, on, a => if bq on a then some on else (List.range (cntS s (cellAt s (a : Nat)))).foldlM (fun on j => markF s f on ((cellAt s (a : Nat)).n.toNat + j)) (on.set a true)
def reachF (s : So) (f : Nat) (on : List Bool) (c : Ce) : Option (List Bool) := (List.range (cntS s c)).foldlM (fun on j => markF s f on (c.n.toNat + j)) on

structure Ext (s : So) (on on' : List Bool) : Prop where
  len : on'.length = on.length
  mono : ∀ x, bq on x = true → bq on' x = true
  clo : ∀ y, bq on' y = true → bq on y = false → ∀ x ∈ tgS s (cellAt s (y : Nat)), bq on' x = true
theorem Ext.refl (s : So) (on : List Bool) : Ext s on on := ⟨rfl, fun _ h => h, fun y h h' => by rw [h] at h'; cases h'⟩
theorem Ext.trans {s : So} {a b c : List Bool} (h : Ext s a b) (k : Ext s b c) : Ext s a c :=
  ⟨k.len.trans h.len, fun x hx => k.mono x (h.mono x hx), fun y hy hn x hx => by
    cases hb : bq b y with
    | true => exact k.mono x (h.clo y hb hn x hx)
    | false => exact k.clo y hy hb x hx⟩
def Snd (s : So) (on on' : List Bool) (l : List Nat) : Prop := ∀ G : Nat → Prop, (∀ y, G y → ∀ x ∈ tgS s (cellAt s (y : Nat)), G x) → (∀ a ∈ l, G a) → (∀ x, bq on x = true → G x) → ∀ x, bq on' x = true → G x

theorem bq_set {on : List Bool} {a x : Nat} (ha : a < on.length) : bq (on.set a true) x = (bq on x || decide (x = a)) := by
  unfold bq
  by_cases h : x = a
  · subst h
    simp [List.getD_eq_getElem?_getD, ha]
  · simp only [List.getD_eq_getElem?_getD, List.getElem?_set_ne (fun e => h e.symm)]
    simp [h]
theorem cntF_cons (b : Bool) (l : List Bool) : cntF (b :: l) = (if b then 0 else 1) + cntF l := by
  cases b <;> simp [cntF]
  omega
theorem cntF_set : ∀ {on : List Bool} {a : Nat}, a < on.length → bq on a = false → cntF on = cntF (on.set a true) + 1
  | [], a, h, _ => by simp at h
  | b :: l, 0, h, hb => by
    have hb : b = false := hb
    subst hb
    simp [cntF_cons]
    omega
  | b :: l, a + 1, h, hb => by
    have := cntF_set (on := l) (a := a) (by simpa using h) hb
    simp only [List.set_cons_succ, cntF_cons]
    omega
theorem cntF_mono : ∀ {a b : List Bool}, b.length = a.length → (∀ x, bq a x = true → bq b x = true) → cntF b ≤ cntF a
  | [], [], _, _ => Nat.le_refl _
  | x :: a, y :: b, hl, h => by
    have h1 := cntF_mono (a := a) (b := b) (by simpa using hl) fun z hz => h (z + 1) hz
    have h0 : x = true → y = true := h 0
    simp only [cntF_cons]
    cases x with
    | true => rw [h0 rfl]; simpa using h1
    | false => cases y <;> simp <;> omega
  | [], _ :: _, hl, _ => by simp at hl
  | _ :: _, [], hl, _ => by simp at hl
theorem Ext.cnt {s : So} {a b : List Bool} (h : Ext s a b) : cntF b ≤ cntF a := cntF_mono h.len h.mono

theorem foldM_snoc {f : List Bool → Nat → Option (List Bool)} {j : Nat} {on : List Bool} : (List.range (j + 1)).foldlM f on = ((List.range j).foldlM f on).bind fun on => f on j := by
  rw [List.range_succ, List.foldlM_append]
  simp only [List.foldlM_cons, List.foldlM_nil, bind, Option.bind]
  cases (List.range j).foldlM f on with
  | none => rfl
  | some x => simp [Option.bind]; cases f x j <;> rfl

theorem markF_ok {s : So} (hv : ∀ i : Nat, i < s.cs.length → Gce s (cellAt s (i : Nat))) : ∀ (f : Nat) {on : List Bool} {a : Nat}, on.length = s.cs.length → cntF on ≤ f → a < s.cs.length → ∃ on', markF s f on a = some on' ∧ Ext s on on' ∧ bq on' a = true ∧ Snd s on on' [a] := by
  intro f
  induction f with
  | zero =>
    intro on a hl hf ha
    cases hb : bq on a with
    | true => exact ⟨on, by unfold markF; rw [if_pos hb], .refl s on, hb, fun G _ _ h => h⟩
    | false =>
      have := cntF_set (by omega) hb
      omega
  | succ f ih =>
    intro on a hl hf ha
    unfold markF
    cases hb : bq on a with
    | true => exact ⟨on, by simp, .refl s on, hb, fun G _ _ h => h⟩
    | false =>
      simp only [Bool.false_eq_true, if_false]
      have hal : a < on.length := by omega
      have hc := cntF_set hal hb
      have hcell := hv a ha
      have hset : ∀ x, bq (on.set a true) x = (bq on x || decide (x = a)) := fun x => bq_set hal
      -- the addresses in turn
      have key : ∀ m, m ≤ cntS s (cellAt s (a : Nat)) → ∃ on', (List.range m).foldlM (fun on j => markF s f on ((cellAt s (a : Nat)).n.toNat + j)) (on.set a true) = some on' ∧ Ext s (on.set a true) on' ∧ (∀ i, i < m → bq on' ((cellAt s (a : Nat)).n.toNat + i) = true) ∧ Snd s (on.set a true) on' ((List.range m).map ((cellAt s (a : Nat)).n.toNat + ·)) := by
        intro m
        induction m with
        | zero => intro _; exact ⟨_, rfl, .refl s _, fun i hi => absurd hi (Nat.not_lt_zero _), fun G _ _ h => h⟩
        | succ m ihm =>
          intro hm
          obtain ⟨on1, h1, h2, h3, h4⟩ := ihm (by omega)
          have hlt := tg_lt hcell (tg_mem.2 ⟨m, by omega, rfl⟩)
          obtain ⟨on2, k1, k2, k3, k4⟩ := ih (on := on1) (a := (cellAt s (a : Nat)).n.toNat + m) (by rw [h2.len, List.length_set]; exact hl) (by have := h2.cnt; omega) hlt
          refine ⟨on2, by rw [foldM_snoc, h1]; exact k1, h2.trans k2, fun i hi => ?_, fun G hG hl hx => k4 G hG (fun z hz => ?_) (h4 G hG (fun z hz => hl z ?_) hx)⟩
          · by_cases h : i < m
            · exact k2.mono _ (h3 i h)
            · obtain rfl : i = m := by omega
              exact k3
          · rw [List.mem_singleton] at hz
            subst hz
            exact hl _ (List.mem_map.2 ⟨m, List.mem_range.2 (by omega), rfl⟩)
          · obtain ⟨i, hi, rfl⟩ := List.mem_map.1 hz
            exact List.mem_map.2 ⟨i, List.mem_range.2 (by have := List.mem_range.1 hi; omega), rfl⟩
      obtain ⟨on', h1, h2, h3, h4⟩ := key _ (Nat.le_refl _)
      refine ⟨on', h1, ⟨by rw [h2.len, List.length_set], fun x hx => h2.mono x (by rw [hset, hx]; rfl), fun y hy hn x hx => ?_⟩, h2.mono a (by rw [hset]; simp), fun G hG hl hx => h4 G hG (fun z hz => ?_) fun x hx' => ?_⟩
      · by_cases hya : y = a
        · subst hya
          obtain ⟨i, hi, rfl⟩ := tg_mem.1 hx
          exact h3 i hi
        · exact h2.clo y hy (by rw [hset, hn]; simp [hya]) x hx
      · obtain ⟨i, hi, rfl⟩ := List.mem_map.1 hz
        exact hG a (hl a (by simp)) _ (tg_mem.2 ⟨i, List.mem_range.1 hi, rfl⟩)
      · rw [hset, Bool.or_eq_true, decide_eq_true_eq] at hx'
        rcases hx' with h | rfl
        · exact hx x h
        · exact hl _ (by simp)

theorem reachF_ok {s : So} (hv : ∀ i : Nat, i < s.cs.length → Gce s (cellAt s (i : Nat))) {f : Nat} {on : List Bool} {c : Ce} (hl : on.length = s.cs.length) (hf : cntF on ≤ f) (hc : Gce s c) : ∀ m, m ≤ cntS s c → ∃ on', (List.range m).foldlM (fun on j => markF s f on (c.n.toNat + j)) on = some on' ∧ Ext s on on' ∧ (∀ i, i < m → bq on' (c.n.toNat + i) = true) ∧ Snd s on on' (tgS s c) := by
  intro m
  induction m with
  | zero => intro _; exact ⟨_, rfl, .refl s _, fun i hi => absurd hi (Nat.not_lt_zero _), fun G _ _ h => h⟩
  | succ m ihm =>
    intro hm
    obtain ⟨on1, h1, h2, h3, h4⟩ := ihm (by omega)
    have hlt := tg_lt hc (tg_mem.2 ⟨m, by omega, rfl⟩)
    obtain ⟨on2, k1, k2, k3, k4⟩ := markF_ok hv f (on := on1) (a := c.n.toNat + m) (by rw [h2.len]; exact hl) (by have := h2.cnt; omega) hlt
    refine ⟨on2, by rw [foldM_snoc, h1]; exact k1, h2.trans k2, fun i hi => ?_, fun G hG hl hx => k4 G hG (fun z hz => ?_) (h4 G hG hl hx)⟩
    · by_cases h : i < m
      · exact k2.mono _ (h3 i h)
      · obtain rfl : i = m := by omega
        exact k3
    · rw [List.mem_singleton] at hz
      subst hz
      exact hl _ (tg_mem.2 ⟨m, by omega, rfl⟩)

def eM (s : So) (on : List Bool) : D := .a [eS s, .r (on.map D.b)]
def dOn (d : D) : List Bool := (d.fld 1).rs.map D.tt
theorem dOn_eM (s : So) (on : List Bool) : dOn (eM s on) = on := by
  show (on.map D.b).map D.tt = on
  exact map_id' (fun _ => tt_b _) on
theorem eM_0 (s : So) (on : List Bool) : (eM s on).fld 0 = eS s := rfl
def Gc5 (s : So) (c : Ce) : Prop := Gce s c ∧ 0 ≤ c.t ∧ c.t ≤ 5
def VC (s : So) : Prop := ∀ i : Nat, i < s.cs.length → Gc5 s (cellAt s (i : Nat))
def QM (s : So) (on : List Bool) : Prop := VC s ∧ s.cs.length ≤ 300 ∧ on.length = s.cs.length
open Classical in
noncomputable def gMR : List D → Option (List D)
  | [d, c] => if QM (dS (d.fld 0)) (dOn d) ∧ Gc5 (dS (d.fld 0)) (dC c) then (reachF (dS (d.fld 0)) (cntF (dOn d)) (dOn d) (dC c)).map fun on => [eM (dS (d.fld 0)) on] else none
  | _ => none
theorem gMR_at {s : So} {on on' : List Bool} {c : Ce} (hv : QM s on) (hc : Gc5 s c) (h : reachF s (cntF on) on c = some on') : gMR [eM s on, eC c] = some [eM s on'] := by
  have hQ : QM (dS ((eM s on).fld 0)) (dOn (eM s on)) ∧ Gc5 (dS ((eM s on).fld 0)) (dC (eC c)) := by
    rw [eM_0, dS_eS, dOn_eM]
    exact ⟨hv, hc⟩
  simp only [gMR]
  rw [if_pos hQ, eM_0, dS_eS, dOn_eM, dC_eC, h]
  rfl
end Go.Proofs.Ytmebmpgffhajbaa


namespace Go.Proofs.Ytmebmpgffhajbaa
open Go.RowKit
set_option linter.unusedVariables false
set_option linter.unusedSimpArgs false

end Go.Proofs.Ytmebmpgffhajbaa


namespace Go.Proofs.Ytmebmpgffhajbaa
open Go.RowKit
set_option linter.unusedVariables false
set_option linter.unusedSimpArgs false

noncomputable def onOf (s : So) (r : Ro) : List Bool := (List.range s.cs.length).map (Mk s r)
theorem VC.of {s : So} (h : validR s = true) : VC s := fun i hi => by
  have hin : inS s (i : Nat) = true := inS_iff.2 ⟨by omega, by omega⟩
  exact ⟨gce_cell h hin, (validR_vs h).tag _ hin⟩
structure JS (s : So) (r : Ro) (on : List Bool) : Prop where
  len : on.length = s.cs.length
  sound : ∀ x, bq on x = true → Rch s r x
  clo : ∀ y, bq on y = true → ∀ x ∈ tgS s (cellAt s (y : Nat)), bq on x = true
theorem JS.step {s : So} {r : Ro} {on : List Bool} (hv : VC s) (h : JS s r on) {c : Ce} (hc : Gc5 s c) (hr : ∀ x ∈ tgS s c, Rch s r x) :
    ∃ on', reachF s (cntF on) on c = some on' ∧ JS s r on' ∧ (∀ x, bq on x = true → bq on' x = true) ∧ ∀ x ∈ tgS s c, bq on' x = true := by
  obtain ⟨on', h1, h2, h3, h4⟩ := reachF_ok (fun i hi => (hv i hi).1) h.len (Nat.le_refl _) hc.1 (cntS s c) (Nat.le_refl _)
  refine ⟨on', h1, ⟨h2.len.trans h.len, h4 _ (fun y hy x hx => .cell hy hx) hr h.sound, fun y hy x hx => ?_⟩, h2.mono, fun x hx => ?_⟩
  · cases hb : bq on y with
    | true => exact h2.mono x (h.clo y hb x hx)
    | false => exact h2.clo y hy hb x hx
  · obtain ⟨i, hi, rfl⟩ := tg_mem.1 hx
    exact h3 i hi
theorem JS.call {s : So} {r : Ro} {on on' : List Bool} {c : Ce} (hv : VC s) (hs : s.cs.length ≤ 300) (h : JS s r on) (hc : Gc5 s c) (hr : reachF s (cntF on) on c = some on') : gMR [eM s on, eC c] = some [eM s on'] := gMR_at ⟨hv, hs, h.len⟩ hc hr

theorem oldsS_mem {s : So} {y : Nat} {c : Ce} (h : c ∈ oldsS s y) : ∃ i, i < s.tr.length ∧ (s.tr.getD i default).at' = (y : Int) ∧ c = (s.tr.getD i default).old := by
  obtain ⟨u, hu, rfl⟩ := List.mem_map.1 h
  obtain ⟨h1, h2⟩ := List.mem_filter.1 hu
  obtain ⟨i, hi, rfl⟩ := List.mem_iff_getElem.1 h1
  have e : s.tr.getD i default = s.tr[i] := by simp [List.getD_eq_getElem?_getD, hi]
  exact ⟨i, hi, by rw [e]; simpa using h2, by rw [e]⟩

structure JD (s : So) (r : Ro) (done on : List Bool) : Prop where
  js : JS s r on
  root : ∀ c ∈ rootsC s r, ∀ x ∈ tgS s c, bq on x = true
  dl : done.length = s.tr.length
  ds : ∀ i, bq done i = true → ∀ x ∈ tgS s (s.tr.getD i default).old, bq on x = true
def Rest (s : So) (done on : List Bool) (k : Nat) : Prop := ∀ i, i < k → bq done i = true ∨ bq on (s.tr.getD i default).at'.toNat = false

theorem JD.done {s : So} {r : Ro} (hv : VG s r) {done on : List Bool} (h : JD s r done on) (hr : Rest s done on s.tr.length) : on = onOf s r := by
  refine List.ext_getElem (by rw [h.js.len, onOf, List.length_map, List.length_range]) fun i h1 h2 => ?_
  have e : (onOf s r)[i] = Mk s r i := by simp [onOf]
  have e1 : bq on i = on[i] := by simp [bq, List.getD_eq_getElem?_getD, h1]
  rw [e, ← e1, Bool.eq_iff_iff, Mk_iff]
  refine ⟨h.js.sound i, fun hi => Rch.of_closed (P := fun x => bq on x = true) h.root h.js.clo (fun y hy c hc x hx => ?_) hi⟩
  obtain ⟨j, hj, hat, rfl⟩ := oldsS_mem hc
  rcases hr j hj with hd | hd
  · exact h.ds j hd x hx
  · rw [hat, Int.toNat_natCast, hy] at hd
    cases hd

end Go.Proofs.Ytmebmpgffhajbaa


namespace Go.Proofs.Ytmebmpgffhajbaa
open Go.RowKit
set_option linter.unusedVariables false
set_option linter.unusedSimpArgs false

theorem acc1_ok {S : Nat → List D → Option (List D)} {R : List D → Prop} {id n : Nat} {x1 : X} {body : Tree} {l : List D} {B : Nat → List D → Prop} (N : Nat) (F : Nat → D) (h0 : x1.ev (evl S l) = F 0)
    (h : ∀ (k : Nat) (B' : Nat → List D → Prop), k ≤ N → (k < N → B' id [F (k + 1), .i ((k : Int) + 1)]) → (∀ j, j ≠ id → B' j = B j) → body.go S R (l.take n ++ [F k, .i k]) B') : (Tree.loop id n [x1, .lit (.i 0)] body).go S R l B := by
  rw [q17]
  refine ⟨fun st => ∃ k : Nat, k ≤ N ∧ st = [F k, .i k], fun st => N - (st.getD 1 .u).int.toNat, ⟨0, Nat.zero_le _, by simp [X.evs, X.ev, h0]⟩, ?_⟩
  rintro st - ⟨k, hk, rfl⟩
  refine h k _ hk (fun hlt => ?_) fun j hj => by rw [updB, if_neg hj]
  rw [updB, if_pos rfl]
  refine ⟨⟨k + 1, hlt, by simp⟩, ?_⟩
  simp [D.int]
  omega
theorem acc2_ok {S : Nat → List D → Option (List D)} {R : List D → Prop} {id n : Nat} {x1 : X} {body : Tree} {l : List D} {B : Nat → List D → Prop} (N : Nat) (F : Nat → D) (h0 : x1.ev (evl S l) = F 0)
    (h : ∀ (k : Nat) (B' : Nat → List D → Prop), k ≤ N → (k < N → B' id [.i ((k : Int) + 1), F (k + 1)]) → (∀ j, j ≠ id → B' j = B j) → body.go S R (l.take n ++ [.i k, F k]) B') : (Tree.loop id n [.lit (.i 0), x1] body).go S R l B := by
  rw [q17]
  refine ⟨fun st => ∃ k : Nat, k ≤ N ∧ st = [.i k, F k], fun st => N - (st.getD 0 .u).int.toNat, ⟨0, Nat.zero_le _, by simp [X.evs, X.ev, h0]⟩, ?_⟩
  rintro st - ⟨k, hk, rfl⟩
  refine h k _ hk (fun hlt => ?_) fun j hj => by rw [updB, if_neg hj]
  rw [updB, if_pos rfl]
  refine ⟨⟨k + 1, hlt, by simp⟩, ?_⟩
  simp [D.int]
  omega

def bef (f : Nat → Bool) : Nat → Nat
  | 0 => 0
  | a + 1 => bef f a + if f a then 1 else 0
theorem bef_le (f : Nat → Bool) (a : Nat) : bef f a ≤ a := by
  induction a with
  | zero => exact Nat.le_refl _
  | succ a ih => unfold bef; split <;> omega
def mvC (f : Nat → Bool) (c : Ce) : Ce := if c.t = 0 ∨ c.t = 3 ∨ c.t = 5 then ⟨c.t, (bef f c.n.toNat : Nat)⟩ else c
def mvQ (n : Nat) (c : Ce) : Prop := c.t = 0 ∨ c.t = 3 ∨ c.t = 5 → 0 ≤ c.n ∧ c.n ≤ n
def heapF (f : Nat → Bool) (s : So) (k : Nat) : List Ce := ((List.range k).filter f).map fun i => mvC f (cellAt s (i : Nat))
def onTr (f : Nat → Bool) (u : Un) : Bool := f u.at'.toNat
def mvU (f : Nat → Bool) (u : Un) : Un := ⟨(bef f u.at'.toNat : Nat), mvC f u.old⟩
def trailF (f : Nat → Bool) (s : So) (k : Nat) : List Un := ((s.tr.take k).filter (onTr f)).map (mvU f)
def mvW (f : Nat → Bool) (w : Wk) : Wk := ⟨w.ser, mvC f w.att, mvC f w.val⟩
def keptF (f : Nat → Bool) (s : So) (k : Nat) : Nat := ((s.tr.take k).filter (onTr f)).length
def colS (f : Nat → Bool) (s : So) : So := { s with cs := heapF f s s.cs.length, tr := trailF f s s.tr.length, wk := s.wk.map (mvW f) }
def colR (f : Nat → Bool) (s : So) (r : Ro) : Ro := ⟨r.cs.map (mvC f), r.tp.map fun t => ((bef f t.toNat : Nat) : Int), r.ms.map fun t => ((keptF f s t.toNat : Nat) : Int)⟩

theorem heapF_succ (f : Nat → Bool) (s : So) (k : Nat) : heapF f s (k + 1) = heapF f s k ++ if f k then [mvC f (cellAt s (k : Nat))] else [] := by
  unfold heapF
  rw [List.range_succ, List.filter_append, List.map_append]
  congr 1
  cases h : f k <;> simp [h]
theorem heapF_len (f : Nat → Bool) (s : So) (k : Nat) : (heapF f s k).length = bef f k := by
  induction k with
  | zero => rfl
  | succ k ih =>
    rw [heapF_succ, List.length_append, ih, bef]
    split <;> simp
theorem keptF_succ {f : Nat → Bool} {s : So} {k : Nat} (h : k < s.tr.length) : keptF f s (k + 1) = keptF f s k + if onTr f (s.tr.getD k default) then 1 else 0 := by
  unfold keptF
  rw [take_snoc h, List.filter_append, List.length_append]
  congr 1
  generalize s.tr.getD k default = u
  cases h : onTr f u <;> simp [h]
theorem keptF_le (f : Nat → Bool) (s : So) (k : Nat) : keptF f s k ≤ k := by
  unfold keptF
  refine Nat.le_trans (List.length_filter_le _ _) ?_
  exact List.length_take_le _ _
theorem trailF_succ {f : Nat → Bool} {s : So} {k : Nat} (h : k < s.tr.length) : trailF f s (k + 1) = trailF f s k ++ if onTr f (s.tr.getD k default) then [mvU f (s.tr.getD k default)] else [] := by
  unfold trailF
  rw [take_snoc h, List.filter_append, List.map_append]
  congr 1
  generalize s.tr.getD k default = u
  cases h : onTr f u <;> simp [h]
theorem trailF_len (f : Nat → Bool) (s : So) (k : Nat) : (trailF f s k).length = keptF f s k := by
  unfold trailF keptF
  rw [List.length_map]

def gBef : List D → Option (List D)
  | [.r on, .i a] => if decide (0 ≤ a) && (decide (a ≤ on.length) && decide (on.length ≤ 300)) then some [.i (bef (bq (on.map D.tt)) a.toNat : Nat)] else none
  | _ => none
theorem gBef_at {on : List Bool} {a : Nat} (h : a ≤ on.length) (h3 : on.length ≤ 300) : gBef [.r (on.map D.b), .i (a : Int)] = some [.i (bef (bq on) a : Nat)] := by
  simp only [gBef, List.length_map, map_id' (fun _ => tt_b _), Int.toNat_natCast]
  rw [if_pos (by simp only [Bool.and_eq_true, decide_eq_true_eq]; omega)]
theorem tag3 {c : Ce} : (decide (c.t = 0) || decide (c.t = 3) || decide (c.t = 5)) = decide (c.t = 0 ∨ c.t = 3 ∨ c.t = 5) := by
  by_cases h0 : c.t = 0 <;> by_cases h3 : c.t = 3 <;> by_cases h5 : c.t = 5 <;> simp [h0, h3, h5]
end Go.Proofs.Ytmebmpgffhajbaa


namespace Go.Proofs.Ytmebmpgffhajbaa
open Go.RowKit
set_option linter.unusedVariables false
set_option linter.unusedSimpArgs false

noncomputable def gCol : List D → Option (List D)
  | [s, r] => if smallB (dS s) (dR r) then some (if okR validR vcR (dS s) (dR r) then [.i 0, eS (colS (Mk (dS s) (dR r)) (dS s)), eR (colR (Mk (dS s) (dR r)) (dS s) (dR r))] else [.i 1, eS (dS s), eR (dR r)]) else none
  | _ => none
theorem Mk_lt {s : So} {r : Ro} (hv : VG s r) {i : Nat} (h : Mk s r i = true) : i < s.cs.length := (Mk_iff.1 h).lt hv
theorem bq_on {s : So} {r : Ro} (hv : VG s r) : bq (onOf s r) = Mk s r := by
  funext i
  unfold bq onOf
  rw [List.getD_eq_getElem?_getD, List.getElem?_map]
  rcases Nat.lt_or_ge i s.cs.length with h | h
  · rw [List.getElem?_range h]
    rfl
  · rw [List.getElem?_eq_none (by simpa using h)]
    cases hm : Mk s r i with
    | false => rfl
    | true => have := Mk_lt hv hm; omega
theorem on_len (s : So) (r : Ro) : (onOf s r).length = s.cs.length := by simp [onOf]
theorem Gce.mv {s : So} {c : Ce} (h : Gce s c) : mvQ s.cs.length c := fun ht => by
  have := h.b ht
  omega
structure GcQ (s : So) (r : Ro) : Prop where
  ok : okR validR vcR s r = true
  sm : smallB s r = true
theorem GcQ.vg {s : So} {r : Ro} (h : GcQ s r) : VG s r := vg_of h.ok
theorem GcQ.bef {s : So} {r : Ro} (h : GcQ s r) {a : Nat} (ha : a ≤ s.cs.length) : gBef [.r ((onOf s r).map D.b), .i (a : Int)] = some [.i (bef (Mk s r) a : Nat)] := by
  have := gBef_at (on := onOf s r) (a := a) (by rw [on_len]; exact ha) (by rw [on_len]; exact (small_parts h.sm).1)
  rw [bq_on h.vg] at this
  exact this

theorem take_map_succ {α β : Type} [Inhabited α] (g : α → β) {l : List α} {k : Nat} (h : k < l.length) : (l.take (k + 1)).map g = (l.take k).map g ++ [g (l.getD k default)] := by
  rw [take_snoc h, List.map_append]
  rfl
theorem app_if {α : Type} (l : List α) (e : α → D) (b : Bool) (x : α) (hb : b = true) : (l ++ if b then [x] else []).map e = l.map e ++ [e x] := by
  rw [hb, if_pos rfl, List.map_append]
  rfl
theorem app_if0 {α : Type} (l : List α) (e : α → D) (b : Bool) (x : α) (hb : b = false) : (l ++ if b then [x] else []).map e = l.map e := by
  rw [hb, if_neg (by decide), List.append_nil]

end Go.Proofs.Ytmebmpgffhajbaa


namespace Go.Proofs.Ytmebmpgffhajbaa
open Go.RowKit
set_option linter.unusedVariables false
set_option linter.unusedSimpArgs false

theorem acc3_ok {S : Nat → List D → Option (List D)} {R : List D → Prop} {id n : Nat} {x1 x2 : X} {body : Tree} {l : List D} {B : Nat → List D → Prop} (N : Nat) (F G : Nat → D) (h0 : x1.ev (evl S l) = F 0) (h1 : x2.ev (evl S l) = G 0)
    (h : ∀ (k : Nat) (B' : Nat → List D → Prop), k ≤ N → (k < N → B' id [F (k + 1), .i ((k : Int) + 1), G (k + 1)]) → (∀ j, j ≠ id → B' j = B j) → body.go S R (l.take n ++ [F k, .i k, G k]) B') : (Tree.loop id n [x1, .lit (.i 0), x2] body).go S R l B := by
  rw [q17]
  refine ⟨fun st => ∃ k : Nat, k ≤ N ∧ st = [F k, .i k, G k], fun st => N - (st.getD 1 .u).int.toNat, ⟨0, Nat.zero_le _, by simp [X.evs, X.ev, h0, h1]⟩, ?_⟩
  rintro st - ⟨k, hk, rfl⟩
  refine h k _ hk (fun hlt => ?_) fun j hj => by rw [updB, if_neg hj]
  rw [updB, if_pos rfl]
  refine ⟨⟨k + 1, hlt, by simp⟩, ?_⟩
  simp [D.int]
  omega

noncomputable def wdOf (s : So) (r : Ro) : List Nat := wordsOf (s.cs.length / 64 + 1) (Mk s r)
theorem GcQ.mark {s : So} {r : Ro} (h : GcQ s r) : gMark [eS s, eR r] = some [.r ((wdOf s r).map eN)] := by
  simp only [gMark, dS_eS, dR_eR, h.ok, h.sm, Bool.and_self, if_true]
  rfl
theorem GcQ.has {s : So} {r : Ro} (h : GcQ s r) {a : Nat} (ha : a < s.cs.length) : gHas [.r ((wdOf s r).map eN), .i (a : Int)] = some [.b (Mk s r a)] := by
  have hl : (wdOf s r).length = s.cs.length / 64 + 1 := words_len _ _
  have h2 : a / 64 < s.cs.length / 64 + 1 := by omega
  simp only [gHas, mN, List.length_map, hl, Int.toNat_natCast, h2, decide_true, Bool.and_true, show decide ((0 : Int) ≤ (a : Int)) = true from decide_eq_true (by omega), if_true]
  rw [wdOf, words_bit h2]

def toL (f : Nat → Nat) (n k : Nat) : List Int := (List.range (n + 1)).map fun i => if i ≤ k then (f i : Int) else 0
theorem toL_len (f : Nat → Nat) (n k : Nat) : (toL f n k).length = n + 1 := by simp [toL]
theorem toL_get {f : Nat → Nat} {n k i : Nat} (h : i < n + 1) : (toL f n k).getD i default = if i ≤ k then (f i : Int) else 0 := by
  unfold toL
  rw [List.getD_eq_getElem?_getD, List.getElem?_map, List.getElem?_range h]
  rfl
theorem toL_zero (f : Nat → Nat) (n : Nat) (h : f 0 = 0) : (toL f n 0).map D.i = List.replicate (n + 1) (.i 0) := by
  refine List.ext_getElem (by simp [toL]) fun i h1 h2 => ?_
  simp only [toL, List.map_map, List.getElem_map, List.getElem_range, Function.comp_def, List.getElem_replicate]
  congr 1
  split
  · obtain rfl : i = 0 := by omega
    rw [h]; rfl
  · rfl
theorem toL_set {f : Nat → Nat} {n k : Nat} (h : k < n) {v : Int} (hv : v = f (k + 1)) : (toL f n k).set (k + 1) v = toL f n (k + 1) := by
  subst hv
  refine List.ext_getElem (by simp [toL]) fun i h1 h2 => ?_
  simp only [toL, List.getElem_set, List.getElem_map, List.getElem_range]
  by_cases hi : k + 1 = i
  · subst hi
    simp
  · rw [if_neg hi]
    by_cases h3 : i ≤ k
    · rw [if_pos h3, if_pos (by omega)]
    · rw [if_neg h3, if_neg (by omega)]

def gMove : List D → Option (List D)
  | [c, .r to] => if (if (dC c).t = 0 ∨ (dC c).t = 3 ∨ (dC c).t = 5 then decide (0 ≤ (dC c).n) && decide ((dC c).n < to.length) else true) then some [eC (if (dC c).t = 0 ∨ (dC c).t = 3 ∨ (dC c).t = 5 then ⟨(dC c).t, (to.map D.int).getD (dC c).n.toNat default⟩ else dC c)] else none
  | _ => none
theorem ok_gc_Collect_1 : FOk q11 gMove := fok_gc_Collect_1 fun ds outs hw hg => by
  obtain ⟨d, r, rfl, hd, e, r', rfl, he, rfl⟩ := hw
  obtain ⟨c, rfl, hc⟩ := wfC hd
  obtain ⟨l, rfl, hl, hlc⟩ := wfIsR he
  simp only [gMove, List.length_map, map_id' (fun _ => int_i _), dC_eC, Option.ite_none_right_eq_some, Option.some.injEq] at hg
  obtain ⟨hq, rfl⟩ := hg
  rw [q25, go_br]
  simp only [q00, go_br, q01, q02, allSay, X.says, X.ev, X.evs, evl, tblS, List.getD_cons_zero, List.getD_cons_succ, List.getElem?_cons_zero, List.getElem?_cons_succ, tt_b, int_i, str_s, rs_r, Option.isSome_some, Option.getD_some, decide_eq_true_eq, decide_eq_false_iff_not, gnE, List.length_map, gnF, gnL, decide_true, decide_false, Bool.or_true, true_and, and_true, tag3]
  refine ⟨fun ht => ?_, fun ht => ?_⟩
  · rw [if_pos ht, Bool.and_eq_true] at hq
    have hq : 0 ≤ c.n ∧ c.n < l.length := ⟨of_decide_eq_true hq.1, of_decide_eq_true hq.2⟩
    obtain ⟨a, ha⟩ := Int.eq_ofNat_of_zero_le hq.1
    have hg := get_i (l := l) (k := a) (by omega)
    rw [if_pos ht]
    rw [ha] at hq ⊢
    simp only [q00, go_br, q01, q02, allSay, X.says, X.ev, X.evs, evl, tblS, List.getD_cons_zero, List.getD_cons_succ, List.getElem?_cons_zero, List.getElem?_cons_succ, tt_b, int_i, str_s, rs_r, Option.isSome_some, Option.getD_some, decide_eq_true_eq, decide_eq_false_iff_not, gnE, List.length_map, gnF, gnL, decide_true, decide_false, Bool.or_true, true_and, and_true, hg, Int.toNat_natCast]
    exact ⟨⟨by omega, by omega⟩, rfl⟩
  · rw [if_neg ht]
theorem gMove_at {f : Nat → Bool} {n : Nat} {c : Ce} (h : c.t = 0 ∨ c.t = 3 ∨ c.t = 5 → 0 ≤ c.n ∧ c.n ≤ n) : gMove [eC c, .r ((toL (bef f) n n).map D.i)] = some [eC (mvC f c)] := by
  simp only [gMove, List.length_map, map_id' (fun _ => int_i _), dC_eC, toL_len]
  by_cases ht : c.t = 0 ∨ c.t = 3 ∨ c.t = 5
  · obtain ⟨h0, h1⟩ := h ht
    rw [if_pos, if_pos ht, mvC, if_pos ht, toL_get (by omega), if_pos (by omega)]
    rw [if_pos ht, Bool.and_eq_true]
    exact ⟨decide_eq_true h0, decide_eq_true (by omega)⟩
  · rw [if_pos, if_neg ht, mvC, if_neg ht]
    rw [if_neg ht]

theorem eR_s0 (r : Ro) (l : List Ce) : D.a ((eR r).fs.set 0 (.r (l.map eC))) = eR { r with cs := l } := rfl
theorem eR_s1 (r : Ro) (l : List Int) : D.a ((eR r).fs.set 1 (.r (l.map D.i))) = eR { r with tp := l } := rfl
theorem eR_s2 (r : Ro) (l : List Int) : D.a ((eR r).fs.set 2 (.r (l.map D.i))) = eR { r with ms := l } := rfl

theorem ok_gc_Collect : FOk q0v gCol := fok_gc_Collect ok_gc_Collect_1 ok_gc_Valid ok_gc_mark ok_gc_marks_has fun ds outs hw hg => by
  obtain ⟨s, r, rfl, hs, hr⟩ := sr_of hw
  simp only [gCol, dS_eS, dR_eR, Option.ite_none_right_eq_some, Option.some.injEq] at hg
  obtain ⟨hsm, rfl⟩ := hg
  rw [q2c, q00]
  refine ⟨by simp only [q00, go_br, q01, q02, allSay, X.says, X.ev, X.evs, evl, tblS, List.getD_cons_zero, List.getD_cons_succ, List.getElem?_cons_zero, List.getElem?_cons_succ, tt_b, int_i, str_s, rs_r, Option.isSome_some, Option.getD_some, decide_eq_true_eq, decide_eq_false_iff_not, gnE, List.length_map, gnF, gnL, decide_true, decide_false, Bool.or_true, true_and, and_true, gSRb], ?_⟩
  rw [go_br]
  simp only [X.ev, X.evs, evl, tblS, List.getD_cons_zero, List.getElem?_cons_zero, List.getElem?_cons_succ, gSRb, dS_eS, dR_eR, tt_b, Option.getD_some, List.getD_cons_succ, okR_eq]
  refine ⟨fun hb => ?_, fun hb => ?_⟩
  · have hok : okR validR vcR s r = false := by simpa using hb
    simp only [q00, go_br, q01, q02, allSay, X.says, X.ev, X.evs, evl, tblS, List.getD_cons_zero, List.getD_cons_succ, List.getElem?_cons_zero, List.getElem?_cons_succ, tt_b, int_i, str_s, rs_r, Option.isSome_some, Option.getD_some, decide_eq_true_eq, decide_eq_false_iff_not, gnE, List.length_map, gnF, gnL, decide_true, decide_false, Bool.or_true, true_and, and_true, hok, Bool.false_eq_true, if_false]
  have hok : okR validR vcR s r = true := by simpa using hb
  have hc : GcQ s r := ⟨hok, hsm⟩
  have hv := hc.vg
  obtain ⟨z1, z2, z3, z4, z5, z6, z7⟩ := small_parts hsm
  obtain ⟨hval, hvr, htp, hms⟩ := okR_parts hok
  have hmk := hc.mark
  have hhas : ∀ a, a < s.cs.length → gHas [.r ((wdOf s r).map eN), .i ((a : Nat) : Int)] = some [.b (Mk s r a)] := fun a h => hc.has h
  simp only [hok, if_true]
  generalize hf : Mk s r = f at *
  have hmov : ∀ c, Gce s c → gMove [eC c, .r ((toL (bef f) s.cs.length s.cs.length).map D.i)] = some [eC (mvC f c)] := fun c h => gMove_at fun ht => h.mv ht
  have hold : ∀ i, i < s.tr.length → Gce s (s.tr.getD i default).old ∧ 0 ≤ (s.tr.getD i default).at' ∧ (s.tr.getD i default).at' < s.cs.length := fun i hi => by
    have := hv.old _ (getD_mem hi)
    exact ⟨this.2.2, this.1, this.2.1⟩
  have hrep : ∀ n : Nat, ((n : Int) + 1).toNat = n + 1 := fun n => by omega
  rw [q00]
  refine ⟨by simp only [q00, go_br, q01, q02, allSay, X.says, X.ev, X.evs, evl, tblS, List.getD_cons_zero, List.getD_cons_succ, List.getElem?_cons_zero, List.getElem?_cons_succ, tt_b, int_i, str_s, rs_r, Option.isSome_some, Option.getD_some, decide_eq_true_eq, decide_eq_false_iff_not, gnE, List.length_map, gnF, gnL, decide_true, decide_false, Bool.or_true, true_and, and_true, hmk], ?_⟩
  rw [q00]
  refine ⟨by simp only [q00, go_br, q01, q02, allSay, X.says, X.ev, X.evs, evl, tblS, List.getD_cons_zero, List.getD_cons_succ, List.getElem?_cons_zero, List.getElem?_cons_succ, tt_b, int_i, str_s, rs_r, Option.isSome_some, Option.getD_some, decide_eq_true_eq, decide_eq_false_iff_not, gnE, List.length_map, gnF, gnL, decide_true, decide_false, Bool.or_true, true_and, and_true]; omega, ?_⟩
  -- the new addresses
  refine acc2_ok s.cs.length (fun k => .r ((toL (bef f) s.cs.length k).map D.i)) ?_ fun k B' hk hB _ => ?_
  · simp only [q00, go_br, q01, q02, allSay, X.says, X.ev, X.evs, evl, tblS, List.getD_cons_zero, List.getD_cons_succ, List.getElem?_cons_zero, List.getElem?_cons_succ, tt_b, int_i, str_s, rs_r, Option.isSome_some, Option.getD_some, decide_eq_true_eq, decide_eq_false_iff_not, gnE, List.length_map, gnF, gnL, decide_true, decide_false, Bool.or_true, true_and, and_true, hrep]
    rw [toL_zero _ _ rfl]
  have htl := toL_len (bef f) s.cs.length k
  rw [go_br]
  refine ⟨fun hlt => ?_, fun hlt => ?_⟩
  · have hkl : k < s.cs.length := by simpa [X.ev, evl, eS_0, D.int, D.rs, D.tt] using hlt
    have hget := get_i (l := toL (bef f) s.cs.length k) (k := k) (by omega)
    rw [toL_get (by omega), if_pos (Nat.le_refl _)] at hget
    have hs2 := hB hkl
    have hadd : (k : Int) + 1 = ((k + 1 : Nat) : Int) := by omega
    have hset : ∀ (l : List Int) (v : Int), (l.map D.i).set (k + 1) (D.i v) = (l.set (k + 1) v).map D.i := fun l v => by rw [List.map_set]
    have hg2 := get_i (l := (toL (bef f) s.cs.length k).set (k + 1) (bef f k : Nat)) (k := k + 1) (by rw [List.length_set]; omega)
    have hgs : ((toL (bef f) s.cs.length k).set (k + 1) (bef f k : Nat)).getD (k + 1) default = ((bef f k : Nat) : Int) := by
      rw [List.getD_eq_getElem?_getD, List.getElem?_set_self (by omega)]
      rfl
    rw [hgs] at hg2
    have hbl := bef_le f k
    have hh := hhas k hkl
    simp only [List.take_succ_cons, List.take_zero, List.cons_append, List.nil_append]
    rw [q00]
    refine ⟨by simp only [q00, go_br, q01, q02, allSay, X.says, X.ev, X.evs, evl, tblS, List.getD_cons_zero, List.getD_cons_succ, List.getElem?_cons_zero, List.getElem?_cons_succ, tt_b, int_i, str_s, rs_r, Option.isSome_some, Option.getD_some, decide_eq_true_eq, decide_eq_false_iff_not, gnE, List.length_map, gnF, gnL, decide_true, decide_false, Bool.or_true, true_and, and_true]; omega, ?_⟩
    rw [q00]
    refine ⟨by simp only [q00, go_br, q01, q02, allSay, X.says, X.ev, X.evs, evl, tblS, List.getD_cons_zero, List.getD_cons_succ, List.getElem?_cons_zero, List.getElem?_cons_succ, tt_b, int_i, str_s, rs_r, Option.isSome_some, Option.getD_some, decide_eq_true_eq, decide_eq_false_iff_not, gnE, List.length_map, gnF, gnL, decide_true, decide_false, Bool.or_true, true_and, and_true, hmk, hh], ?_⟩
    rw [go_br]
    simp only [X.ev, X.evs, evl, tblS, List.getD_cons_succ, List.getD_cons_zero, List.getElem?_cons_zero, List.getElem?_cons_succ, hmk, Option.getD_some, hh, tt_b]
    refine ⟨fun hf1 => ?_, fun hf1 => ?_⟩
    · have hbs : ((bef f k : Nat) : Int) + 1 = (bef f (k + 1) : Nat) := by rw [bef, hf1, if_pos rfl]; omega
      have hb2 := bef_le f (k + 1)
      have e2 : ((toL (bef f) s.cs.length k).set (k + 1) (bef f k : Nat)).set (k + 1) (bef f (k + 1) : Nat) = toL (bef f) s.cs.length (k + 1) := by rw [List.set_set]; exact toL_set hkl rfl
      rw [hadd] at hs2
      simp only [q00, go_br, q01, q02, allSay, X.says, X.ev, X.evs, evl, tblS, List.getD_cons_zero, List.getD_cons_succ, List.getElem?_cons_zero, List.getElem?_cons_succ, tt_b, int_i, str_s, rs_r, Option.isSome_some, Option.getD_some, decide_eq_true_eq, decide_eq_false_iff_not, gnE, List.length_map, gnF, gnL, decide_true, decide_false, Bool.or_true, true_and, and_true, hadd, Int.toNat_natCast, hget, hset, hg2, hbs, e2, List.length_set]
      and_intros <;> first | omega | exact hs2
    · have hbs : bef f (k + 1) = bef f k := by rw [bef, hf1]; rfl
      have e2 : (toL (bef f) s.cs.length k).set (k + 1) (bef f k : Nat) = toL (bef f) s.cs.length (k + 1) := toL_set hkl (by rw [hbs])
      rw [hadd] at hs2
      simp only [q00, go_br, q01, q02, allSay, X.says, X.ev, X.evs, evl, tblS, List.getD_cons_zero, List.getD_cons_succ, List.getElem?_cons_zero, List.getElem?_cons_succ, tt_b, int_i, str_s, rs_r, Option.isSome_some, Option.getD_some, decide_eq_true_eq, decide_eq_false_iff_not, gnE, List.length_map, gnF, gnL, decide_true, decide_false, Bool.or_true, true_and, and_true, hadd, Int.toNat_natCast, hget, hset, e2]
      and_intros <;> first | omega | exact hs2
  have hkk : k = s.cs.length := by
    have : ¬ (k < s.cs.length) := by simpa [X.ev, evl, eS_0, D.int, D.rs, D.tt] using hlt
    omega
  subst hkk
  simp only [List.take_succ_cons, List.take_zero, List.cons_append, List.nil_append]
  -- the cells
  refine acc1_ok s.cs.length (fun k => .r ((heapF f s k).map eC)) rfl fun k B' hk hB _ => ?_
  have hhl := heapF_len f s k
  have hbl := bef_le f k
  rw [go_br]
  refine ⟨fun hlt => ?_, fun hlt => ?_⟩
  · have hkl : k < s.cs.length := by simpa [X.ev, evl, eS_0, D.int, D.rs, D.tt] using hlt
    have hin : inS s (k : Nat) = true := inS_iff.2 ⟨by omega, by omega⟩
    have hcell := cell_get hin
    have hh := hhas k hkl
    have hs := hB hkl
    rw [heapF_succ] at hs
    simp only [List.take_succ_cons, List.take_zero, List.cons_append, List.nil_append]
    rw [q00]
    refine ⟨by simp only [q00, go_br, q01, q02, allSay, X.says, X.ev, X.evs, evl, tblS, List.getD_cons_zero, List.getD_cons_succ, List.getElem?_cons_zero, List.getElem?_cons_succ, tt_b, int_i, str_s, rs_r, Option.isSome_some, Option.getD_some, decide_eq_true_eq, decide_eq_false_iff_not, gnE, List.length_map, gnF, gnL, decide_true, decide_false, Bool.or_true, true_and, and_true]; omega, ?_⟩
    rw [q00]
    refine ⟨by simp only [q00, go_br, q01, q02, allSay, X.says, X.ev, X.evs, evl, tblS, List.getD_cons_zero, List.getD_cons_succ, List.getElem?_cons_zero, List.getElem?_cons_succ, tt_b, int_i, str_s, rs_r, Option.isSome_some, Option.getD_some, decide_eq_true_eq, decide_eq_false_iff_not, gnE, List.length_map, gnF, gnL, decide_true, decide_false, Bool.or_true, true_and, and_true, hmk, hh], ?_⟩
    rw [go_br]
    simp only [X.ev, X.evs, evl, tblS, List.getD_cons_succ, List.getD_cons_zero, List.getElem?_cons_zero, List.getElem?_cons_succ, hmk, Option.getD_some, hh, tt_b]
    refine ⟨fun hb => ?_, fun hb => ?_⟩
    · rw [app_if _ _ _ _ hb] at hs
      have := hmov _ (hv.cell k hkl)
      simp only [q00, go_br, q01, q02, allSay, X.says, X.ev, X.evs, evl, tblS, List.getD_cons_zero, List.getD_cons_succ, List.getElem?_cons_zero, List.getElem?_cons_succ, tt_b, int_i, str_s, rs_r, Option.isSome_some, Option.getD_some, decide_eq_true_eq, decide_eq_false_iff_not, gnE, List.length_map, gnF, gnL, decide_true, decide_false, Bool.or_true, true_and, and_true, hmk, hcell, this]
      and_intros <;> first | omega | exact hs
    · rw [app_if0 _ _ _ _ hb] at hs
      simp only [q00, go_br, q01, q02, allSay, X.says, X.ev, X.evs, evl, tblS, List.getD_cons_zero, List.getD_cons_succ, List.getElem?_cons_zero, List.getElem?_cons_succ, tt_b, int_i, str_s, rs_r, Option.isSome_some, Option.getD_some, decide_eq_true_eq, decide_eq_false_iff_not, gnE, List.length_map, gnF, gnL, decide_true, decide_false, Bool.or_true, true_and, and_true]
      and_intros <;> first | omega | exact hs
  have hkk : k = s.cs.length := by
    have : ¬ (k < s.cs.length) := by simpa [X.ev, evl, eS_0, D.int, D.rs, D.tt] using hlt
    omega
  subst hkk
  simp only [List.take_succ_cons, List.take_zero, List.cons_append, List.nil_append]
  rw [q00]
  refine ⟨by simp only [q00, go_br, q01, q02, allSay, X.says, X.ev, X.evs, evl, tblS, List.getD_cons_zero, List.getD_cons_succ, List.getElem?_cons_zero, List.getElem?_cons_succ, tt_b, int_i, str_s, rs_r, Option.isSome_some, Option.getD_some, decide_eq_true_eq, decide_eq_false_iff_not, gnE, List.length_map, gnF, gnL, decide_true, decide_false, Bool.or_true, true_and, and_true]; omega, ?_⟩
  -- the trail
  refine acc3_ok s.tr.length (fun k => .r ((trailF f s k).map eU)) (fun k => .r ((toL (keptF f s) s.tr.length k).map D.i)) rfl ?_ fun k B' hk hB _ => ?_
  · simp only [q00, go_br, q01, q02, allSay, X.says, X.ev, X.evs, evl, tblS, List.getD_cons_zero, List.getD_cons_succ, List.getElem?_cons_zero, List.getElem?_cons_succ, tt_b, int_i, str_s, rs_r, Option.isSome_some, Option.getD_some, decide_eq_true_eq, decide_eq_false_iff_not, gnE, List.length_map, gnF, gnL, decide_true, decide_false, Bool.or_true, true_and, and_true, hrep]
    rw [toL_zero _ _ rfl]
  have htl := toL_len (keptF f s) s.tr.length k
  have htrl := trailF_len f s k
  have hkl2 := keptF_le f s k
  have htl0 := toL_len (bef f) s.cs.length s.cs.length
  rw [go_br]
  refine ⟨fun hlt => ?_, fun hlt => ?_⟩
  · have hkl : k < s.tr.length := by simpa [X.ev, evl, eS_2, D.int, D.rs, D.tt] using hlt
    obtain ⟨ho, ha0, ha1⟩ := hold k hkl
    obtain ⟨b, hb⟩ := Int.eq_ofNat_of_zero_le ha0
    have hh := hhas b (by omega)
    have hs := hB hkl
    have hadd : (k : Int) + 1 = ((k + 1 : Nat) : Int) := by omega
    have hset : ∀ (l : List Int) (v : Int), (l.map D.i).set (k + 1) (D.i v) = (l.set (k + 1) v).map D.i := fun l v => by rw [List.map_set]
    have hks := keptF_succ (f := f) hkl
    rw [onTr, hb, Int.toNat_natCast] at hks
    rw [trailF_succ hkl, onTr, hb, Int.toNat_natCast] at hs
    have hgb := get_i (l := toL (bef f) s.cs.length s.cs.length) (k := b) (by omega)
    rw [toL_get (by omega), if_pos (by omega)] at hgb
    simp only [List.take_succ_cons, List.take_zero, List.cons_append, List.nil_append]
    rw [q00]
    refine ⟨by simp only [q00, go_br, q01, q02, allSay, X.says, X.ev, X.evs, evl, tblS, List.getD_cons_zero, List.getD_cons_succ, List.getElem?_cons_zero, List.getElem?_cons_succ, tt_b, int_i, str_s, rs_r, Option.isSome_some, Option.getD_some, decide_eq_true_eq, decide_eq_false_iff_not, gnE, List.length_map, gnF, gnL, decide_true, decide_false, Bool.or_true, true_and, and_true, get_n eU hkl]; omega, ?_⟩
    rw [q00]
    refine ⟨by simp only [q00, go_br, q01, q02, allSay, X.says, X.ev, X.evs, evl, tblS, List.getD_cons_zero, List.getD_cons_succ, List.getElem?_cons_zero, List.getElem?_cons_succ, tt_b, int_i, str_s, rs_r, Option.isSome_some, Option.getD_some, decide_eq_true_eq, decide_eq_false_iff_not, gnE, List.length_map, gnF, gnL, decide_true, decide_false, Bool.or_true, true_and, and_true, get_n eU hkl, hmk, hb, hh], ?_⟩
    rw [go_br]
    simp only [X.ev, X.evs, evl, tblS, List.getD_cons_succ, List.getD_cons_zero, List.getElem?_cons_zero, List.getElem?_cons_succ, hmk, Option.getD_some, eS_2, int_i, get_n eU hkl, eU_0, hb, hh, tt_b]
    refine ⟨fun hf1 => ?_, fun hf1 => ?_⟩
    · rw [app_if _ _ _ _ hf1, mvU, hb, Int.toNat_natCast, hadd] at hs
      rw [hf1, if_pos rfl] at hks
      have h1 := hmov _ ho
      have e1 : (((List.map eU (trailF f s k) ++ [eU ⟨(bef f b : Nat), mvC f (s.tr.getD k default).old⟩]).length : Nat) : Int) = (keptF f s (k + 1) : Nat) := by
        rw [List.length_append, List.length_map, htrl, hks]
        rfl
      have e2 := toL_set (f := keptF f s) hkl (v := ((keptF f s (k + 1) : Nat) : Int)) rfl
      simp only [q00, go_br, q01, q02, allSay, X.says, X.ev, X.evs, evl, tblS, List.getD_cons_zero, List.getD_cons_succ, List.getElem?_cons_zero, List.getElem?_cons_succ, tt_b, int_i, str_s, rs_r, Option.isSome_some, Option.getD_some, decide_eq_true_eq, decide_eq_false_iff_not, gnE, List.length_map, gnF, gnL, decide_true, decide_false, Bool.or_true, true_and, and_true, hmk, get_n eU hkl, hb, h1, hgb, hadd, Int.toNat_natCast, eU_mk]
      simp only [e1, hset, e2]
      and_intros <;> first | omega | exact hs
    · rw [app_if0 _ _ _ _ hf1, hadd] at hs
      rw [hf1] at hks
      have hks : keptF f s (k + 1) = keptF f s k := hks
      have e2 := toL_set (f := keptF f s) hkl (v := ((keptF f s k : Nat) : Int)) (by rw [hks])
      simp only [q00, go_br, q01, q02, allSay, X.says, X.ev, X.evs, evl, tblS, List.getD_cons_zero, List.getD_cons_succ, List.getElem?_cons_zero, List.getElem?_cons_succ, tt_b, int_i, str_s, rs_r, Option.isSome_some, Option.getD_some, decide_eq_true_eq, decide_eq_false_iff_not, gnE, List.length_map, gnF, gnL, decide_true, decide_false, Bool.or_true, true_and, and_true, htrl, hadd, Int.toNat_natCast, hset, e2]
      and_intros <;> first | omega | exact hs
  have hkk : k = s.tr.length := by
    have : ¬ (k < s.tr.length) := by simpa [X.ev, evl, eS_2, D.int, D.rs, D.tt] using hlt
    omega
  subst hkk
  simp only [List.take_succ_cons, List.take_zero, List.cons_append, List.nil_append]
  -- the wakes
  refine acc1_ok s.wk.length (fun k => .r (((s.wk.take k).map (mvW f)).map eW)) rfl fun k B' hk hB _ => ?_
  rw [go_br]
  refine ⟨fun hlt => ?_, fun hlt => ?_⟩
  · have hkl : k < s.wk.length := by simpa [X.ev, evl, eS_3, D.int, D.rs, D.tt] using hlt
    have hm1 : (s.wk.getD k default).att ∈ rootsC s r := List.mem_append_right _ (List.mem_flatMap.2 ⟨_, getD_mem hkl, by simp⟩)
    have hm2 : (s.wk.getD k default).val ∈ rootsC s r := List.mem_append_right _ (List.mem_flatMap.2 ⟨_, getD_mem hkl, by simp⟩)
    have h1 := hmov _ (hv.root _ hm1)
    have h2 := hmov _ (hv.root _ hm2)
    have hs := hB hkl
    rw [take_map_succ _ hkl, List.map_append] at hs
    have htl := List.length_take_le k s.wk
    simp only [q00, go_br, q01, q02, allSay, X.says, X.ev, X.evs, evl, tblS, List.getD_cons_zero, List.getD_cons_succ, List.getElem?_cons_zero, List.getElem?_cons_succ, tt_b, int_i, str_s, rs_r, Option.isSome_some, Option.getD_some, decide_eq_true_eq, decide_eq_false_iff_not, gnE, List.length_map, gnF, gnL, decide_true, decide_false, Bool.or_true, true_and, and_true, get_n eW hkl, h1, h2]
    and_intros <;> first | omega | exact hs
  have hkk : k = s.wk.length := by
    have : ¬ (k < s.wk.length) := by simpa [X.ev, evl, eS_3, D.int, D.rs, D.tt] using hlt
    omega
  subst hkk
  simp only [List.take_succ_cons, List.take_zero, List.cons_append, List.nil_append, List.take_length]
  -- the roots' cells
  refine acc2_ok r.cs.length (fun k => eR ⟨(r.cs.take k).map (mvC f), [], []⟩) rfl fun k B' hk hB _ => ?_
  rw [go_br]
  refine ⟨fun hlt => ?_, fun hlt => ?_⟩
  · have hkl : k < r.cs.length := by simpa [X.ev, evl, eR_0, D.int, D.rs, D.tt] using hlt
    have h1 := hmov _ (hv.root _ (List.mem_append_left _ (getD_mem hkl)))
    have hs := hB hkl
    rw [take_map_succ _ hkl] at hs
    have htl := List.length_take_le k r.cs
    have hap : ∀ (l : List Ce) (c : Ce), l.map eC ++ [eC c] = (l ++ [c]).map eC := fun l c => by simp
    simp only [q00, go_br, q01, q02, allSay, X.says, X.ev, X.evs, evl, tblS, List.getD_cons_zero, List.getD_cons_succ, List.getElem?_cons_zero, List.getElem?_cons_succ, tt_b, int_i, str_s, rs_r, Option.isSome_some, Option.getD_some, decide_eq_true_eq, decide_eq_false_iff_not, gnE, List.length_map, gnF, gnL, decide_true, decide_false, Bool.or_true, true_and, and_true, eR_0, get_n eC hkl, h1, hap, eR_s0]
    and_intros <;> first | omega | exact hs
  have hkk : k = r.cs.length := by
    have : ¬ (k < r.cs.length) := by simpa [X.ev, evl, eR_0, D.int, D.rs, D.tt] using hlt
    omega
  subst hkk
  simp only [List.take_succ_cons, List.take_zero, List.cons_append, List.nil_append, List.take_length]
  -- the tops
  refine acc2_ok r.tp.length (fun k => eR ⟨r.cs.map (mvC f), (r.tp.take k).map fun t => ((bef f t.toNat : Nat) : Int), []⟩) rfl fun k B' hk hB _ => ?_
  rw [go_br]
  refine ⟨fun hlt => ?_, fun hlt => ?_⟩
  · have hkl : k < r.tp.length := by simpa [X.ev, evl, eR_1, D.int, D.rs, D.tt] using hlt
    have hmk2 := htp _ (getD_mem hkl)
    obtain ⟨a, ha⟩ := Int.eq_ofNat_of_zero_le hmk2.1
    have hgb := get_i (l := toL (bef f) s.cs.length s.cs.length) (k := a) (by omega)
    rw [toL_get (by omega), if_pos (by omega)] at hgb
    have hs := hB hkl
    rw [take_map_succ _ hkl, ha, Int.toNat_natCast] at hs
    have htl := List.length_take_le k r.tp
    have hap : ∀ (l : List Int) (c : Int), l.map D.i ++ [D.i c] = (l ++ [c]).map D.i := fun l c => by simp
    simp only [q00, go_br, q01, q02, allSay, X.says, X.ev, X.evs, evl, tblS, List.getD_cons_zero, List.getD_cons_succ, List.getElem?_cons_zero, List.getElem?_cons_succ, tt_b, int_i, str_s, rs_r, Option.isSome_some, Option.getD_some, decide_eq_true_eq, decide_eq_false_iff_not, gnE, List.length_map, gnF, gnL, decide_true, decide_false, Bool.or_true, true_and, and_true, eR_1, get_i hkl, ha, hgb, hap, eR_s1]
    and_intros <;> first | omega | exact hs
  have hkk : k = r.tp.length := by
    have : ¬ (k < r.tp.length) := by simpa [X.ev, evl, eR_1, D.int, D.rs, D.tt] using hlt
    omega
  subst hkk
  simp only [List.take_succ_cons, List.take_zero, List.cons_append, List.nil_append, List.take_length]
  -- the marks
  refine acc2_ok r.ms.length (fun k => eR ⟨r.cs.map (mvC f), r.tp.map fun t => ((bef f t.toNat : Nat) : Int), (r.ms.take k).map fun t => ((keptF f s t.toNat : Nat) : Int)⟩) rfl fun k B' hk hB _ => ?_
  rw [go_br]
  refine ⟨fun hlt => ?_, fun hlt => ?_⟩
  · have hkl : k < r.ms.length := by simpa [X.ev, evl, eR_2, D.int, D.rs, D.tt] using hlt
    have hmk2 := hms _ (getD_mem hkl)
    obtain ⟨a, ha⟩ := Int.eq_ofNat_of_zero_le hmk2.1
    have htl1 := toL_len (keptF f s) s.tr.length s.tr.length
    have hgb := get_i (l := toL (keptF f s) s.tr.length s.tr.length) (k := a) (by omega)
    rw [toL_get (by omega), if_pos (by omega)] at hgb
    have hs := hB hkl
    rw [take_map_succ _ hkl, ha, Int.toNat_natCast] at hs
    have htl := List.length_take_le k r.ms
    have hap : ∀ (l : List Int) (c : Int), l.map D.i ++ [D.i c] = (l ++ [c]).map D.i := fun l c => by simp
    simp only [q00, go_br, q01, q02, allSay, X.says, X.ev, X.evs, evl, tblS, List.getD_cons_zero, List.getD_cons_succ, List.getElem?_cons_zero, List.getElem?_cons_succ, tt_b, int_i, str_s, rs_r, Option.isSome_some, Option.getD_some, decide_eq_true_eq, decide_eq_false_iff_not, gnE, List.length_map, gnF, gnL, decide_true, decide_false, Bool.or_true, true_and, and_true, eR_2, get_i hkl, ha, hgb, hap, eR_s2]
    and_intros <;> first | omega | exact hs
  have hkk : k = r.ms.length := by
    have : ¬ (k < r.ms.length) := by simpa [X.ev, evl, eR_2, D.int, D.rs, D.tt] using hlt
    omega
  subst hkk
  simp only [List.take_succ_cons, List.take_zero, List.cons_append, List.nil_append, List.take_length]
  rfl
end Go.Proofs.Ytmebmpgffhajbaa


namespace Go.Proofs.Ytmebmpgffhajbaa
open Go.RowKit
set_option linter.unusedVariables false
set_option maxRecDepth 100000

def gYesA : List D → Option (List D) := fun _ => some [.b true]
theorem ok_law34_awake : FOk q1j gYesA := fok_law34_awake ok_law34_cell_c ok_law34_six_c ok_law34_gives_c fun ds outs hw hg => by
  obtain rfl : ds = [] := hw
  simp only [gYesA, Option.some.injEq] at hg
  subst hg
  exact q16 (fuel := 60) (by kernel_rfl)
end Go.Proofs.Ytmebmpgffhajbaa


namespace Go.Proofs.Ytmebmpgffhajbaa
open Go.RowKit
set_option linter.unusedVariables false
set_option linter.unusedSimpArgs false

theorem clone_at {s : So} (hs : s.ok) : gClone [eS s] = some [eS s] := by
  simp only [gClone, dS_eS, clQ_of hs, if_true]
theorem rclone_at (r : Ro) : gRClone [eR r] = some [eR r] := by
  simp only [gRClone, dR_eR]
theorem col_at {s : So} {r : Ro} (h : GcQ s r) : gCol [eS s, eR r] = some [.i 0, eS (colS (Mk s r) s), eR (colR (Mk s r) s r)] := by
  simp only [gCol, dS_eS, dR_eR, h.ok, h.sm, if_true]
theorem valid_at (v : So → Bool) (vc : So → Ce → Bool) (s : So) (r : Ro) : gSRb (okR v vc) [eS s, eR r] = some [.b (okR v vc s r)] := by
  simp only [gSRb, dS_eS, dR_eR]
theorem small_at (s : So) (r : Ro) : gSRb smallB [eS s, eR r] = some [.b (smallB s r)] := by
  simp only [gSRb, dS_eS, dR_eR]

end Go.Proofs.Ytmebmpgffhajbaa


namespace Go.Proofs.Ytmebmpgffhajbaa
open Go.RowKit
set_option linter.unusedVariables false
set_option linter.unusedSimpArgs false

def idxF (f : Nat → Bool) (n : Nat) : List Nat := (List.range n).filter f
end Go.Proofs.Ytmebmpgffhajbaa


namespace Go.Proofs.Ytmebmpgffhajbaa
open Go.RowKit
set_option linter.unusedVariables false
set_option linter.unusedSimpArgs false

theorem bef_mono (f : Nat → Bool) {a b : Nat} (h : a ≤ b) : bef f a ≤ bef f b := by
  induction h with
  | refl => exact Nat.le_refl _
  | step h ih => exact Nat.le_trans ih (by show bef f _ ≤ bef f _ + _; omega)
theorem bef_one {f : Nat → Bool} {a : Nat} (h : f a = true) : bef f (a + 1) = bef f a + 1 := by
  show bef f a + (if f a then 1 else 0) = _
  rw [h, if_pos rfl]
theorem bef_lt {f : Nat → Bool} {a b : Nat} (h : f a = true) (hab : a < b) : bef f a < bef f b := by
  have := bef_mono f (a := a + 1) (b := b) hab
  rw [bef_one h] at this
  exact this
theorem bef_inj {f : Nat → Bool} {a b : Nat} (ha : f a = true) (hb : f b = true) (h : bef f a = bef f b) : a = b := by
  rcases Nat.lt_trichotomy a b with h1 | h1 | h1
  · have := bef_lt ha h1; omega
  · exact h1
  · have := bef_lt hb h1; omega
theorem bef_run {f : Nat → Bool} {a : Nat} : ∀ {j : Nat}, (∀ i, i < j → f (a + i) = true) → bef f (a + j) = bef f a + j
  | 0, _ => rfl
  | j + 1, h => by
    have := bef_run (j := j) fun i hi => h i (by omega)
    rw [show a + (j + 1) = (a + j) + 1 by omega, bef_one (h j (by omega)), this]
    omega
theorem bef_surj {f : Nat → Bool} : ∀ {n i : Nat}, i < bef f n → ∃ a, a < n ∧ f a = true ∧ bef f a = i
  | 0, i, h => absurd h (Nat.not_lt_zero _)
  | n + 1, i, h => by
    by_cases hi : i < bef f n
    · obtain ⟨a, h1, h2, h3⟩ := bef_surj hi
      exact ⟨a, by omega, h2, h3⟩
    · cases hf : f n with
      | true =>
        rw [bef_one hf] at h
        exact ⟨n, Nat.lt_succ_self n, hf, by omega⟩
      | false =>
        have : bef f (n + 1) = bef f n := by
          show bef f n + (if f n then 1 else 0) = _
          rw [hf, if_neg (by decide)]
          rfl
        omega
theorem heap_at {f : Nat → Bool} {s : So} {a : Nat} (ha : f a = true) : ∀ {n : Nat}, a < n → (heapF f s n).getD (bef f a) default = mvC f (cellAt s (a : Nat))
  | 0, h => absurd h (Nat.not_lt_zero _)
  | n + 1, h => by
    rw [heapF_succ]
    rcases Nat.lt_or_eq_of_le (Nat.le_of_lt_succ h) with h | h
    · have h1 : bef f a < (heapF f s n).length := by rw [heapF_len]; exact bef_lt ha h
      rw [List.getD_eq_getElem?_getD, List.getElem?_append_left h1, ← List.getD_eq_getElem?_getD]
      exact heap_at ha h
    · subst h
      rw [ha, if_pos rfl, List.getD_eq_getElem?_getD, List.getElem?_append_right (by rw [heapF_len]; exact Nat.le_refl _), heapF_len, Nat.sub_self]
      rfl

section
variable {s : So} {r : Ro}

theorem mvC_t (f : Nat → Bool) (c : Ce) : (mvC f c).t = c.t := by
  unfold mvC
  split <;> rfl
theorem mvC_n {f : Nat → Bool} {c : Ce} (h : c.t = 0 ∨ c.t = 3 ∨ c.t = 5) : (mvC f c).n = (bef f c.n.toNat : Nat) := by
  unfold mvC
  rw [if_pos h]
theorem mvC_k {f : Nat → Bool} {c : Ce} (h : ¬ (c.t = 0 ∨ c.t = 3 ∨ c.t = 5)) : mvC f c = c := if_neg h

theorem col_in {f : Nat → Bool} {a : Nat} (hf : f a = true) (ha : a < s.cs.length) : inS (colS f s) (bef f a : Nat) = true := by
  refine inS_iff.2 ⟨by omega, ?_⟩
  show _ < (((heapF f s s.cs.length).length : Nat) : Int)
  rw [heapF_len]
  have := bef_lt hf ha
  omega
theorem col_cell {f : Nat → Bool} {a : Nat} (hf : f a = true) (ha : a < s.cs.length) : cellAt (colS f s) (bef f a : Nat) = mvC f (cellAt s (a : Nat)) := by
  show (heapF f s s.cs.length).getD _ default = _
  rw [Int.toNat_natCast]
  exact heap_at hf ha
theorem col_tag {f : Nat → Bool} {a : Nat} (hf : f a = true) (ha : a < s.cs.length) : tagS (colS f s) (bef f a : Nat) = tagS s (a : Nat) := by
  rw [tagS_in (col_in hf ha), col_cell hf ha, mvC_t, tagS_in (inS_iff.2 ⟨by omega, by omega⟩)]
theorem col_ar (f : Nat → Bool) (n : Int) : arS (colS f s) n = arS s n := rfl

def Clo (s : So) (r : Ro) (c : Ce) : Prop := ∀ x ∈ tgS s c, Mk s r x = true
theorem cl_root {c : Ce} (h : c ∈ rootsC s r) : Clo s r c := fun x hx => Mk_iff.2 (.root h hx)
theorem cl_cell {y : Nat} (h : Mk s r y = true) : Clo s r (cellAt s (y : Nat)) := fun x hx => Mk_iff.2 (.cell (Mk_iff.1 h) hx)
theorem cl_old {u : Un} (hu : u ∈ s.tr) (h0 : 0 ≤ u.at') (h : Mk s r u.at'.toNat = true) : Clo s r u.old := fun x hx => Mk_iff.2 (.old (Mk_iff.1 h) (List.mem_map.2 ⟨u, List.mem_filter.2 ⟨hu, by simp; omega⟩, rfl⟩) hx)
theorem Clo.at {c : Ce} (h : Clo s r c) {j : Nat} (hj : j < cntS s c) : Mk s r (c.n.toNat + j) = true := h _ (tg_mem.2 ⟨j, hj, rfl⟩)
theorem cnt_pos {c : Ce} (h : c.t = 0 ∨ c.t = 3 ∨ c.t = 5) : 0 < cntS s c := by
  unfold cntS
  rcases h with h | h | h
  · rw [if_pos h]; omega
  · rw [if_neg (by omega), if_pos h]; omega
  · rw [if_neg (by omega), if_neg (by omega), if_pos h]; omega

theorem vc_str {c : Ce} (h : vcR s c = true) (ht : c.t = 3) : tagS s c.n = 4 := by
  unfold vcR at h
  rw [if_neg (by omega), if_neg (by omega), if_neg (by omega), if_pos ht, decide_eq_true_eq] at h
  exact h
theorem vc_att {c : Ce} (h : vcR s c = true) (ht : c.t = 5) : tagS s c.n = 5 := by
  unfold vcR at h
  rw [if_neg (by omega), if_neg (by omega), if_neg (by omega), if_neg (by omega), if_pos ht, decide_eq_true_eq] at h
  exact h
theorem old_vc {u : Un} (h : oldR s u = true) (ht : u.old.t = 1 ∨ u.old.t = 2 ∨ u.old.t = 3) : vcR s u.old = true := by
  unfold oldR oldB at h
  rw [Bool.and_eq_true, if_neg (by omega), if_neg (by omega), if_pos ht] at h
  exact h.2
theorem old_0 {u : Un} (h : oldR s u = true) (ht : u.old.t = 0) : u.old.n = u.at' := by
  unfold oldR oldB at h
  rw [Bool.and_eq_true, if_pos ht, decide_eq_true_eq] at h
  exact h.2
theorem old_5 {u : Un} (h : oldR s u = true) (ht : u.old.t = 5) : u.old.n = u.at' ∧ groupS s u.at' = true ∧ tagS s (u.at' - 1) ≠ 5 := by
  unfold oldR oldB at h
  rw [Bool.and_eq_true, if_neg (by omega), if_pos ht] at h
  simpa only [Bool.and_eq_true, decide_eq_true_eq, Bool.not_eq_true', decide_eq_false_iff_not] using h.2
theorem grp {i : Int} (h : groupS s i = true) : tagS s (i + 1) = 1 ∧ 1 ≤ (cellAt s (i + 1)).n ∧ (cellAt s (i + 1)).n ≤ s.ser ∧ 0 ≤ tagS s (i + 2) ∧ tagS s (i + 2) ≠ 4 ∧ tagS s (i + 2) ≠ 5 := by
  simpa only [groupS, Bool.and_eq_true, decide_eq_true_eq, Bool.not_eq_true', decide_eq_false_iff_not] using h

theorem fun_all (h : okR validR vcR s r = true) {x : Nat} (hx : Rch s r x) : tagS s (x : Nat) = 4 → ∀ j : Nat, (j : Int) ≤ arS s (cellAt s (x : Nat)).n → Mk s r (x + j) = true := by
  have hv := vg_of h
  obtain ⟨hval, -, -, -⟩ := okR_parts h
  -- a cell that is valid, whose reach is marked
  have key : ∀ (c : Ce) (x : Nat), Gce s c → Clo s r c → vcR s c = true → x ∈ tgS s c → tagS s (x : Nat) = 4 → ∀ j : Nat, (j : Int) ≤ arS s (cellAt s (x : Nat)).n → Mk s r (x + j) = true := fun c x hg hcl hvc hx ht j hj => by
    obtain ⟨k, hk, rfl⟩ := tg_mem.1 hx
    have htt : c.t = 0 ∨ c.t = 3 ∨ c.t = 5 := by
      unfold cntS at hk
      split at hk
      · exact .inl ‹_›
      · split at hk
        · exact .inr (.inl ‹_›)
        · split at hk
          · exact .inr (.inr ‹_›)
          · omega
    obtain ⟨h1, h2⟩ := hg.b htt
    have hcn : ((c.n.toNat : Nat) : Int) = c.n := by omega
    rcases htt with h0 | h3 | h5
    · have hk0 : k = 0 := by
        unfold cntS at hk
        rw [if_pos h0] at hk
        omega
      subst hk0
      rw [Nat.add_zero, hcn] at ht
      have := vc_ref hvc h0
      rw [tagS_in this.1] at ht
      exact absurd ht this.2
    · have h4 := vc_str hvc h3
      have hin : inS s c.n = true := inS_iff.2 ⟨h1, by omega⟩
      have hcnt : cntS s c = (s.ys.getD (cellAt s c.n).n.toNat default).ar.toNat + 1 := by
        unfold cntS
        rw [if_neg (by omega), if_pos h3]
      obtain ⟨a1, a2, a3⟩ := vr_fun hval hin (by rw [← tagS_in hin]; exact h4)
      have har := (ar_rng (s := s) (n := (cellAt s c.n).n) (by omega)).2.2
      rcases Nat.eq_zero_or_pos k with rfl | hk1
      · rw [Nat.add_zero, hcn] at hj
        rw [Nat.add_zero]
        exact hcl.at (by omega)
      · obtain ⟨b1, b2⟩ := a3 (k - 1) (by omega)
        rw [show c.n + 1 + ((k - 1 : Nat) : Int) = ((c.n.toNat + k : Nat) : Int) by omega] at b1 b2
        exfalso
        rw [tagS_in b1] at ht
        unfold vcR at b2
        rw [if_neg (by omega), if_neg (by omega), if_neg (by omega), if_neg (by omega), if_neg (by omega)] at b2
        cases b2
    · have h6 := vc_att hvc h5
      have hin : inS s c.n = true := inS_iff.2 ⟨h1, by omega⟩
      have hcell := vr_cell hval hin
      rw [tagS_in hin] at h6
      unfold cellR at hcell
      rw [if_neg (by omega)] at hcell
      simp only [Bool.and_eq_true, h6, decide_true, Bool.not_true, Bool.false_or, decide_eq_true_eq] at hcell
      have hg := grp hcell.2.2.2
      have hk3 : k < 3 := by
        unfold cntS at hk
        rw [if_neg (by omega), if_neg (by omega), if_pos h5] at hk
        exact hk
      exfalso
      have : k = 0 ∨ k = 1 ∨ k = 2 := by omega
      rcases this with rfl | rfl | rfl
      · rw [Nat.add_zero, hcn, tagS_in hin] at ht
        omega
      · rw [show ((c.n.toNat + 1 : Nat) : Int) = c.n + 1 by omega] at ht
        omega
      · rw [show ((c.n.toNat + 2 : Nat) : Int) = c.n + 2 by omega] at ht
        omega
  induction hx with
  | @root c x hc hx => exact key c x (hv.root _ hc) (cl_root hc) (vc_root h hc) hx
  | @cell y x hy hx ih =>
    have hl := hy.lt hv
    by_cases h4 : (cellAt s (y : Nat)).t = 4
    · obtain ⟨k, hk, -⟩ := tg_mem.1 hx
      exfalso
      unfold cntS at hk
      rw [if_neg (by omega), if_neg (by omega), if_neg (by omega)] at hk
      omega
    · exact key _ x (hv.cell y hl) (cl_cell (Mk_iff.2 hy)) (vr_vc hval (inS_iff.2 ⟨by omega, by omega⟩) h4) hx
  | @old y x c hy hc hx ih =>
    have hgc := olds_good hv hc
    obtain ⟨u, hu, rfl⟩ := List.mem_map.1 hc
    obtain ⟨hu, hat⟩ := List.mem_filter.1 hu
    have hat : u.at' = (y : Int) := of_decide_eq_true hat
    have hold := vr_old hval hu
    have hcl : Clo s r u.old := cl_old hu (by omega) (by rw [hat, Int.toNat_natCast]; exact Mk_iff.2 hy)
    obtain ⟨k, hk, hxe⟩ := tg_mem.1 hx
    by_cases h0 : u.old.t = 0
    · have hn := old_0 hold h0
      have : k = 0 := by
        unfold cntS at hk
        rw [if_pos h0] at hk
        omega
      have : x = y := by omega
      subst this
      exact ih
    · by_cases h5 : u.old.t = 5
      · obtain ⟨hn, hgr, -⟩ := old_5 hold h5
        have hg := grp hgr
        have hk3 : k < 3 := by
          unfold cntS at hk
          rw [if_neg (by omega), if_neg (by omega), if_pos h5] at hk
          exact hk
        have : k = 0 ∨ k = 1 ∨ k = 2 := by omega
        rcases this with rfl | rfl | rfl
        · have : x = y := by omega
          subst this
          exact ih
        · intro ht
          rw [show (x : Int) = u.at' + 1 by omega] at ht
          omega
        · intro ht
          rw [show (x : Int) = u.at' + 2 by omega] at ht
          omega
      · have ht : u.old.t = 1 ∨ u.old.t = 2 ∨ u.old.t = 3 := by
          by_cases h3 : u.old.t = 3
          · exact .inr (.inr h3)
          · unfold cntS at hk
            rw [if_neg h0, if_neg h3, if_neg h5] at hk
            omega
        exact key _ x hgc hcl (old_vc hold ht) hx
end
end Go.Proofs.Ytmebmpgffhajbaa


namespace Go.Proofs.Ytmebmpgffhajbaa
open Go.RowKit
set_option linter.unusedVariables false
set_option linter.unusedSimpArgs false

section
variable {s : So} {r : Ro}
theorem grp_col {f : Nat → Bool} {a : Nat} (hg : groupS s (a : Nat) = true) (h0 : f a = true) (h1 : f (a + 1) = true) (h2 : f (a + 2) = true) : groupS (colS f s) (bef f a : Nat) = true := by
  obtain ⟨g1, g2, g3, g4, g5, g6⟩ := grp hg
  have e1 : ((bef f a : Nat) : Int) + 1 = (bef f (a + 1) : Nat) := by rw [bef_one h0]; omega
  have e2 : ((bef f a : Nat) : Int) + 2 = (bef f (a + 2) : Nat) := by rw [show a + 2 = (a + 1) + 1 from rfl, bef_one h1, bef_one h0]; omega
  have c1 : ((a : Nat) : Int) + 1 = ((a + 1 : Nat) : Int) := by omega
  have c2 : ((a : Nat) : Int) + 2 = ((a + 2 : Nat) : Int) := by omega
  rw [c1] at g1 g2 g3
  rw [c2] at g4 g5 g6
  have i1 := inS_iff.1 (tag_in g1)
  have i2 := inS_iff.1 (tag_nn g4)
  have t1 := col_tag (s := s) h1 (by omega)
  have t2 := col_tag (s := s) h2 (by omega)
  have k1 := col_cell (s := s) h1 (by omega)
  have hk : (cellAt s ((a + 1 : Nat) : Int)).t = 1 := by rw [← tagS_in (tag_in g1)]; exact g1
  rw [mvC_k (by omega)] at k1
  unfold groupS
  rw [e1, e2, t1, t2, k1, g1]
  simp only [decide_true, Bool.true_and, Bool.and_eq_true, decide_eq_true_eq, Bool.not_eq_true', decide_eq_false_iff_not]
  exact ⟨g2, g3, g4, g5, g6⟩
theorem kept_mono (f : Nat → Bool) (s : So) {a b : Nat} (h : a ≤ b) : keptF f s a ≤ keptF f s b := by
  unfold keptF
  have : s.tr.take a = (s.tr.take b).take a := by rw [List.take_take, Nat.min_eq_left h]
  rw [this]
  exact ((List.take_sublist _ _).filter _).length_le
end

end Go.Proofs.Ytmebmpgffhajbaa


namespace Go.Proofs.Ytmebmpgffhajbaa
open Go.RowKit
set_option linter.unusedVariables false
set_option linter.unusedSimpArgs false

def encL : Nat → List Int → List D
  | _, [] => []
  | i, v :: l => .a [.i v, .i (i : Nat)] :: encL (i + 1) l
def encM (vs : List Int) : D := .mp (encL 0 vs)
def decM (d : D) : List Int := d.ms.map fun p => (p.fld 0).int
theorem decL : ∀ (i : Nat) (l : List Int), (encL i l).map (fun p => (p.fld 0).int) = l
  | _, [] => rfl
  | i, v :: l => by rw [encL, List.map_cons, decL (i + 1) l]; rfl
theorem decM_encM (vs : List Int) : decM (encM vs) = vs := decL 0 vs
theorem encL_len : ∀ (i : Nat) (l : List Int), (encL i l).length = l.length
  | _, [] => rfl
  | i, v :: l => by rw [encL, List.length_cons, encL_len (i + 1) l]; rfl
theorem mfind_enc : ∀ (i : Nat) (l : List Int) (x : Int), mfind (.i x) (encL i l) = if x ∈ l then some (.i (i + posL l x)) else none
  | _, [], x => by simp [encL, mfind]
  | i, v :: l, x => by
    rw [encL, mfind]
    have e : (D.a [.i v, .i (i : Nat)]).fld 0 = .i v := rfl
    have e1 : (D.a [.i v, .i (i : Nat)]).fld 1 = .i (i : Nat) := rfl
    rw [e, e1]
    by_cases h : v = x
    · subst h
      rw [if_pos rfl, if_pos List.mem_cons_self]
      unfold posL
      rw [if_pos rfl, Int.add_zero]
    · rw [if_neg (by simpa using h), mfind_enc (i + 1) l x]
      by_cases hx : x ∈ l
      · have := (posL_mem hx).1
        rw [if_pos hx, if_pos (List.mem_cons_of_mem _ hx)]
        have e2 : posL (v :: l) x = posL l x + 1 := by
          conv => lhs; unfold posL
          rw [if_neg h, if_neg (by omega)]
        rw [e2]
        congr 2
        push_cast
        omega
      · rw [if_neg hx, if_neg fun q => by
          rcases List.mem_cons.1 q with q | q
          · exact h q.symm
          · exact hx q]
theorem mset_enc : ∀ (i : Nat) (l : List Int) (x : Int), x ∉ l → mset (.i x) (.i ((i + l.length : Nat) : Int)) (encL i l) = encL i (l ++ [x])
  | i, [], x, _ => rfl
  | i, v :: l, x, h => by
    rw [encL, mset]
    have e : (D.a [.i v, .i (i : Nat)]).fld 0 = .i v := rfl
    have hv : v ≠ x := fun e => h (by rw [e]; exact List.mem_cons_self)
    rw [e, if_neg (by simpa using hv), List.cons_append, encL, List.length_cons, show i + (l.length + 1) = (i + 1) + l.length by omega, mset_enc (i + 1) l x fun q => h (List.mem_cons_of_mem _ q)]
theorem mhas_enc (vs : List Int) (x : Int) : fnD 1 [encM vs, .i x] = .b (decide (x ∈ vs)) := by
  show D.b (mfind (.i x) (encL 0 vs)).isSome = _
  rw [mfind_enc]
  by_cases h : x ∈ vs <;> simp [h]
theorem mget_enc {vs : List Int} {x : Int} (h : x ∈ vs) : fnD 0 [encM vs, .i x, .i 0] = .i (posL vs x) := by
  show (mfind (.i x) (encL 0 vs)).getD (.i 0) = _
  rw [mfind_enc, if_pos h]
  simp
theorem mput_enc {vs : List Int} {x : Int} (h : x ∉ vs) : fnD 2 [encM vs, .i x, .i (vs.length : Nat)] = encM (vs ++ [x]) := by
  show D.mp (mset (.i x) (.i (vs.length : Nat)) (encL 0 vs)) = _
  have := mset_enc 0 vs x h
  rw [Nat.zero_add] at this
  rw [this]
  rfl
theorem mlen_enc (vs : List Int) : fnD 3 [encM vs] = .i (vs.length : Nat) := by
  show D.i ((encL 0 vs).length : Nat) = _
  rw [encL_len]
def okM (m : D) (n : Nat) : Bool := decide (m = encM (decM m)) && decide ((decM m).length + n ≤ 1000000)
theorem numT_pre {vs W : List Int} {t : Te} {m : List Int} (h : W = varsT vs t ++ m) : numT (varsT vs t) t = numT W t :=
  mapV_congr (V := varsT vs t) (fun x hx => by rw [h, posL_app hx]) t (varsT_in t vs)

def gCa1 : List D → Option (List D)
  | [t, m] => if okM m 1 then some (if (dT t).n ∈ decM m then [eT (.mk 0 (posL (decM m) (dT t).n) ⟨#[]⟩ []), m] else [eT (.mk 0 ((decM m).length : Nat) ⟨#[]⟩ []), encM (decM m ++ [(dT t).n])]) else none
  | _ => none
theorem ok_term_Canon_1 : FOk q0t gCa1 := fok_term_Canon_1 fun ds outs hw hg => by
  obtain ⟨d, r, rfl, hd, e, r', rfl, he, rfl⟩ := hw
  obtain ⟨t, rfl, ht⟩ := wfT hd
  simp only [gCa1, dT_eT, Option.ite_none_right_eq_some, Option.some.injEq, okM, Bool.and_eq_true, decide_eq_true_eq] at hg
  obtain ⟨⟨hm, hlen⟩, rfl⟩ := hg
  generalize decM e = vs at *
  subst hm
  rw [q2k, go_br]
  refine ⟨fun hh => ?_, fun hh => ?_⟩
  · simp only [q00, go_br, q01, q02, allSay, X.says, X.ev, X.evs, evl, tblS, List.getD_cons_zero, List.getD_cons_succ, List.getElem?_cons_zero, List.getElem?_cons_succ, tt_b, int_i, str_s, rs_r, Option.isSome_some, Option.getD_some, decide_eq_true_eq, decide_eq_false_iff_not, gnE, List.length_map, gnF, gnL, decide_true, decide_false, Bool.or_true, true_and, and_true, dT_eT, eT_0, eT_1, eT_2, eT_3, eT_eq, eT_z, mhas_enc, decide_eq_true_eq, Bool.not_eq_true', decide_eq_false_iff_not] at hh
    rw [q00]
    refine ⟨by simp only [q00, go_br, q01, q02, allSay, X.says, X.ev, X.evs, evl, tblS, List.getD_cons_zero, List.getD_cons_succ, List.getElem?_cons_zero, List.getElem?_cons_succ, tt_b, int_i, str_s, rs_r, Option.isSome_some, Option.getD_some, decide_eq_true_eq, decide_eq_false_iff_not, gnE, List.length_map, gnF, gnL, decide_true, decide_false, Bool.or_true, true_and, and_true, dT_eT, eT_0, eT_1, eT_2, eT_3, eT_eq, eT_z, mlen_enc]; omega, ?_⟩
    rw [if_neg hh]
    simp only [q00, go_br, q01, q02, allSay, X.says, X.ev, X.evs, evl, tblS, List.getD_cons_zero, List.getD_cons_succ, List.getElem?_cons_zero, List.getElem?_cons_succ, tt_b, int_i, str_s, rs_r, Option.isSome_some, Option.getD_some, decide_eq_true_eq, decide_eq_false_iff_not, gnE, List.length_map, gnF, gnL, decide_true, decide_false, Bool.or_true, true_and, and_true, dT_eT, eT_0, eT_1, eT_2, eT_3, eT_eq, eT_z, mlen_enc, mput_enc hh, eT_mk]
    rfl
  · simp only [q00, go_br, q01, q02, allSay, X.says, X.ev, X.evs, evl, tblS, List.getD_cons_zero, List.getD_cons_succ, List.getElem?_cons_zero, List.getElem?_cons_succ, tt_b, int_i, str_s, rs_r, Option.isSome_some, Option.getD_some, decide_eq_true_eq, decide_eq_false_iff_not, gnE, List.length_map, gnF, gnL, decide_true, decide_false, Bool.or_true, true_and, and_true, dT_eT, eT_0, eT_1, eT_2, eT_3, eT_eq, eT_z, mhas_enc, decide_eq_true_eq, Bool.not_eq_false'] at hh
    rw [if_pos hh]
    simp only [q00, go_br, q01, q02, allSay, X.says, X.ev, X.evs, evl, tblS, List.getD_cons_zero, List.getD_cons_succ, List.getElem?_cons_zero, List.getElem?_cons_succ, tt_b, int_i, str_s, rs_r, Option.isSome_some, Option.getD_some, decide_eq_true_eq, decide_eq_false_iff_not, gnE, List.length_map, gnF, gnL, decide_true, decide_false, Bool.or_true, true_and, and_true, dT_eT, eT_0, eT_1, eT_2, eT_3, eT_eq, eT_z, mget_enc hh, eT_mk]
    rfl
theorem node_var {t : Te} (h : nodesT t = true) (hk : t.k = 0) : t = .mk 0 t.n ⟨#[]⟩ [] := by
  cases t with
  | mk k n s l =>
    have hk : k = 0 := hk
    subst hk
    rw [nodesT] at h
    simp only [nodeT, Te.k, Te.n, Te.s, Te.l, Bool.and_eq_true, if_true, decide_eq_true_eq] at h
    have h1 : s = ⟨#[]⟩ := of_decide_eq_true h.1.2.2.1
    have h2 : l = [] := List.length_eq_zero_iff.1 (by have := of_decide_eq_true h.1.2.2.2; omega)
    rw [h1, h2]
    rfl
theorem numT_var {t : Te} (h : nodesT t = true) (hk : t.k = 0) (W : List Int) : numT W t = .mk 0 (posL W t.n) ⟨#[]⟩ [] := by
  have hv := node_var h hk
  have hs : t.s = ⟨#[]⟩ := by rw [hv]; rfl
  have hl : t.l = [] := by rw [hv]; rfl
  rw [numT, mapV_t, if_pos hk, hk, hs, hl]
  rfl
theorem varsT_var {t : Te} (h : nodesT t = true) (hk : t.k = 0) (vs : List Int) : varsT vs t = if t.n ∉ vs then vs ++ [t.n] else vs := by
  have hl : t.l = [] := by rw [node_var h hk]; rfl
  rw [varsT_t, hl, varsTs]
  by_cases hn : t.n ∈ vs
  · rw [if_neg fun q => q.2 hn, if_neg (fun q => q hn)]
  · rw [if_pos ⟨hk, hn⟩, if_pos hn]
theorem node_arg {t : Te} (h : nodesT t = true) {k : Nat} (hk : k < t.l.length) : nodesT (t.l.getD k default) = true := by
  rw [nodesT_all, Bool.and_eq_true, List.all_eq_true] at h
  exact h.2 k (List.mem_range.2 hk)
def gApC : List D → Option (List D)
  | [t, m] => if okM m (szT (dT t)) && nodesT (dT t) then some [eT (numT (varsT (decM m) (dT t)) (dT t)), encM (varsT (decM m) (dT t))] else none
  | _ => none
theorem ok_term_apply_c : FOk q0u gApC := fok_cut (m := mT) q3w fun N ih => fok_term_apply_c ok_term_Canon_1 ih fun ds outs hw hg => by
  obtain ⟨d, r, rfl, hd, e, r', rfl, he, rfl⟩ := hw
  obtain ⟨t, rfl, ht⟩ := wfT hd
  simp only [cutM, mT, gApC, List.getD_cons_zero, dT_eT, Option.ite_none_right_eq_some, Option.some.injEq, okM, Bool.and_eq_true, decide_eq_true_eq] at hg
  obtain ⟨hsz, ⟨⟨hm, hlen⟩, hnod⟩, rfl⟩ := hg
  generalize decM e = vs at *
  subst hm
  have hl := ht.l
  have hs := szT_l t
  rw [q2m, go_br]
  refine ⟨fun h => ?_, fun h => ?_⟩
  · simp only [q00, go_br, q01, q02, allSay, X.says, X.ev, X.evs, evl, tblS, List.getD_cons_zero, List.getD_cons_succ, List.getElem?_cons_zero, List.getElem?_cons_succ, tt_b, int_i, str_s, rs_r, Option.isSome_some, Option.getD_some, decide_eq_true_eq, decide_eq_false_iff_not, gnE, List.length_map, gnF, gnL, decide_true, decide_false, Bool.or_true, true_and, and_true, dT_eT, eT_0, eT_1, eT_2, eT_3, eT_eq, eT_z] at h
    have hv := node_var hnod h
    have hok : okM (encM vs) 1 = true := by
      rw [okM, decM_encM, Bool.and_eq_true]
      exact ⟨decide_eq_true rfl, decide_eq_true (by omega)⟩
    have hq : gCa1 [eT t, encM vs] = some (if t.n ∈ vs then [eT (.mk 0 (posL vs t.n) ⟨#[]⟩ []), encM vs] else [eT (.mk 0 (vs.length : Nat) ⟨#[]⟩ []), encM (vs ++ [t.n])]) := by
      simp only [gCa1, dT_eT, decM_encM, hok, if_true]
    by_cases hin : t.n ∈ vs
    · rw [if_pos hin] at hq
      have e1 : varsT vs t = vs := by rw [varsT_var hnod h, if_neg fun q => q hin]
      have e2 : numT (varsT vs t) t = .mk 0 (posL vs t.n) ⟨#[]⟩ [] := by rw [e1, numT_var hnod h]
      rw [e2, e1]
      simp only [q00, go_br, q01, q02, allSay, X.says, X.ev, X.evs, evl, tblS, List.getD_cons_zero, List.getD_cons_succ, List.getElem?_cons_zero, List.getElem?_cons_succ, tt_b, int_i, str_s, rs_r, Option.isSome_some, Option.getD_some, decide_eq_true_eq, decide_eq_false_iff_not, gnE, List.length_map, gnF, gnL, decide_true, decide_false, Bool.or_true, true_and, and_true, dT_eT, eT_0, eT_1, eT_2, eT_3, eT_eq, eT_z, hq]
    · rw [if_neg hin] at hq
      have e1 : varsT vs t = vs ++ [t.n] := by rw [varsT_var hnod h, if_pos hin]
      have e2 : numT (varsT vs t) t = .mk 0 (vs.length : Nat) ⟨#[]⟩ [] := by rw [e1, numT_var hnod h, posL_snoc hin]
      rw [e2, e1]
      simp only [q00, go_br, q01, q02, allSay, X.says, X.ev, X.evs, evl, tblS, List.getD_cons_zero, List.getD_cons_succ, List.getElem?_cons_zero, List.getElem?_cons_succ, tt_b, int_i, str_s, rs_r, Option.isSome_some, Option.getD_some, decide_eq_true_eq, decide_eq_false_iff_not, gnE, List.length_map, gnF, gnL, decide_true, decide_false, Bool.or_true, true_and, and_true, dT_eT, eT_0, eT_1, eT_2, eT_3, eT_eq, eT_z, hq]
  · simp only [q00, go_br, q01, q02, allSay, X.says, X.ev, X.evs, evl, tblS, List.getD_cons_zero, List.getD_cons_succ, List.getElem?_cons_zero, List.getElem?_cons_succ, tt_b, int_i, str_s, rs_r, Option.isSome_some, Option.getD_some, decide_eq_true_eq, decide_eq_false_iff_not, gnE, List.length_map, gnF, gnL, decide_true, decide_false, Bool.or_true, true_and, and_true, dT_eT, eT_0, eT_1, eT_2, eT_3, eT_eq, eT_z] at h
    have hV2 : varsTs vs t.l = varsT vs t := by rw [varsT_t, if_neg fun q => h q.1]
    rw [q17]
    refine ⟨fun st => ∃ k : Nat, k ≤ t.l.length ∧ st = [.i k, eT (.mk t.k t.n t.s ((t.l.take k).map (numT (varsT vs t)))), encM (varsTs vs (t.l.take k))], fun st => t.l.length - (st.getD 0 .u).int.toNat, ⟨0, Nat.zero_le _, by simp only [X.evs, X.ev, evl, List.getD_cons_zero, List.getD_cons_succ, eT_0, eT_1, eT_2, eT_mk]; rfl⟩, ?_⟩
    rintro st - ⟨k, hk, rfl⟩
    rw [go_br]
    refine ⟨fun hlt => ?_, fun hlt => ?_⟩
    · simp only [q00, go_br, q01, q02, allSay, X.says, X.ev, X.evs, evl, tblS, List.getD_cons_zero, List.getD_cons_succ, List.getElem?_cons_zero, List.getElem?_cons_succ, tt_b, int_i, str_s, rs_r, Option.isSome_some, Option.getD_some, decide_eq_true_eq, decide_eq_false_iff_not, gnE, List.length_map, gnF, gnL, decide_true, decide_false, Bool.or_true, true_and, and_true, dT_eT, eT_0, eT_1, eT_2, eT_3, eT_eq, eT_z] at hlt
      have hkl' : k < t.l.length := by omega
      have ha := arg_sz hkl'
      have h1 := varsTs_len (t.l.take k) vs
      have h2 := sz_take hkl'
      have hok : okM (encM (varsTs vs (t.l.take k))) (szT (t.l.getD k default)) = true := by
        rw [okM, decM_encM, Bool.and_eq_true]
        exact ⟨decide_eq_true rfl, decide_eq_true (by omega)⟩
      have hW : ∃ m, varsT vs t = varsT (varsTs vs (t.l.take k)) (t.l.getD k default) ++ m := by
        rw [← hV2, ← varsTs_snoc hkl']
        have e : t.l = t.l.take (k + 1) ++ t.l.drop (k + 1) := (List.take_append_drop _ _).symm
        obtain ⟨m, hm⟩ := varsTs_pre (t.l.drop (k + 1)) (varsTs vs (t.l.take (k + 1)))
        refine ⟨m, ?_⟩
        conv => lhs; rw [e, varsTs_app]
        exact hm
      obtain ⟨m, hm⟩ := hW
      have hno := node_arg hnod hkl'
      simp only [q00, go_br, q01, q02, allSay, X.says, X.ev, X.evs, evl, tblS, List.getD_cons_zero, List.getD_cons_succ, List.getElem?_cons_zero, List.getElem?_cons_succ, tt_b, int_i, str_s, rs_r, Option.isSome_some, Option.getD_some, decide_eq_true_eq, decide_eq_false_iff_not, gnE, List.length_map, gnF, gnL, decide_true, decide_false, Bool.or_true, true_and, and_true, dT_eT, eT_0, eT_1, eT_2, eT_3, eT_eq, eT_z, get_t hkl', cutM, mT, gApC, decM_encM, hok, hno, Bool.and_self, if_true, if_pos (show szT (t.l.getD k default) < N by omega), Te_l, List.length_take]
      refine ⟨⟨by omega, by omega⟩, by omega, ⟨by omega, by omega⟩, ?_⟩
      rw [updB, if_pos rfl]
      refine ⟨⟨k + 1, by omega, ?_⟩, ?_⟩
      · rw [take_snoc hkl', varsTs_app, List.map_append, eT_snoc, numT_pre hm]
        rfl
      · simp [D.int]
        omega
    · simp only [q00, go_br, q01, q02, allSay, X.says, X.ev, X.evs, evl, tblS, List.getD_cons_zero, List.getD_cons_succ, List.getElem?_cons_zero, List.getElem?_cons_succ, tt_b, int_i, str_s, rs_r, Option.isSome_some, Option.getD_some, decide_eq_true_eq, decide_eq_false_iff_not, gnE, List.length_map, gnF, gnL, decide_true, decide_false, Bool.or_true, true_and, and_true, dT_eT, eT_0, eT_1, eT_2, eT_3, eT_eq, eT_z] at hlt ⊢
      have : k = t.l.length := by omega
      subst this
      rw [List.take_length, hV2, numT, mapV_t, if_neg h]
def canT (t : Te) : Te := if validT t then numT (varsT [] t) t else zT
theorem ok_term_Canon : FOk q1q (gTT canT) := fok_term_Canon ok_term_Canon_1 q2w ok_term_apply_c fun ds outs hw hg => by
  obtain ⟨d, r, rfl, hd, rfl⟩ := hw
  obtain ⟨t, rfl, ht⟩ := wfT hd
  simp only [gTT, dT_eT, Option.some.injEq] at hg
  subst hg
  cases hv : validT t with
  | false => simp [q2d, q00, go_br, q01, q02, allSay, X.says, X.ev, X.evs, evl, tblS, List.getD_cons_zero, List.getD_cons_succ, List.getElem?_cons_zero, List.getElem?_cons_succ, tt_b, int_i, str_s, rs_r, Option.isSome_some, Option.getD_some, decide_eq_true_eq, decide_eq_false_iff_not, gnE, List.length_map, gnF, gnL, decide_true, decide_false, Bool.or_true, true_and, and_true, dT_eT, eT_0, eT_1, eT_2, eT_3, eT_eq, eT_z, gTb, dT_eT, hv, canT, D.tt, eT_z]
  | true =>
    have hv' := hv
    simp only [validT, Bool.and_eq_true, decide_eq_true_eq] at hv'
    have hq : gApC [eT t, .mp []] = some [eT (numT (varsT [] t) t), encM (varsT [] t)] := by
      have : okM (.mp []) (szT t) = true := by
        rw [okM, Bool.and_eq_true]
        exact ⟨decide_eq_true rfl, decide_eq_true (by show ([] : List Int).length + _ ≤ _; simp; omega)⟩
      simp only [gApC, dT_eT, this, hv'.2, Bool.and_self, if_true]
      rfl
    simp [q2d, q00, go_br, q01, q02, allSay, X.says, X.ev, X.evs, evl, tblS, List.getD_cons_zero, List.getD_cons_succ, List.getElem?_cons_zero, List.getElem?_cons_succ, tt_b, int_i, str_s, rs_r, Option.isSome_some, Option.getD_some, decide_eq_true_eq, decide_eq_false_iff_not, gnE, List.length_map, gnF, gnL, decide_true, decide_false, Bool.or_true, true_and, and_true, dT_eT, eT_0, eT_1, eT_2, eT_3, eT_eq, eT_z, gTb, dT_eT, hv, canT, D.tt, hq]
def varT (t u : Te) : Bool := validT t && validT u && idT (canT t) (canT u)
theorem ok_term_Variant : FOk q1a (gTTb varT) := fok_term_Variant q2w ok_term_Canon ok_term_identical fun ds outs hw hg => by
  obtain ⟨d, r, rfl, hd, e, r', rfl, he, rfl⟩ := hw
  obtain ⟨t, rfl, ht⟩ := wfT hd
  obtain ⟨u, rfl, hu⟩ := wfT he
  simp only [gTTb, dT_eT, Option.some.injEq] at hg
  subst hg
  simp [q2p, q00, go_br, q01, q02, allSay, X.says, X.ev, X.evs, evl, tblS, List.getD_cons_zero, List.getD_cons_succ, List.getElem?_cons_zero, List.getElem?_cons_succ, tt_b, int_i, str_s, rs_r, Option.isSome_some, Option.getD_some, decide_eq_true_eq, decide_eq_false_iff_not, gnE, List.length_map, gnF, gnL, decide_true, decide_false, Bool.or_true, true_and, and_true, dT_eT, eT_0, eT_1, eT_2, eT_3, eT_eq, eT_z, gTb, gTT, gTTb, dT_eT, varT, D.tt]
end Go.Proofs.Ytmebmpgffhajbaa


namespace Go.Proofs.Ytmebmpgffhajbaa
open Go.RowKit
set_option linter.unusedVariables false
set_option linter.unusedSimpArgs false

mutual
theorem vars_sub {V : List Int} : ∀ (t : Te) (vs : List Int), inV V t → (∀ x ∈ vs, x ∈ V) → ∀ x ∈ varsT vs t, x ∈ V
  | .mk k n s l, vs, h, hv => by
    rw [varsT]
    refine varss_sub l _ h.2 fun x hx => ?_
    split at hx
    · rename_i hc
      rcases List.mem_append.1 hx with hx | hx
      · exact hv x hx
      · rw [List.mem_singleton.1 hx]
        exact h.1 hc.1
    · exact hv x hx
theorem varss_sub {V : List Int} : ∀ (l : List Te) (vs : List Int), inVs V l → (∀ x ∈ vs, x ∈ V) → ∀ x ∈ varsTs vs l, x ∈ V
  | [], vs, _, hv => hv
  | t :: l, vs, h, hv => by
    rw [varsTs]
    exact varss_sub l _ h.2 (vars_sub t vs h.1 hv)
end
theorem var_map {V : List Int} {g : Int → Int} {t : Te} (hv : validT t = true) (hi : inV V t) (hg : ∀ x ∈ V, ∀ y ∈ V, g x = g y → x = y) (hr : ∀ x ∈ V, 0 ≤ g x ∧ g x ≤ 1099511627776) : varT t (mapV g t) = true := by
  have hv2 := validT_map hr hi hv
  have hs : ∀ x ∈ varsT [] t, x ∈ V := vars_sub t [] hi fun x hx => by cases hx
  have h1 := varsT_map t [] (f := g) fun x hx y hy => hg x (hs x hx) y (hs y hy)
  rw [List.map_nil] at h1
  have h2 : numT (varsT [] (mapV g t)) (mapV g t) = numT (varsT [] t) t := by
    rw [h1, numT, mapV_comp]
    exact mapV_congr (V := varsT [] t) (fun x hx => posL_map hx fun y hy e => hg y (hs y hy) x (hs x hx) e) t (varsT_in t [])
  simp only [varT, canT, hv, hv2, if_true, h2, (idT_iff _ _).2 rfl, Bool.and_self]

section
variable {s : So} {r : Ro}
def rnV (f : Nat → Bool) (n : Int) : Int := (bef f n.toNat : Nat)
def mkV (f : Nat → Bool) (n : Nat) : List Int := (idxF f n).map Int.ofNat
theorem mkV_mem {f : Nat → Bool} {n : Nat} {x : Int} : x ∈ mkV f n ↔ 0 ≤ x ∧ x.toNat < n ∧ f x.toNat = true := by
  unfold mkV idxF
  rw [List.mem_map]
  constructor
  · rintro ⟨i, hi, rfl⟩
    obtain ⟨h1, h2⟩ := List.mem_filter.1 hi
    exact ⟨Int.natCast_nonneg i, List.mem_range.1 h1, h2⟩
  · rintro ⟨h1, h2, h3⟩
    exact ⟨x.toNat, List.mem_filter.2 ⟨List.mem_range.2 h2, h3⟩, by show ((x.toNat : Nat) : Int) = x; omega⟩
theorem rnV_inj {f : Nat → Bool} {n : Nat} : ∀ x ∈ mkV f n, ∀ y ∈ mkV f n, rnV f x = rnV f y → x = y := fun x hx y hy h => by
  obtain ⟨a1, a2, a3⟩ := mkV_mem.1 hx
  obtain ⟨b1, b2, b3⟩ := mkV_mem.1 hy
  unfold rnV at h
  have := bef_inj a3 b3 (by omega)
  omega
theorem rnV_rng {f : Nat → Bool} {n : Nat} (hn : n ≤ 1048576) : ∀ x ∈ mkV f n, 0 ≤ rnV f x ∧ rnV f x ≤ 1099511627776 := fun x hx => by
  obtain ⟨a1, a2, a3⟩ := mkV_mem.1 hx
  have := bef_le f x.toNat
  unfold rnV
  omega

structure Good (s : So) (r : Ro) (c : Ce) : Prop where
  vc : vcR s c = true
  cl : Clo s r c
theorem Good.g (hv : validR s = true) {c : Ce} (h : Good s r c) : Gce s c := gce_vc hv h.vc
theorem Good.mk0 {c : Ce} (h : Good s r c) (hv : validR s = true) (ht : c.t = 0 ∨ c.t = 3 ∨ c.t = 5) : 0 ≤ c.n ∧ c.n.toNat < s.cs.length ∧ Mk s r c.n.toNat = true := by
  obtain ⟨h1, h2⟩ := (h.g hv).b ht
  have hp := cnt_pos (s := s) ht
  have hm := h.cl.at hp
  rw [Nat.add_zero] at hm
  exact ⟨h1, by omega, hm⟩
theorem der_more (hv : validR s = true) {c : Ce} (hc : vcR s c = true) (j : Nat) : derN s (s.cs.length + 1 + j) c = derN s (s.cs.length + 1) c := by
  by_cases ht : c.t = 0
  · have e : c = ⟨0, c.n⟩ := Ce.ext' ht rfl
    rw [e]
    exact der_stable j _ _ (vr_ends hv (vc_ref hc ht).1)
  · rw [derN_t ht, derN_t ht]
end
end Go.Proofs.Ytmebmpgffhajbaa


namespace Go.Proofs.Ytmebmpgffhajbaa
open Go.RowKit
set_option linter.unusedVariables false
set_option linter.unusedSimpArgs false

def liT : List Te → Te → Te
  | [], t => t
  | x :: l, t => .mk 3 0 ⟨#[46]⟩ [x, liT l t]
def dRT (d : D) : List Te := d.rs.map dT
def gLis : List D → Option (List D)
  | [l, t] => if validT (dT t) && (nodesTs (dRT l) && decide (szT (dT t) + szTs (dRT l) + (dRT l).length ≤ 2000)) then some [eT (liT (dRT l) (dT t))] else none
  | _ => none
theorem drop_at {l : List Te} {k : Nat} (h : k < l.length) : l.drop k = l.getD k default :: l.drop (k + 1) := by
  rw [List.drop_eq_getElem_cons h]
  simp [List.getD_eq_getElem?_getD, List.getElem?_eq_getElem h]
theorem ok_term_List : FOk q1t gLis := fok_term_List q2w ok_term_Size ok_term_fits ok_term_Clone fun ds outs hw hg => by
  obtain ⟨d, r, rfl, hd, e, r', rfl, he, rfl⟩ := hw
  obtain ⟨l, rfl, hl, hlo⟩ := wfTs hd
  obtain ⟨t, rfl, ht⟩ := wfT he
  simp only [gLis, dRT, rs_r, map_id' dT_eT, dT_eT, Option.ite_none_right_eq_some, Option.some.injEq, Bool.and_eq_true, decide_eq_true_eq] at hg
  obtain ⟨⟨hvt, hno, hsz⟩, rfl⟩ := hg
  have hlen : l.length ≤ 2000 := by omega
  have hn : ∀ x ∈ l, nodesT x = true := nodesTs_iff.1 hno
  have hvx : ∀ k, k < l.length → validT (l.getD k default) = true := fun k hk => by
    simp only [validT, Bool.and_eq_true, decide_eq_true_eq]
    have := szTs_mem (getD_mem hk)
    exact ⟨by omega, hn _ (getD_mem hk)⟩
  have hszt : min (szT t : Int) 2001 = szT t := by omega
  have q1 : gTb validT [eT t] = some [.b true] := by simp only [gTb, dT_eT, hvt]
  have q2 : gTi (fun t => min (szT t : Int) 2001) [eT t] = some [.i (szT t : Nat)] := by simp only [gTi, dT_eT, hszt]
  have q3 : gTT (fun t => if validT t then t else zT) [eT t] = some [eT t] := by simp only [gTT, dT_eT, hvt, if_true]
  have d1 : decide (2000 < (l.length : Int)) = false := decide_eq_false (by omega)
  rw [q3s, q00]
  refine ⟨by simp only [q00, go_br, q01, q02, allSay, X.says, X.ev, X.evs, evl, tblS, List.getD_cons_zero, List.getD_cons_succ, List.getElem?_cons_zero, List.getElem?_cons_succ, tt_b, int_i, str_s, rs_r, Option.isSome_some, Option.getD_some, decide_eq_true_eq, decide_eq_false_iff_not, gnE, List.length_map, gnF, gnL, decide_true, decide_false, Bool.or_true, true_and, and_true, dT_eT, eT_0, eT_1, eT_2, eT_3, eT_eq, eT_z, q1, d1], ?_⟩
  rw [go_br]
  refine ⟨fun hb => absurd hb (by simp only [q00, go_br, q01, q02, allSay, X.says, X.ev, X.evs, evl, tblS, List.getD_cons_zero, List.getD_cons_succ, List.getElem?_cons_zero, List.getElem?_cons_succ, tt_b, int_i, str_s, rs_r, Option.isSome_some, Option.getD_some, decide_eq_true_eq, decide_eq_false_iff_not, gnE, List.length_map, gnF, gnL, decide_true, decide_false, Bool.or_true, true_and, and_true, dT_eT, eT_0, eT_1, eT_2, eT_3, eT_eq, eT_z, q1, d1]; decide), fun _ => ?_⟩
  rw [q00]
  refine ⟨by simp only [q00, go_br, q01, q02, allSay, X.says, X.ev, X.evs, evl, tblS, List.getD_cons_zero, List.getD_cons_succ, List.getElem?_cons_zero, List.getElem?_cons_succ, tt_b, int_i, str_s, rs_r, Option.isSome_some, Option.getD_some, decide_eq_true_eq, decide_eq_false_iff_not, gnE, List.length_map, gnF, gnL, decide_true, decide_false, Bool.or_true, true_and, and_true, dT_eT, eT_0, eT_1, eT_2, eT_3, eT_eq, eT_z, q2], ?_⟩
  rw [q17]
  refine ⟨fun st => ∃ k : Nat, k ≤ l.length ∧ st = [.i ((szT t + (szTs (l.take k) + k) : Nat) : Int), .i k, eT zT], fun st => l.length - (st.getD 1 .u).int.toNat, ⟨0, Nat.zero_le _, by simp [X.evs, X.ev, evl, tblS, q2, szTs]; rfl⟩, ?_⟩
  rintro st - ⟨k, hk, rfl⟩
  rw [go_br]
  refine ⟨fun hlt => ?_, fun hlt => ?_⟩
  · have hkl : k < l.length := by
      simp only [q00, go_br, q01, q02, allSay, X.says, X.ev, X.evs, evl, tblS, List.getD_cons_zero, List.getD_cons_succ, List.getElem?_cons_zero, List.getElem?_cons_succ, tt_b, int_i, str_s, rs_r, Option.isSome_some, Option.getD_some, decide_eq_true_eq, decide_eq_false_iff_not, gnE, List.length_map, gnF, gnL, decide_true, decide_false, Bool.or_true, true_and, and_true, dT_eT, eT_0, eT_1, eT_2, eT_3, eT_eq, eT_z] at hlt
      omega
    have h1 := szTs_snoc hkl
    have h2 := sz_take hkl
    have p2 : gTi (fun t => min (szT t : Int) 2001) [eT (l.getD k default)] = some [.i (szT (l.getD k default) : Nat)] := by
      simp only [gTi, dT_eT]
      rw [show min (szT (l.getD k default) : Int) 2001 = szT (l.getD k default) by omega]
    have p4 : gTb nodesT [eT (l.getD k default)] = some [.b true] := by simp only [gTb, dT_eT, hn _ (getD_mem hkl)]
    have d2 : decide (2000 < (((szT t + (szTs (l.take k) + k) : Nat) : Int) + (1 + ((szT (l.getD k default) : Nat) : Int)))) = false := decide_eq_false (by omega)
    rw [q00]
    have hi : (0 : Int) ≤ k ∧ (k : Int) < l.length := ⟨by omega, by omega⟩
    refine ⟨by simp only [q00, go_br, q01, q02, allSay, X.says, X.ev, X.evs, evl, tblS, List.getD_cons_zero, List.getD_cons_succ, List.getElem?_cons_zero, List.getElem?_cons_succ, tt_b, int_i, str_s, rs_r, Option.isSome_some, Option.getD_some, decide_eq_true_eq, decide_eq_false_iff_not, gnE, List.length_map, gnF, gnL, decide_true, decide_false, Bool.or_true, true_and, and_true, dT_eT, eT_0, eT_1, eT_2, eT_3, eT_eq, eT_z, get_t hkl, p2, p4, d2, hi.1, hi.2] <;> (and_intros <;> first | omega | rfl), ?_⟩
    repeat' (rw [q00]; refine ⟨by simp only [q00, go_br, q01, q02, allSay, X.says, X.ev, X.evs, evl, tblS, List.getD_cons_zero, List.getD_cons_succ, List.getElem?_cons_zero, List.getElem?_cons_succ, tt_b, int_i, str_s, rs_r, Option.isSome_some, Option.getD_some, decide_eq_true_eq, decide_eq_false_iff_not, gnE, List.length_map, gnF, gnL, decide_true, decide_false, Bool.or_true, true_and, and_true, dT_eT, eT_0, eT_1, eT_2, eT_3, eT_eq, eT_z, get_t hkl, p2, p4, d2, hi.1, hi.2] <;> (and_intros <;> first | omega | rfl), ?_⟩)
    rw [go_br]
    refine ⟨fun hb => absurd hb (by simp only [q00, go_br, q01, q02, allSay, X.says, X.ev, X.evs, evl, tblS, List.getD_cons_zero, List.getD_cons_succ, List.getElem?_cons_zero, List.getElem?_cons_succ, tt_b, int_i, str_s, rs_r, Option.isSome_some, Option.getD_some, decide_eq_true_eq, decide_eq_false_iff_not, gnE, List.length_map, gnF, gnL, decide_true, decide_false, Bool.or_true, true_and, and_true, dT_eT, eT_0, eT_1, eT_2, eT_3, eT_eq, eT_z, get_t hkl, p2, p4, d2]; decide), fun _ => ?_⟩
    simp only [q00, go_br, q01, q02, allSay, X.says, X.ev, X.evs, evl, tblS, List.getD_cons_zero, List.getD_cons_succ, List.getElem?_cons_zero, List.getElem?_cons_succ, tt_b, int_i, str_s, rs_r, Option.isSome_some, Option.getD_some, decide_eq_true_eq, decide_eq_false_iff_not, gnE, List.length_map, gnF, gnL, decide_true, decide_false, Bool.or_true, true_and, and_true, dT_eT, eT_0, eT_1, eT_2, eT_3, eT_eq, eT_z, get_t hkl, p2]
    refine ⟨⟨by omega, by omega⟩, ?_⟩
    rw [updB, if_pos rfl]
    refine ⟨⟨k + 1, by omega, ?_⟩, by simp [D.int]; omega⟩
    rw [h1]
    congr 2
    push_cast
    omega
  · have hkl : k = l.length := by
      simp only [q00, go_br, q01, q02, allSay, X.says, X.ev, X.evs, evl, tblS, List.getD_cons_zero, List.getD_cons_succ, List.getElem?_cons_zero, List.getElem?_cons_succ, tt_b, int_i, str_s, rs_r, Option.isSome_some, Option.getD_some, decide_eq_true_eq, decide_eq_false_iff_not, gnE, List.length_map, gnF, gnL, decide_true, decide_false, Bool.or_true, true_and, and_true, dT_eT, eT_0, eT_1, eT_2, eT_3, eT_eq, eT_z] at hlt
      omega
    subst hkl
    rw [q00]
    refine ⟨by simp only [q00, go_br, q01, q02, allSay, X.says, X.ev, X.evs, evl, tblS, List.getD_cons_zero, List.getD_cons_succ, List.getElem?_cons_zero, List.getElem?_cons_succ, tt_b, int_i, str_s, rs_r, Option.isSome_some, Option.getD_some, decide_eq_true_eq, decide_eq_false_iff_not, gnE, List.length_map, gnF, gnL, decide_true, decide_false, Bool.or_true, true_and, and_true, dT_eT, eT_0, eT_1, eT_2, eT_3, eT_eq, eT_z, q3], ?_⟩
    rw [q00]
    refine ⟨by simp only [q00, go_br, q01, q02, allSay, X.says, X.ev, X.evs, evl, tblS, List.getD_cons_zero, List.getD_cons_succ, List.getElem?_cons_zero, List.getElem?_cons_succ, tt_b, int_i, str_s, rs_r, Option.isSome_some, Option.getD_some, decide_eq_true_eq, decide_eq_false_iff_not, gnE, List.length_map, gnF, gnL, decide_true, decide_false, Bool.or_true, true_and, and_true, dT_eT, eT_0, eT_1, eT_2, eT_3, eT_eq, eT_z]; omega, ?_⟩
    rw [q17]
    refine ⟨fun st => ∃ m : Nat, m ≤ l.length ∧ st = [.i ((m : Int) - 1), eT (liT (l.drop m) t)], fun st => ((st.getD 0 .u).int + 1).toNat, ⟨l.length, Nat.le_refl _, by simp [X.evs, X.ev, evl, tblS, q3, liT, int_i, rs_r]⟩, ?_⟩
    rintro st - ⟨m, hm, rfl⟩
    rw [go_br]
    refine ⟨fun hlt => ?_, fun hlt => ?_⟩
    · simp only [q00, go_br, q01, q02, allSay, X.says, X.ev, X.evs, evl, tblS, List.getD_cons_zero, List.getD_cons_succ, List.getElem?_cons_zero, List.getElem?_cons_succ, tt_b, int_i, str_s, rs_r, Option.isSome_some, Option.getD_some, decide_eq_true_eq, decide_eq_false_iff_not, gnE, List.length_map, gnF, gnL, decide_true, decide_false, Bool.or_true, true_and, and_true, dT_eT, eT_0, eT_1, eT_2, eT_3, eT_eq, eT_z] at hlt
      obtain ⟨k, rfl⟩ : ∃ k, m = k + 1 := ⟨m - 1, by omega⟩
      have hkl : k < l.length := by omega
      have p3 : gTT (fun t => if validT t then t else zT) [eT (l.getD k default)] = some [eT (l.getD k default)] := by simp only [gTT, dT_eT, hvx k hkl, if_true]
      have ek : ((k + 1 : Nat) : Int) - 1 = (k : Int) := by omega
      rw [ek]
      simp only [q00, go_br, q01, q02, allSay, X.says, X.ev, X.evs, evl, tblS, List.getD_cons_zero, List.getD_cons_succ, List.getElem?_cons_zero, List.getElem?_cons_succ, tt_b, int_i, str_s, rs_r, Option.isSome_some, Option.getD_some, decide_eq_true_eq, decide_eq_false_iff_not, gnE, List.length_map, gnF, gnL, decide_true, decide_false, Bool.or_true, true_and, and_true, dT_eT, eT_0, eT_1, eT_2, eT_3, eT_eq, eT_z, get_t hkl, p3]
      refine ⟨⟨by omega, by omega⟩, ⟨by omega, by omega⟩, ?_⟩
      rw [updB, if_pos rfl]
      refine ⟨⟨k, by omega, ?_⟩, by simp [D.int]⟩
      rw [drop_at hkl, liT, eT_mk]
      rfl
    · simp only [q00, go_br, q01, q02, allSay, X.says, X.ev, X.evs, evl, tblS, List.getD_cons_zero, List.getD_cons_succ, List.getElem?_cons_zero, List.getElem?_cons_succ, tt_b, int_i, str_s, rs_r, Option.isSome_some, Option.getD_some, decide_eq_true_eq, decide_eq_false_iff_not, gnE, List.length_map, gnF, gnL, decide_true, decide_false, Bool.or_true, true_and, and_true, dT_eT, eT_0, eT_1, eT_2, eT_3, eT_eq, eT_z] at hlt ⊢
      obtain rfl : m = 0 := by omega
      rfl
end Go.Proofs.Ytmebmpgffhajbaa


namespace Go.Proofs.Ytmebmpgffhajbaa
open Go.RowKit
set_option linter.unusedVariables false
set_option linter.unusedSimpArgs false

def tog (g : Ce → Te × Int) : List Ce → Nat → List Te × List Int
  | [], _ => ([], [])
  | c :: l, z => if (g c).2 = 0 then (if 2000 < z + 1 + szT (g c).1 then ([], [(g c).2]) else ((g c).1 :: (tog g l (z + 1 + szT (g c).1)).1, (g c).2 :: (tog g l (z + 1 + szT (g c).1)).2))
    else ((tog g l z).1, (g c).2 :: (tog g l z).2)
def nilT : Te := .mk 2 0 ⟨#[91, 93]⟩ []
def dRC (d : D) : List Ce := d.rs.map dC
def togS (s : So) (l : List Ce) : List Te × List Int := tog (getS s) l 1
def gTog : List D → Option (List D)
  | [s, l] => if validR (dS s) then some [eT (liT (togS (dS s) (dRC l)).1 nilT), .r ((togS (dS s) (dRC l)).2.map D.i)] else none
  | _ => none
theorem lis_at {T : List Te} (hn : nodesTs T = true) (hz : 1 + szTs T + T.length ≤ 2000) : gLis [.r (T.map eT), eT nilT] = some [eT (liT T nilT)] := by
  have h1 : validT nilT = true := by decide
  have h2 : szT nilT = 1 := rfl
  simp only [gLis, dRT, rs_r, map_id' dT_eT, dT_eT, h1, hn, h2]
  rw [if_pos (by simp only [Bool.true_and, decide_eq_true_eq]; omega)]
theorem cells_drop {l : List Ce} {k : Nat} (h : k < l.length) : l.drop k = l.getD k default :: l.drop (k + 1) := by
  rw [List.drop_eq_getElem_cons h]
  simp [List.getD_eq_getElem?_getD, List.getElem?_eq_getElem h]
theorem ok_law34_together : FOk q12 gTog := fok_law34_together ok_cells_Get ok_term_Size ok_term_Atom ok_term_List fun ds outs hw hg => by
  obtain ⟨d, r, rfl, hd, e, r', rfl, he, rfl⟩ := hw
  obtain ⟨s, rfl, hs⟩ := wfS hd
  obtain ⟨l, rfl, hl, hlo⟩ := wfCs he
  simp only [gTog, dRC, rs_r, map_id' dC_eC, dS_eS, Option.ite_none_right_eq_some, Option.some.injEq] at hg
  obtain ⟨hv, rfl⟩ := hg
  have qa : gSt atomT [.s ⟨#[91, 93]⟩] = some [eT nilT] := rfl
  rw [q2a, q17]
  refine ⟨fun st => ∃ (k z : Nat) (E : List Int) (T : List Te), st = [.r (E.map D.i), .i (z : Nat), .r (T.map eT), .i (k : Nat)] ∧ k ≤ l.length ∧ E.length = k ∧ z = 1 + szTs T + T.length ∧ z ≤ 2000 ∧ nodesTs T = true ∧
    T ++ (tog (getS s) (l.drop k) z).1 = (togS s l).1 ∧ E ++ (tog (getS s) (l.drop k) z).2 = (togS s l).2, fun st => l.length - (st.getD 3 .u).int.toNat, ⟨0, 1, [], [], by simp [X.evs, X.ev, evl], Nat.zero_le _, rfl, rfl, by decide, rfl, rfl, rfl⟩, ?_⟩
  rintro st - ⟨k, z, E, T, rfl, hk, hE, hz, hz2, hT, h1, h2⟩
  have hTl := szTs_len T
  rw [go_br]
  refine ⟨fun hlt => ?_, fun hlt => ?_⟩
  · have hkl : k < l.length := by
      simp only [q00, go_br, q01, q02, allSay, X.says, X.ev, X.evs, evl, tblS, List.getD_cons_zero, List.getD_cons_succ, List.getElem?_cons_zero, List.getElem?_cons_succ, tt_b, int_i, str_s, rs_r, Option.isSome_some, Option.getD_some, decide_eq_true_eq, decide_eq_false_iff_not, gnE, List.length_map, gnF, gnL, decide_true, decide_false, Bool.or_true, true_and, and_true, dT_eT, eT_0, eT_1, eT_2, eT_3, eT_eq, eT_z] at hlt
      omega
    have hcv := getS_valid hv (l.getD k default)
    rw [cells_drop hkl] at h1 h2
    generalize hc : l.getD k default = c at *
    have hgc := get_n eC hkl
    rw [hc] at hgc
    have hcv' := hcv
    simp only [validT, Bool.and_eq_true, decide_eq_true_eq] at hcv'
    have q0 : gGet [eS s, eC c] = some [eT (getS s c).1, .i (getS s c).2] := by simp only [gGet, dS_eS, dC_eC, hv, if_true]
    have q1 : gTi (fun t => min (szT t : Int) 2001) [eT (getS s c).1] = some [.i (szT (getS s c).1 : Nat)] := by
      simp only [gTi, dT_eT]
      rw [show min (szT (getS s c).1 : Int) 2001 = szT (getS s c).1 by omega]
    have hap : ∀ (E : List Int) (x : Int), E.map D.i ++ [D.i x] = (E ++ [x]).map D.i := fun E x => by simp
    have hapT : ∀ (E : List Te) (x : Te), E.map eT ++ [eT x] = (E ++ [x]).map eT := fun E x => by simp
    rw [q00]
    refine ⟨by simp only [q00, go_br, q01, q02, allSay, X.says, X.ev, X.evs, evl, tblS, List.getD_cons_zero, List.getD_cons_succ, List.getElem?_cons_zero, List.getElem?_cons_succ, tt_b, int_i, str_s, rs_r, Option.isSome_some, Option.getD_some, decide_eq_true_eq, decide_eq_false_iff_not, gnE, List.length_map, gnF, gnL, decide_true, decide_false, Bool.or_true, true_and, and_true, dT_eT, eT_0, eT_1, eT_2, eT_3, eT_eq, eT_z, hgc, q0] <;> (and_intros <;> omega), ?_⟩
    rw [q00]
    refine ⟨by simp only [q00, go_br, q01, q02, allSay, X.says, X.ev, X.evs, evl, tblS, List.getD_cons_zero, List.getD_cons_succ, List.getElem?_cons_zero, List.getElem?_cons_succ, tt_b, int_i, str_s, rs_r, Option.isSome_some, Option.getD_some, decide_eq_true_eq, decide_eq_false_iff_not, gnE, List.length_map, gnF, gnL, decide_true, decide_false, Bool.or_true, true_and, and_true, dT_eT, eT_0, eT_1, eT_2, eT_3, eT_eq, eT_z, hgc, q0] <;> (and_intros <;> omega), ?_⟩
    rw [go_br]
    refine ⟨fun hb => ?_, fun hb => ?_⟩
    · have hne : (getS s c).2 ≠ 0 := by
        intro h0
        simp only [q00, go_br, q01, q02, allSay, X.says, X.ev, X.evs, evl, tblS, List.getD_cons_zero, List.getD_cons_succ, List.getElem?_cons_zero, List.getElem?_cons_succ, tt_b, int_i, str_s, rs_r, Option.isSome_some, Option.getD_some, decide_eq_true_eq, decide_eq_false_iff_not, gnE, List.length_map, gnF, gnL, decide_true, decide_false, Bool.or_true, true_and, and_true, dT_eT, eT_0, eT_1, eT_2, eT_3, eT_eq, eT_z, hgc, q0, h0] at hb
        exact absurd hb (by decide)
      rw [tog, if_neg hne] at h1 h2
      simp only [q00, go_br, q01, q02, allSay, X.says, X.ev, X.evs, evl, tblS, List.getD_cons_zero, List.getD_cons_succ, List.getElem?_cons_zero, List.getElem?_cons_succ, tt_b, int_i, str_s, rs_r, Option.isSome_some, Option.getD_some, decide_eq_true_eq, decide_eq_false_iff_not, gnE, List.length_map, gnF, gnL, decide_true, decide_false, Bool.or_true, true_and, and_true, dT_eT, eT_0, eT_1, eT_2, eT_3, eT_eq, eT_z, hgc, q0, hap]
      refine ⟨⟨by omega, by omega⟩, ?_⟩
      rw [updB, if_pos rfl]
      exact ⟨⟨k + 1, z, E ++ [(getS s c).2], T, by simp, hkl, by simp [hE], hz, hz2, hT, h1, by rw [List.append_assoc]; exact h2⟩, by simp [D.int]; omega⟩
    · have h0 : (getS s c).2 = 0 := by
        simp only [q00, go_br, q01, q02, allSay, X.says, X.ev, X.evs, evl, tblS, List.getD_cons_zero, List.getD_cons_succ, List.getElem?_cons_zero, List.getElem?_cons_succ, tt_b, int_i, str_s, rs_r, Option.isSome_some, Option.getD_some, decide_eq_true_eq, decide_eq_false_iff_not, gnE, List.length_map, gnF, gnL, decide_true, decide_false, Bool.or_true, true_and, and_true, dT_eT, eT_0, eT_1, eT_2, eT_3, eT_eq, eT_z, hgc, q0] at hb
        simpa using hb
      rw [tog, if_pos h0] at h1 h2
      rw [q00]
      refine ⟨by simp only [q00, go_br, q01, q02, allSay, X.says, X.ev, X.evs, evl, tblS, List.getD_cons_zero, List.getD_cons_succ, List.getElem?_cons_zero, List.getElem?_cons_succ, tt_b, int_i, str_s, rs_r, Option.isSome_some, Option.getD_some, decide_eq_true_eq, decide_eq_false_iff_not, gnE, List.length_map, gnF, gnL, decide_true, decide_false, Bool.or_true, true_and, and_true, dT_eT, eT_0, eT_1, eT_2, eT_3, eT_eq, eT_z, hgc, q0, q1] <;> (and_intros <;> omega), ?_⟩
      rw [go_br]
      refine ⟨fun hb => ?_, fun hb => ?_⟩
      · have hbig : 2000 < z + 1 + szT (getS s c).1 := by
          simp only [q00, go_br, q01, q02, allSay, X.says, X.ev, X.evs, evl, tblS, List.getD_cons_zero, List.getD_cons_succ, List.getElem?_cons_zero, List.getElem?_cons_succ, tt_b, int_i, str_s, rs_r, Option.isSome_some, Option.getD_some, decide_eq_true_eq, decide_eq_false_iff_not, gnE, List.length_map, gnF, gnL, decide_true, decide_false, Bool.or_true, true_and, and_true, dT_eT, eT_0, eT_1, eT_2, eT_3, eT_eq, eT_z, hgc, q0, q1] at hb
          omega
        rw [if_pos hbig] at h1 h2
        rw [List.append_nil] at h1
        have qL := lis_at hT (by omega)
        rw [← h1, ← h2]
        simp only [q00, go_br, q01, q02, allSay, X.says, X.ev, X.evs, evl, tblS, List.getD_cons_zero, List.getD_cons_succ, List.getElem?_cons_zero, List.getElem?_cons_succ, tt_b, int_i, str_s, rs_r, Option.isSome_some, Option.getD_some, decide_eq_true_eq, decide_eq_false_iff_not, gnE, List.length_map, gnF, gnL, decide_true, decide_false, Bool.or_true, true_and, and_true, dT_eT, eT_0, eT_1, eT_2, eT_3, eT_eq, eT_z, hgc, q0, qa, qL, hap]
      · have hbig : ¬ 2000 < z + 1 + szT (getS s c).1 := by
          simp only [q00, go_br, q01, q02, allSay, X.says, X.ev, X.evs, evl, tblS, List.getD_cons_zero, List.getD_cons_succ, List.getElem?_cons_zero, List.getElem?_cons_succ, tt_b, int_i, str_s, rs_r, Option.isSome_some, Option.getD_some, decide_eq_true_eq, decide_eq_false_iff_not, gnE, List.length_map, gnF, gnL, decide_true, decide_false, Bool.or_true, true_and, and_true, dT_eT, eT_0, eT_1, eT_2, eT_3, eT_eq, eT_z, hgc, q0, q1] at hb
          omega
        rw [if_neg hbig] at h1 h2
        have hsT : szTs (T ++ [(getS s c).1]) = szTs T + szT (getS s c).1 := by
          rw [szTs_app]
          simp [szTs]
        have hnT : nodesTs (T ++ [(getS s c).1]) = true := by
          refine nodesTs_iff.2 fun t ht => ?_
          rcases List.mem_append.1 ht with ht | ht
          · exact nodesTs_iff.1 hT t ht
          · rw [List.mem_singleton.1 ht]
            exact hcv'.2
        simp only [q00, go_br, q01, q02, allSay, X.says, X.ev, X.evs, evl, tblS, List.getD_cons_zero, List.getD_cons_succ, List.getElem?_cons_zero, List.getElem?_cons_succ, tt_b, int_i, str_s, rs_r, Option.isSome_some, Option.getD_some, decide_eq_true_eq, decide_eq_false_iff_not, gnE, List.length_map, gnF, gnL, decide_true, decide_false, Bool.or_true, true_and, and_true, dT_eT, eT_0, eT_1, eT_2, eT_3, eT_eq, eT_z, hgc, q0, q1, hap, hapT]
        refine ⟨by omega, ⟨by omega, by omega⟩, ?_⟩
        rw [updB, if_pos rfl]
        refine ⟨⟨k + 1, z + 1 + szT (getS s c).1, E ++ [(getS s c).2], T ++ [(getS s c).1], by simp, hkl, by simp [hE], by rw [hsT]; simp; omega, by omega, hnT, by rw [List.append_assoc]; exact h1, by rw [List.append_assoc]; exact h2⟩, by simp [D.int]; omega⟩
  · have hkl : k = l.length := by
      simp only [q00, go_br, q01, q02, allSay, X.says, X.ev, X.evs, evl, tblS, List.getD_cons_zero, List.getD_cons_succ, List.getElem?_cons_zero, List.getElem?_cons_succ, tt_b, int_i, str_s, rs_r, Option.isSome_some, Option.getD_some, decide_eq_true_eq, decide_eq_false_iff_not, gnE, List.length_map, gnF, gnL, decide_true, decide_false, Bool.or_true, true_and, and_true, dT_eT, eT_0, eT_1, eT_2, eT_3, eT_eq, eT_z] at hlt
      omega
    subst hkl
    rw [List.drop_length, tog, List.append_nil] at h1 h2
    have qL := lis_at hT (by omega)
    rw [← h1, ← h2]
    simp only [q00, go_br, q01, q02, allSay, X.says, X.ev, X.evs, evl, tblS, List.getD_cons_zero, List.getD_cons_succ, List.getElem?_cons_zero, List.getElem?_cons_succ, tt_b, int_i, str_s, rs_r, Option.isSome_some, Option.getD_some, decide_eq_true_eq, decide_eq_false_iff_not, gnE, List.length_map, gnF, gnL, decide_true, decide_false, Bool.or_true, true_and, and_true, dT_eT, eT_0, eT_1, eT_2, eT_3, eT_eq, eT_z, qa, qL]

def alkB (a b : So) (l m : List Ce) : Bool := decide (l.length = m.length) && (decide ((togS a l).2 = (togS b m).2) && varT (liT (togS a l).1 nilT) (liT (togS b m).1 nilT))
def gAlk : List D → Option (List D)
  | [a, b, l, m] => if validR (dS a) && validR (dS b) then some [.b (alkB (dS a) (dS b) (dRC l) (dRC m))] else none
  | _ => none
theorem ok_law34_alike : FOk q1i gAlk := fok_law34_alike ok_law34_together ok_term_Variant fun ds outs hw hg => by
  obtain ⟨d1, r1, rfl, hd1, d2, r2, rfl, hd2, d3, r3, rfl, hd3, d4, r4, rfl, hd4, rfl⟩ := hw
  obtain ⟨a, rfl, ha⟩ := wfS hd1
  obtain ⟨b, rfl, hb⟩ := wfS hd2
  obtain ⟨l, rfl, hl, hlo⟩ := wfCs hd3
  obtain ⟨m, rfl, hm, hmo⟩ := wfCs hd4
  simp only [gAlk, dRC, rs_r, map_id' dC_eC, dS_eS, Option.ite_none_right_eq_some, Option.some.injEq, Bool.and_eq_true] at hg
  obtain ⟨⟨hva, hvb⟩, rfl⟩ := hg
  have q1 : gTog [eS a, .r (l.map eC)] = some [eT (liT (togS a l).1 nilT), .r ((togS a l).2.map D.i)] := by simp only [gTog, dRC, rs_r, map_id' dC_eC, dS_eS, hva, if_true]
  have q2 : gTog [eS b, .r (m.map eC)] = some [eT (liT (togS b m).1 nilT), .r ((togS b m).2.map D.i)] := by simp only [gTog, dRC, rs_r, map_id' dC_eC, dS_eS, hvb, if_true]
  have q3 : ∀ t u, gTTb varT [eT t, eT u] = some [.b (varT t u)] := fun t u => by simp only [gTTb, dT_eT]
  have hlE : ∀ (g : Ce → Te × Int) (l : List Ce) (z : Nat), (tog g l z).2.length ≤ l.length := by
    intro g l
    induction l with
    | nil => intro z; exact Nat.le_refl _
    | cons c l ih =>
      intro z
      rw [tog]
      split
      · split
        · simp
        · have := ih (z + 1 + szT (g c).1)
          simp only [List.length_cons]
          omega
      · have := ih z
        simp only [List.length_cons]
        omega
  have hE1 := hlE (getS a) l 1
  unfold alkB
  generalize hx : (togS a l) = X1 at *
  have hE1 : X1.2.length ≤ l.length := by rw [← hx]; exact hE1
  generalize (togS b m) = X2 at *
  obtain ⟨T1, E1⟩ := X1
  obtain ⟨T2, E2⟩ := X2
  simp only at q1 q2 hE1 ⊢
  rw [q2y, q00]
  refine ⟨by simp only [q00, go_br, q01, q02, allSay, X.says, X.ev, X.evs, evl, tblS, List.getD_cons_zero, List.getD_cons_succ, List.getElem?_cons_zero, List.getElem?_cons_succ, tt_b, int_i, str_s, rs_r, Option.isSome_some, Option.getD_some, decide_eq_true_eq, decide_eq_false_iff_not, gnE, List.length_map, gnF, gnL, decide_true, decide_false, Bool.or_true, true_and, and_true, dT_eT, eT_0, eT_1, eT_2, eT_3, eT_eq, eT_z, q1, q2], ?_⟩
  rw [q00]
  refine ⟨by simp only [q00, go_br, q01, q02, allSay, X.says, X.ev, X.evs, evl, tblS, List.getD_cons_zero, List.getD_cons_succ, List.getElem?_cons_zero, List.getElem?_cons_succ, tt_b, int_i, str_s, rs_r, Option.isSome_some, Option.getD_some, decide_eq_true_eq, decide_eq_false_iff_not, gnE, List.length_map, gnF, gnL, decide_true, decide_false, Bool.or_true, true_and, and_true, dT_eT, eT_0, eT_1, eT_2, eT_3, eT_eq, eT_z, q1, q2], ?_⟩
  rw [go_br]
  refine ⟨fun hc => ?_, fun hc => ?_⟩
  · simp only [q00, go_br, q01, q02, allSay, X.says, X.ev, X.evs, evl, tblS, List.getD_cons_zero, List.getD_cons_succ, List.getElem?_cons_zero, List.getElem?_cons_succ, tt_b, int_i, str_s, rs_r, Option.isSome_some, Option.getD_some, decide_eq_true_eq, decide_eq_false_iff_not, gnE, List.length_map, gnF, gnL, decide_true, decide_false, Bool.or_true, true_and, and_true, dT_eT, eT_0, eT_1, eT_2, eT_3, eT_eq, eT_z, q1, q2] at hc
    have : ¬ l.length = m.length ∨ ¬ E1 = E2 := by
      by_cases h : l.length = m.length
      · refine .inr fun e => ?_
        subst e
        simp [h] at hc
      · exact .inl h
    rcases this with h | h <;> simp [q00, go_br, q01, q02, allSay, X.says, X.ev, X.evs, evl, tblS, List.getD_cons_zero, List.getD_cons_succ, List.getElem?_cons_zero, List.getElem?_cons_succ, tt_b, int_i, str_s, rs_r, Option.isSome_some, Option.getD_some, decide_eq_true_eq, decide_eq_false_iff_not, gnE, List.length_map, gnF, gnL, decide_true, decide_false, Bool.or_true, true_and, and_true, dT_eT, eT_0, eT_1, eT_2, eT_3, eT_eq, eT_z, h]
  · simp only [q00, go_br, q01, q02, allSay, X.says, X.ev, X.evs, evl, tblS, List.getD_cons_zero, List.getD_cons_succ, List.getElem?_cons_zero, List.getElem?_cons_succ, tt_b, int_i, str_s, rs_r, Option.isSome_some, Option.getD_some, decide_eq_true_eq, decide_eq_false_iff_not, gnE, List.length_map, gnF, gnL, decide_true, decide_false, Bool.or_true, true_and, and_true, dT_eT, eT_0, eT_1, eT_2, eT_3, eT_eq, eT_z, q1, q2] at hc
    have hlm : l.length = m.length ∧ E1.length = E2.length := by
      by_cases h1 : l.length = m.length <;> by_cases h2 : E1.length = E2.length <;> simp [h1, h2] at hc ⊢
      · exact absurd hc (by omega)
      · exact absurd hc (by omega)
      · exact absurd hc (by omega)
    refine scan_ok E1.length (fun j => decide (E1.getD j 0 = E2.getD j 0)) (v0 := .b false) rfl fun k B' hk hP hB _ => ?_
    rw [go_br]
    refine ⟨fun hlt => ?_, fun hlt => ?_⟩
    · have hkl : k < E1.length := by
        simp only [q00, go_br, q01, q02, allSay, X.says, X.ev, X.evs, evl, tblS, List.getD_cons_zero, List.getD_cons_succ, List.getElem?_cons_zero, List.getElem?_cons_succ, tt_b, int_i, str_s, rs_r, Option.isSome_some, Option.getD_some, decide_eq_true_eq, decide_eq_false_iff_not, gnE, List.length_map, gnF, gnL, decide_true, decide_false, Bool.or_true, true_and, and_true, dT_eT, eT_0, eT_1, eT_2, eT_3, eT_eq, eT_z, q1, q2] at hlt
        omega
      have g1 := get_i hkl
      have g2 := get_i (l := E2) (k := k) (by omega)
      simp only [q00, go_br, q01, q02, allSay, X.says, X.ev, X.evs, evl, tblS, List.getD_cons_zero, List.getD_cons_succ, List.getElem?_cons_zero, List.getElem?_cons_succ, tt_b, int_i, str_s, rs_r, Option.isSome_some, Option.getD_some, decide_eq_true_eq, decide_eq_false_iff_not, gnE, List.length_map, gnF, gnL, decide_true, decide_false, Bool.or_true, true_and, and_true, dT_eT, eT_0, eT_1, eT_2, eT_3, eT_eq, eT_z, q1, q2, g1, g2]
      refine ⟨⟨by omega, by omega, by omega, by omega⟩, fun hb => ?_, fun hb => ⟨⟨by omega, by omega⟩, hB hkl ?_⟩⟩
      · have : ¬ E1 = E2 := fun e => by
          subst e
          simp at hb
        simp [this]
      · simpa using hb
    · have hkl : k = E1.length := by
        simp only [q00, go_br, q01, q02, allSay, X.says, X.ev, X.evs, evl, tblS, List.getD_cons_zero, List.getD_cons_succ, List.getElem?_cons_zero, List.getElem?_cons_succ, tt_b, int_i, str_s, rs_r, Option.isSome_some, Option.getD_some, decide_eq_true_eq, decide_eq_false_iff_not, gnE, List.length_map, gnF, gnL, decide_true, decide_false, Bool.or_true, true_and, and_true, dT_eT, eT_0, eT_1, eT_2, eT_3, eT_eq, eT_z, q1, q2] at hlt
        omega
      subst hkl
      have he : E1 = E2 := by
        apply List.ext_getElem hlm.2
        intro i h1 h2
        have := of_decide_eq_true (hP i h1)
        simpa [List.getD_eq_getElem?_getD, h1, h2] using this
      subst he
      simp only [q00, go_br, q01, q02, allSay, X.says, X.ev, X.evs, evl, tblS, List.getD_cons_zero, List.getD_cons_succ, List.getElem?_cons_zero, List.getElem?_cons_succ, tt_b, int_i, str_s, rs_r, Option.isSome_some, Option.getD_some, decide_eq_true_eq, decide_eq_false_iff_not, gnE, List.length_map, gnF, gnL, decide_true, decide_false, Bool.or_true, true_and, and_true, dT_eT, eT_0, eT_1, eT_2, eT_3, eT_eq, eT_z, q1, q2, q3, hlm.1, Bool.true_and]
end Go.Proofs.Ytmebmpgffhajbaa


namespace Go.Proofs.Ytmebmpgffhajbaa
open Go.RowKit
set_option linter.unusedVariables false
set_option linter.unusedSimpArgs false

theorem liT_map (g : Int → Int) : ∀ T : List Te, mapV g (liT T nilT) = liT (T.map (mapV g)) nilT
  | [] => rfl
  | x :: T => by
    rw [liT, mapV_mk, if_neg (by decide), List.map_cons, List.map_cons, List.map_nil, liT_map g T]
    rfl
theorem liT_in {V : List Int} : ∀ T : List Te, (∀ t ∈ T, inV V t) → inV V (liT T nilT)
  | [], _ => ⟨fun h => absurd h (by decide), trivial⟩
  | x :: T, h => ⟨fun h => absurd h (by decide), h x List.mem_cons_self, liT_in T (fun t ht => h t (List.mem_cons_of_mem _ ht)), trivial⟩
theorem liT_sz : ∀ T : List Te, szT (liT T nilT) = 1 + szTs T + T.length
  | [] => rfl
  | x :: T => by
    rw [liT, szT, szTs, szTs, szTs, liT_sz T, szTs, List.length_cons]
    omega
theorem liT_nodes : ∀ T : List Te, (∀ t ∈ T, nodesT t = true) → nodesT (liT T nilT) = true
  | [], _ => by decide
  | x :: T, h => by
    rw [liT, nodesT, nodesTs, nodesTs, nodesTs, h x List.mem_cons_self, liT_nodes T fun t ht => h t (List.mem_cons_of_mem _ ht)]
    rfl
theorem tog_sz (g : Ce → Te × Int) : ∀ (l : List Ce) (z : Nat), z ≤ 2000 → z + szTs (tog g l z).1 + (tog g l z).1.length ≤ 2000
  | [], z, h => by
    rw [tog]
    simp [szTs]
    exact h
  | c :: l, z, h => by
    rw [tog]
    split
    · split
      · simp [szTs]
        exact h
      · have := tog_sz g l (z + 1 + szT (g c).1) (by omega)
        simp only [szTs, List.length_cons]
        omega
    · exact tog_sz g l z h
theorem tog_all {P : Te → Prop} {g : Ce → Te × Int} : ∀ (l : List Ce) (z : Nat), (∀ c ∈ l, (g c).2 = 0 → P (g c).1) → ∀ t ∈ (tog g l z).1, P t
  | [], z, h, t, ht => by cases ht
  | c :: l, z, h, t, ht => by
    rw [tog] at ht
    split at ht
    · rename_i h0
      split at ht
      · cases ht
      · rcases List.mem_cons.1 ht with rfl | ht
        · exact h c List.mem_cons_self h0
        · exact tog_all l _ (fun x hx => h x (List.mem_cons_of_mem _ hx)) t ht
    · exact tog_all l z (fun x hx => h x (List.mem_cons_of_mem _ hx)) t ht
theorem tog_map {F : Ce → Ce} {m : Int → Int} {G g : Ce → Te × Int} : ∀ (l : List Ce) (z : Nat), (∀ c ∈ l, G (F c) = (mapV m (g c).1, (g c).2)) → tog G (l.map F) z = ((tog g l z).1.map (mapV m), (tog g l z).2)
  | [], z, h => rfl
  | c :: l, z, h => by
    have hc := h c List.mem_cons_self
    have ih := fun z => tog_map (G := G) (g := g) l z fun x hx => h x (List.mem_cons_of_mem _ hx)
    rw [List.map_cons, tog, tog, hc]
    simp only [szT_mapV, ih]
    split
    · split <;> rfl
    · rfl
section
variable {s : So} {r : Ro}
end
theorem alk_at {a b : So} {l m : List Ce} (ha : validR a = true) (hb : validR b = true) : gAlk [eS a, eS b, .r (l.map eC), .r (m.map eC)] = some [.b (alkB a b l m)] := by
  simp only [gAlk, dRC, rs_r, map_id' dC_eC, dS_eS, ha, hb, Bool.and_self, if_true]
end Go.Proofs.Ytmebmpgffhajbaa


namespace Go.Proofs.Ytmebmpgffhajbaa
open Go.RowKit
set_option linter.unusedVariables false
set_option linter.unusedSimpArgs false

section
variable {s : So}
def Clf (f : Nat → Bool) (s : So) (c : Ce) : Prop := ∀ x ∈ tgS s c, f x = true
theorem Clf.at {f : Nat → Bool} {c : Ce} (h : Clf f s c) {j : Nat} (hj : j < cntS s c) : f (c.n.toNat + j) = true := h _ (tg_mem.2 ⟨j, hj, rfl⟩)
structure Cf (f : Nat → Bool) (s : So) : Prop where
  v : validR s = true
  cell : ∀ y : Nat, y < s.cs.length → f y = true → Clf f s (cellAt s (y : Nat))
  old : ∀ u ∈ s.tr, f u.at'.toNat = true → Clf f s u.old
  wk : ∀ w ∈ s.wk, Clf f s w.att ∧ Clf f s w.val
  fn : ∀ x : Nat, x < s.cs.length → f x = true → tagS s (x : Nat) = 4 → ∀ j : Nat, (j : Int) ≤ arS s (cellAt s (x : Nat)).n → f (x + j) = true
structure Gof (f : Nat → Bool) (s : So) (c : Ce) : Prop where
  vc : vcR s c = true
  cl : Clf f s c
theorem Gof.g {f : Nat → Bool} (hv : validR s = true) {c : Ce} (h : Gof f s c) : Gce s c := gce_vc hv h.vc
theorem Gof.mk0 {f : Nat → Bool} {c : Ce} (h : Gof f s c) (hv : validR s = true) (ht : c.t = 0 ∨ c.t = 3 ∨ c.t = 5) : 0 ≤ c.n ∧ c.n.toNat < s.cs.length ∧ f c.n.toNat = true := by
  obtain ⟨h1, h2⟩ := (h.g hv).b ht
  have hp := cnt_pos (s := s) ht
  have hm := h.cl.at hp
  rw [Nat.add_zero] at hm
  exact ⟨h1, by omega, hm⟩
theorem vc_colG {f : Nat → Bool} {c : Ce} (hg : Gce s c) (hc : Clf f s c) (h : vcR s c = true) : vcR (colS f s) (mvC f c) = true := by
  by_cases ht : c.t = 0 ∨ c.t = 3 ∨ c.t = 5
  · obtain ⟨h1, h2⟩ := hg.b ht
    have hp := cnt_pos (s := s) ht
    have hm := hc.at hp
    rw [Nat.add_zero] at hm
    have hlt : c.n.toNat < s.cs.length := by omega
    have hcn : ((c.n.toNat : Nat) : Int) = c.n := by omega
    have hin := col_in hm hlt
    have htg := col_tag hm hlt
    rw [hcn] at htg
    unfold vcR at h ⊢
    rw [mvC_t, mvC_n ht, hin, htg]
    rcases ht with ht | ht | ht
    · rw [if_pos ht] at h ⊢
      simp only [Bool.and_eq_true] at h
      rw [h.2]
      rfl
    · rw [if_neg (by omega), if_neg (by omega), if_neg (by omega), if_pos ht] at h ⊢
      exact h
    · rw [if_neg (by omega), if_neg (by omega), if_neg (by omega), if_neg (by omega), if_pos ht] at h ⊢
      exact h
  · rw [mvC_k ht]
    unfold vcR at h ⊢
    rw [if_neg (by omega)] at h ⊢
    by_cases h1 : c.t = 1
    · rw [if_pos h1]
    · rw [if_neg h1] at h ⊢
      by_cases h2 : c.t = 2
      · rw [if_pos h2] at h ⊢
        exact h
      · rw [if_neg h2, if_neg (by omega), if_neg (by omega)] at h
        cases h
theorem en_colG {f : Nat → Bool} (h : Cf f s) : ∀ {k a : Nat}, a < s.cs.length → f a = true → endsN s k (a : Nat) = true → En (colS f s) (bef f a : Nat)
  | 0, a, _, _, he => by cases he
  | k + 1, a, hl, hm, he => by
    by_cases hn : Ns (colS f s) (bef f a : Nat)
    · have ht := hn.1
      rw [col_tag hm hl] at ht
      have ht0 : (cellAt s (a : Nat)).t = 0 := by rw [← tagS_in (inS_iff.2 ⟨by omega, by omega⟩)]; exact ht
      have hm2 := (h.cell a hl hm).at (cnt_pos (s := s) (.inl ht0))
      rw [Nat.add_zero] at hm2
      have hb := (gce_cell h.v (inS_iff.2 ⟨by omega, by omega⟩ : inS s (a : Nat) = true)).b (.inl ht0)
      have hp := cnt_pos (s := s) (c := cellAt s (a : Nat)) (.inl ht0)
      have hnx : nx (colS f s) (bef f a : Nat) = (bef f (nx s (a : Nat)).toNat : Nat) := by
        show (cellAt _ _).n = _
        rw [col_cell hm hl, mvC_n (.inl ht0)]
      have hns : Ns s (a : Nat) := ⟨ht, fun e => hn.2 (by
        show nx _ _ = _
        rw [hnx]
        show ((bef f (cellAt s (a : Nat)).n.toNat : Nat) : Int) = _
        rw [e, Int.toNat_natCast])⟩
      rw [endsN_ns hns] at he
      refine En.ns hn ?_
      rw [hnx]
      refine en_colG h (k := k) (by show (cellAt s (a : Nat)).n.toNat < _; omega) hm2 ?_
      rw [show (((cellAt s (a : Nat)).n.toNat : Nat) : Int) = nx s (a : Nat) by show _ = (cellAt s (a : Nat)).n; omega]
      exact he
    · exact En.st hn
theorem cell_colG {f : Nat → Bool} (h : Cf f s) {a : Nat} (ha : a < s.cs.length) (hm : f a = true) : cellR (colS f s) (bef f a : Nat) = true := by
  have hval := h.v
  have hin : inS s (a : Nat) = true := inS_iff.2 ⟨by omega, by omega⟩
  have hcell := col_cell (s := s) hm ha
  have hr := vr_cell hval hin
  unfold cellR at hr ⊢
  rw [hcell, mvC_t]
  by_cases h4 : (cellAt s (a : Nat)).t = 4
  · rw [if_pos h4] at hr ⊢
    rw [mvC_k (by omega), col_ar]
    simp only [Bool.and_eq_true, decide_eq_true_eq, List.all_eq_true, List.mem_range, Bool.not_eq_true', decide_eq_false_iff_not] at hr ⊢
    obtain ⟨r1, r2, r3⟩ := hr
    have hall := h.fn a ha hm (by rw [tagS_in hin]; exact h4)
    generalize arS s (cellAt s (a : Nat)).n = K at *
    have hrun : ∀ j : Nat, (j : Int) ≤ K → bef f (a + j) = bef f a + j := fun j hj => bef_run fun i hi => hall i (by omega)
    have r2' := inS_iff.1 r2
    refine ⟨r1, ?_, fun j hj => ?_⟩
    · have := col_in (s := s) (hall K.toNat (by omega)) (by omega)
      rw [hrun _ (by omega)] at this
      rwa [show ((bef f a + K.toNat : Nat) : Int) = (bef f a : Nat) + K by omega] at this
    · have ht := r3 j hj
      have := col_tag (s := s) (hall (j + 1) (by omega)) (by omega)
      rw [hrun (j + 1) (by omega)] at this
      rw [show ((bef f a : Nat) : Int) + ((j : Int) + 1) = ((bef f a + (j + 1) : Nat) : Int) by omega, this, show ((a + (j + 1) : Nat) : Int) = (a : Int) + ((j : Int) + 1) by omega]
      exact ht
  · rw [if_neg h4] at hr ⊢
    simp only [Bool.and_eq_true] at hr ⊢
    obtain ⟨r1, r2, r3⟩ := hr
    refine ⟨vc_colG (gce_cell hval hin) (h.cell a ha hm) r1, (en_colG h ha hm r2).ends, ?_⟩
    by_cases h5 : (cellAt s (a : Nat)).t = 5
    · simp only [h5, decide_true, Bool.not_true, Bool.false_or, Bool.and_eq_true, decide_eq_true_eq] at r3 ⊢
      obtain ⟨e1, e2⟩ := r3
      have hc := h.cell a ha hm
      have hcnt : cntS s (cellAt s (a : Nat)) = 3 := by
        unfold cntS
        rw [if_neg (by omega), if_neg (by omega), if_pos h5]
      have m1 := hc.at (j := 1) (by omega)
      have m2 := hc.at (j := 2) (by omega)
      rw [e1, Int.toNat_natCast] at m1 m2
      refine ⟨?_, grp_col e2 hm m1 m2⟩
      rw [mvC_n (.inr (.inr h5)), e1, Int.toNat_natCast]
    · simp [h5]
theorem old_colG {f : Nat → Bool} (h : Cf f s) {u : Un} (hu : u ∈ s.tr) (hon : onTr f u = true) : oldR (colS f s) (mvU f u) = true := by
  have hval := h.v
  have hold := vr_old hval hu
  obtain ⟨gi, g3⟩ := gce_old hval hold
  have g1 := (inS_iff.1 gi).1
  have g2 := (inS_iff.1 gi).2
  have hon : f u.at'.toNat = true := hon
  have hcl := h.old u hu hon
  have hat : ((u.at'.toNat : Nat) : Int) = u.at' := by omega
  have hin := col_in (s := s) hon (by omega)
  unfold oldR oldB
  simp only [mvU, mvC_t, hin, Bool.true_and]
  by_cases h0 : u.old.t = 0
  · rw [if_pos h0]
    refine decide_eq_true ?_
    rw [mvC_n (.inl h0), old_0 hold h0]
  rw [if_neg h0]
  by_cases h5 : u.old.t = 5
  · obtain ⟨e1, e2, e3⟩ := old_5 hold h5
    have hcnt : cntS s u.old = 3 := by
      unfold cntS
      rw [if_neg (by omega), if_neg (by omega), if_pos h5]
    have m1 := hcl.at (j := 1) (by omega)
    have m2 := hcl.at (j := 2) (by omega)
    rw [e1] at m1 m2
    rw [if_pos h5]
    refine Bool.and_eq_true_iff.2 ⟨decide_eq_true (by rw [mvC_n (.inr (.inr h5)), e1]), Bool.and_eq_true_iff.2 ⟨grp_col (by rw [hat]; exact e2) hon m1 m2, ?_⟩⟩
    rw [Bool.not_eq_true']
    refine decide_eq_false fun ht => ?_
    have hi := inS_iff.1 (tag_in' (by decide) ht)
    have hi2 := hi.2
    have : ((((colS f s).cs.length : Nat)) : Int) = (bef f s.cs.length : Nat) := by
      show (((heapF _ s s.cs.length).length : Nat) : Int) = _
      rw [heapF_len]
    rw [this] at hi2
    obtain ⟨b, hb, hbm, hbe⟩ := bef_surj (f := f) (n := s.cs.length) (i := bef f u.at'.toNat - 1) (by omega)
    rw [show ((bef f u.at'.toNat : Nat) : Int) - 1 = (bef f b : Nat) by omega, col_tag hbm hb] at ht
    have hbin : inS s (b : Nat) = true := inS_iff.2 ⟨by omega, by omega⟩
    have hb5 : (cellAt s (b : Nat)).t = 5 := by rw [← tagS_in hbin]; exact ht
    have hlt : b < u.at'.toNat := by
      rcases Nat.lt_or_ge b u.at'.toNat with h | h
      · exact h
      · have := bef_mono f h
        omega
    have hr := vr_cell hval hbin
    unfold cellR at hr
    rw [if_neg (by omega)] at hr
    simp only [hb5, decide_true, Bool.not_true, Bool.false_or, Bool.and_eq_true, decide_eq_true_eq] at hr
    have hbc := (h.cell b hb hbm).at (j := 1) (by
      unfold cntS
      rw [if_neg (by omega), if_neg (by omega), if_pos hb5]
      omega)
    rw [hr.2.2.1, Int.toNat_natCast] at hbc
    have hb1 := bef_one hbm
    have : b + 1 = u.at'.toNat := by
      rcases Nat.lt_or_eq_of_le (show b + 1 ≤ u.at'.toNat by omega) with h | h
      · have := bef_lt hbc h
        omega
      · exact h
    exact e3 (by rw [show u.at' - 1 = (b : Int) by omega]; exact ht)
  rw [if_neg h5]
  have ht : u.old.t = 1 ∨ u.old.t = 2 ∨ u.old.t = 3 := by
    unfold oldR oldB at hold
    rw [Bool.and_eq_true, if_neg h0, if_neg h5] at hold
    have := hold.2
    split at this
    · assumption
    · cases this
  rw [if_pos ht]
  exact vc_colG g3 hcl (old_vc hold ht)
theorem vr_colG {f : Nat → Bool} (h : Cf f s) : validR (colS f s) = true := by
  have hval := h.v
  have hh := vr_head hval
  unfold validR
  rw [Bool.and_eq_true, Bool.and_eq_true, Bool.and_eq_true]
  refine ⟨?_, ?_, ?_, ?_⟩
  · simp only [headB, Bool.and_eq_true, decide_eq_true_eq] at hh ⊢
    refine ⟨hh.1, hh.2.1, ?_, hh.2.2.2.1, hh.2.2.2.2⟩
    show (((heapF _ s s.cs.length).length : Nat) : Int) ≤ s.mx
    rw [heapF_len]
    have := bef_le f s.cs.length
    omega
  · rw [List.all_eq_true]
    intro i hi
    have hi : i < (heapF f s s.cs.length).length := List.mem_range.1 hi
    rw [heapF_len] at hi
    obtain ⟨a, ha, hm, rfl⟩ := bef_surj hi
    exact cell_colG h ha hm
  · rw [List.all_eq_true]
    intro i hi
    have hmem : (colS f s).tr.getD i default ∈ (colS f s).tr := getD_mem (List.mem_range.1 hi)
    obtain ⟨u, hu, e⟩ := List.mem_map.1 hmem
    rw [← e]
    obtain ⟨hu, hon⟩ := List.mem_filter.1 hu
    rw [List.take_length] at hu
    exact old_colG h hu hon
  · rw [List.all_eq_true]
    intro i hi
    have hmem : (colS f s).wk.getD i default ∈ (colS f s).wk := getD_mem (List.mem_range.1 hi)
    obtain ⟨w, hw, e⟩ := List.mem_map.1 hmem
    rw [← e]
    have hwk := vr_wk hval hw
    simp only [wkB, Bool.and_eq_true, decide_eq_true_eq] at hwk ⊢
    exact ⟨hwk.1, hwk.2.1, vc_colG (gce_vc hval hwk.2.2.1) (h.wk w hw).1 hwk.2.2.1, vc_colG (gce_vc hval hwk.2.2.2) (h.wk w hw).2 hwk.2.2.2⟩
theorem good_atG {f : Nat → Bool} (hv : Cf f s) {i : Int} (hi : inS s i = true) (hm : f i.toNat = true) (ht : (cellAt s i).t ≠ 4) : Gof f s (cellAt s i) := by
  have h := inS_iff.1 hi
  refine ⟨vr_vc hv.v hi ht, ?_⟩
  have := hv.cell i.toNat (by omega) hm
  rwa [show ((i.toNat : Nat) : Int) = i by omega] at this
theorem der_goodG {f : Nat → Bool} (hv : Cf f s) : ∀ (k : Nat) {c : Ce}, Gof f s c → Gof f s (derN s k c)
  | 0, c, h => h
  | k + 1, c, h => by
    unfold derN
    split
    · rename_i q
      exact der_goodG hv k (good_atG hv q.2.1 (h.mk0 hv.v (.inl q.1)).2.2 (vc_ref h.vc q.1).2)
    · exact h
theorem mvC_eqG {f : Nat → Bool} {c d : Ce} (hv : validR s = true) (hc : Gof f s c) (hd : Gof f s d) (ht : d.t = 0) : mvC f c = mvC f d ↔ c = d := by
  refine ⟨fun h => ?_, fun h => by rw [h]⟩
  have h1 : c.t = d.t := by
    have := congrArg Ce.t h
    rwa [mvC_t, mvC_t] at this
  have hn : (mvC f c).n = (mvC f d).n := by rw [h]
  rw [mvC_n (.inl (h1.trans ht)), mvC_n (.inl ht)] at hn
  obtain ⟨a1, a2, a3⟩ := hc.mk0 hv (.inl (h1.trans ht))
  obtain ⟨b1, b2, b3⟩ := hd.mk0 hv (.inl ht)
  have := bef_inj a3 b3 (by omega)
  exact Ce.ext' h1 (by omega)
theorem derN_colG {f : Nat → Bool} (hv : Cf f s) : ∀ (k : Nat) {c : Ce}, Gof f s c → derN (colS f s) k (mvC f c) = mvC f (derN s k c)
  | 0, c, h => rfl
  | k + 1, c, h => by
    unfold derN
    rw [mvC_t]
    by_cases ht : c.t = 0
    · obtain ⟨a1, a2, a3⟩ := h.mk0 hv.v (.inl ht)
      have hcn : ((c.n.toNat : Nat) : Int) = c.n := by omega
      have hin : inS s c.n = true := inS_iff.2 ⟨a1, by omega⟩
      have hin2 := col_in (s := s) a3 a2
      have hcell := col_cell (s := s) a3 a2
      rw [hcn] at hcell
      have hg := good_atG hv hin a3 (vc_ref h.vc ht).2
      rw [mvC_n (.inl ht), hcell]
      by_cases hq : cellAt s c.n = c
      · rw [if_neg fun q => q.2.2 (by rw [hq]), if_neg fun q => q.2.2 hq]
      · rw [if_pos ⟨ht, hin2, fun e => hq ((mvC_eqG hv.v hg h ht).1 e)⟩, if_pos ⟨ht, hin, hq⟩]
        exact derN_colG hv k hg
    · rw [if_neg fun q => ht q.1, if_neg fun q => ht q.1]
theorem derS_colG {f : Nat → Bool} (hok : Cf f s) {c : Ce} (h : Gof f s c) : derS (colS f s) (mvC f c) = mvC f (derS s c) := by
  have hv := hok.v
  have hv2 := vr_colG hok
  have hvc2 := vc_colG (h.g hv) h.cl h.vc
  rw [derS, if_pos hvc2, derS, if_pos h.vc, ← derN_colG hok _ h]
  have hle : (colS f s).cs.length ≤ s.cs.length := by
    have e : (colS f s).cs.length = bef f s.cs.length := heapF_len _ s _
    rw [e]
    exact bef_le _ _
  have := der_more hv2 hvc2 (s.cs.length - (colS f s).cs.length)
  rw [show (colS f s).cs.length + 1 + (s.cs.length - (colS f s).cs.length) = s.cs.length + 1 by omega] at this
  exact this.symm
theorem derS_goodG {f : Nat → Bool} (hv : Cf f s) {c : Ce} (h : Gof f s c) : Gof f s (derS s c) := by
  rw [derS, if_pos h.vc]
  exact der_goodG hv _ h

theorem getL_colG {f : Nat → Bool} {K : Int} {G g : Ce → Int → Te × Int} (hl : ∀ (c : Ce) (l : Int), 0 ≤ l → (g c l).2 ≤ l - 1 ∧ -1 ≤ (g c l).2) : ∀ (cs : List Ce) (l : Int), -1 ≤ l → l < K → (∀ c ∈ cs, ∀ l, 0 ≤ l → l < K → G (mvC f c) l = (mapV (rnV f) (g c l).1, (g c l).2) ∧ (0 ≤ (g c l).2 → inV (mkV f s.cs.length) (g c l).1)) →
    getL G (cs.map (mvC f)) l = (mapVs (rnV f) (getL g cs l).1, (getL g cs l).2) ∧ (0 ≤ (getL g cs l).2 → inVs (mkV f s.cs.length) (getL g cs l).1)
  | [], l, _, _, _ => ⟨rfl, fun _ => trivial⟩
  | c :: cs, l, hl0, hlK, h => by
    rw [List.map_cons, getL, getL]
    by_cases hneg : l < 0
    · rw [if_pos hneg, if_pos hneg]
      exact ⟨rfl, fun _ => trivial⟩
    · rw [if_neg hneg, if_neg hneg]
      obtain ⟨h1, h2⟩ := h c List.mem_cons_self l (by omega) hlK
      have hb := hl c l (by omega)
      obtain ⟨i1, i2⟩ := getL_colG hl cs (g c l).2 hb.2 (by omega) fun x hx => h x (List.mem_cons_of_mem _ hx)
      have hb2 := getL_le hl cs (g c l).2 hb.2
      rw [h1]
      simp only
      rw [i1]
      refine ⟨rfl, fun h0 => ⟨h2 (by have h0 : 0 ≤ (getL g cs (g c l).2).2 := h0; omega), i2 h0⟩⟩
theorem getN_colG {f : Nat → Bool} (hok : Cf f s) : ∀ (k : Nat) (c : Ce) (l : Int), 0 ≤ l → l < k → Gof f s c → getN (colS f s) k (mvC f c) l = (mapV (rnV f) (getN s k c l).1, (getN s k c l).2) ∧ (0 ≤ (getN s k c l).2 → inV (mkV f s.cs.length) (getN s k c l).1)
  | 0, c, l, h0, h1, _ => by omega
  | k + 1, c, l, hl0, hlk, hc => by
    have hv := hok.v
    have hd := derS_goodG hok hc
    rw [getN, getN, derS_colG hok hc]
    generalize derS s c = d at hd
    by_cases hneg : l - 1 < 0
    · rw [if_pos hneg, if_pos hneg]
      exact ⟨rfl, fun h => absurd h (by simp only; omega)⟩
    rw [if_neg hneg, if_neg hneg, mvC_t]
    by_cases h1 : d.t = 1
    · rw [if_pos h1, if_pos h1, mvC_k (by omega)]
      exact ⟨by rw [mapV_mk, if_neg (by decide)]; rfl, fun _ => ⟨fun h => absurd h (by decide), trivial⟩⟩
    rw [if_neg h1, if_neg h1]
    by_cases h2 : d.t = 2
    · rw [if_pos h2, if_pos h2, mvC_k (by omega)]
      exact ⟨by rw [mapV_mk, if_neg (by decide)]; rfl, fun _ => ⟨fun h => absurd h (by decide), trivial⟩⟩
    rw [if_neg h2, if_neg h2]
    by_cases h3 : d.t = 3
    · rw [if_pos h3, if_pos h3]
      obtain ⟨a1, a2, a3⟩ := hd.mk0 hv (.inr (.inl h3))
      have hdn : ((d.n.toNat : Nat) : Int) = d.n := by omega
      have h4 := vc_str hd.vc h3
      have hin : inS s d.n = true := inS_iff.2 ⟨a1, by omega⟩
      have h4' : (cellAt s d.n).t = 4 := by rw [← tagS_in hin]; exact h4
      have hcell := col_cell (s := s) a3 a2
      rw [hdn] at hcell
      obtain ⟨b1, b2, b3⟩ := vr_fun hv hin h4'
      have hall := hok.fn _ a2 a3 (by rw [hdn]; exact h4)
      rw [hdn] at hall
      rw [mvC_n (.inr (.inl h3)), hcell, mvC_k (c := cellAt s d.n) (by omega), col_ar]
      have hargs : argsOf (colS f s) (bef f d.n.toNat : Nat) (arS s (cellAt s d.n).n).toNat = (argsOf s d.n (arS s (cellAt s d.n).n).toNat).map (mvC f) := by
        unfold argsOf
        rw [List.map_map]
        refine List.map_congr_left fun j hj => ?_
        have hj := List.mem_range.1 hj
        have hm := hall (j + 1) (by omega)
        have hb3 := (inS_iff.1 (b3 j (by omega)).1).2
        have hlt : d.n.toNat + (j + 1) < s.cs.length := by omega
        have hrun : bef f (d.n.toNat + (j + 1)) = bef f d.n.toNat + (j + 1) := bef_run fun i hi => hall i (by omega)
        have := col_cell (s := s) hm hlt
        rw [hrun] at this
        show cellAt _ ((bef f d.n.toNat : Nat) + 1 + (j : Int)) = mvC _ (cellAt s (d.n + 1 + (j : Int)))
        rw [show ((bef f d.n.toNat : Nat) : Int) + 1 + (j : Int) = ((bef f d.n.toNat + (j + 1) : Nat) : Int) by omega, this, show ((d.n.toNat + (j + 1) : Nat) : Int) = d.n + 1 + (j : Int) by omega]
      rw [hargs]
      have hg : ∀ x ∈ argsOf s d.n (arS s (cellAt s d.n).n).toNat, Gof f s x := fun x hx => by
        obtain ⟨j, hj, rfl⟩ := List.mem_map.1 hx
        have hj := List.mem_range.1 hj
        obtain ⟨c1, c2⟩ := b3 j (by omega)
        refine ⟨c2, ?_⟩
        have hc1 := (inS_iff.1 c1).2
        have := hok.cell _ (show d.n.toNat + (j + 1) < s.cs.length by omega) (hall (j + 1) (by omega))
        rwa [show ((d.n.toNat + (j + 1) : Nat) : Int) = d.n + 1 + (j : Int) by omega] at this
      obtain ⟨i1, i2⟩ := getL_colG (K := (k : Int)) (G := getN (colS f s) k) (fun c l h => getN_le s k c l h) _ (l - 1) (by omega) (by omega) fun x hx l' hl' hk' => getN_colG hok k x l' hl' hk' (hg x hx)
      rw [i1]
      refine ⟨by rw [mapV_mk, if_neg (by decide), ← mapVs_map]; rfl, fun h => ⟨fun h => absurd h (by decide), i2 h⟩⟩
    rw [if_neg h3, if_neg h3]
    have hvd := hd.vc
    have ht : d.t = 0 ∨ d.t = 3 ∨ d.t = 5 := by
      by_cases h0 : d.t = 0
      · exact .inl h0
      · by_cases h5 : d.t = 5
        · exact .inr (.inr h5)
        · unfold vcR at hvd
          rw [if_neg h0, if_neg h1, if_neg h2, if_neg h3, if_neg h5] at hvd
          cases hvd
    obtain ⟨a1, a2, a3⟩ := hd.mk0 hv ht
    rw [mvC_n ht]
    refine ⟨by rw [mapV_mk, if_pos rfl]; rfl, fun _ => ⟨fun _ => mkV_mem.2 ⟨a1, a2, a3⟩, trivial⟩⟩
theorem getS_colG {f : Nat → Bool} (hok : Cf f s) {c : Ce} (hc : Gof f s c) : getS (colS f s) (mvC f c) = (mapV (rnV f) (getS s c).1, (getS s c).2) ∧ ((getS s c).2 = 0 → inV (mkV f s.cs.length) (getS s c).1) := by
  have hv := hok.v
  have hvc2 := vc_colG (hc.g hv) hc.cl hc.vc
  obtain ⟨h1, h2⟩ := getN_colG hok 2001 c 2000 (by omega) (by omega) hc
  unfold getS
  rw [if_pos hvc2, if_pos hc.vc, h1]
  by_cases hn : (getN s 2001 c 2000).2 < 0
  · rw [if_pos hn, if_pos hn]
    exact ⟨rfl, fun h => absurd h (by decide)⟩
  · rw [if_neg hn, if_neg hn]
    exact ⟨rfl, fun _ => h2 (by omega)⟩
theorem alk_colG {f : Nat → Bool} (hok : Cf f s) {l : List Ce} (hgood : ∀ c ∈ l, Gof f s c) : alkB s (colS f s) l (l.map (mvC f)) = true := by
  have hv := hok.v
  have ht : togS (colS f s) (l.map (mvC f)) = ((togS s l).1.map (mapV (rnV f)), (togS s l).2) := tog_map l 1 fun c h => (getS_colG hok (hgood c h)).1
  have hin : ∀ t ∈ (togS s l).1, inV (mkV f s.cs.length) t := tog_all l 1 fun c h h0 => (getS_colG hok (hgood c h)).2 h0
  have hno : ∀ t ∈ (togS s l).1, nodesT t = true := tog_all l 1 fun c h h0 => by
    have := getS_valid hv c
    simp only [validT, Bool.and_eq_true] at this
    exact this.2
  have hsz := tog_sz (getS s) l 1 (by decide)
  have hval : validT (liT (togS s l).1 nilT) = true := by
    simp only [validT, Bool.and_eq_true, decide_eq_true_eq]
    refine ⟨?_, liT_nodes _ hno⟩
    rw [liT_sz]
    exact hsz
  have hl : l.length = (l.map (mvC f)).length := (List.length_map ..).symm
  have hcs := vr_len hv
  unfold alkB
  rw [ht]
  simp only [← liT_map, ← hl, decide_true, Bool.true_and]
  exact var_map hval (liT_in _ hin) rnV_inj (rnV_rng hcs)
end
end Go.Proofs.Ytmebmpgffhajbaa

