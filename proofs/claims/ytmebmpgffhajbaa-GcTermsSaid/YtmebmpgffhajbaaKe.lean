/-
  Lemmas of the walk and plain laws, put together. No condition.
-/
import Derived.Test.YtmebmpgffhajbaaKd
namespace Go.Proofs.Ytmebmpgffhajbaa
open Go.RowKit
set_option linter.unusedVariables false
set_option linter.unusedSimpArgs false

mutual
/-- Variables renumbered. -/
def mapV (f : Int → Int) : Te → Te
  | .mk k n s l => .mk k (if k = 0 then f n else n) s (mapVs f l)
def mapVs (f : Int → Int) : List Te → List Te
  | [] => []
  | t :: l => mapV f t :: mapVs f l
end
mutual
/-- The variables in the order of their first occurrence, behind those given. -/
def varsT (vs : List Int) : Te → List Int
  | .mk k n s l => varsTs (if k = 0 ∧ n ∉ vs then vs ++ [n] else vs) l
def varsTs (vs : List Int) : List Te → List Int
  | [] => vs
  | t :: l => varsTs (varsT vs t) l
end
mutual
def inV (V : List Int) : Te → Prop
  | .mk k n s l => (k = 0 → n ∈ V) ∧ inVs V l
def inVs (V : List Int) : List Te → Prop
  | [] => True
  | t :: l => inV V t ∧ inVs V l
end
def posL : List Int → Int → Int
  | [], _ => -1
  | a :: l, x => if a = x then 0 else if posL l x < 0 then -1 else posL l x + 1
abbrev numT (V : List Int) : Te → Te := mapV (posL V)
section
variable {f g : Int → Int}
theorem mapVs_map : ∀ l, mapVs f l = l.map (mapV f)
  | [] => rfl
  | t :: l => by rw [mapVs, mapVs_map l]; rfl
theorem mapV_mk (k n : Int) (s : ByteArray) (l : List Te) : mapV f (.mk k n s l) = .mk k (if k = 0 then f n else n) s (l.map (mapV f)) := by rw [mapV, mapVs_map]
theorem varsTs_app : ∀ (l m : List Te) (vs : List Int), varsTs vs (l ++ m) = varsTs (varsTs vs l) m
  | [], _, _ => rfl
  | t :: l, m, vs => by rw [List.cons_append, varsTs, varsTs, varsTs_app l]
mutual
theorem szT_mapV : ∀ t, szT (mapV f t) = szT t
  | .mk k n s l => by rw [mapV, szT, szT, szTs_mapV l]
theorem szTs_mapV : ∀ l, szTs (mapVs f l) = szTs l
  | [] => rfl
  | t :: l => by rw [mapVs, szTs, szTs, szT_mapV t, szTs_mapV l]
end
mutual
theorem mapV_congr {V : List Int} (h : ∀ x ∈ V, f x = g x) : ∀ t, inV V t → mapV f t = mapV g t
  | .mk k n s l, hi => by
    rw [mapV, mapV, mapVs_congr h l hi.2]
    by_cases hk : k = 0
    · rw [if_pos hk, if_pos hk, h n (hi.1 hk)]
    · rw [if_neg hk, if_neg hk]
theorem mapVs_congr {V : List Int} (h : ∀ x ∈ V, f x = g x) : ∀ l, inVs V l → mapVs f l = mapVs g l
  | [], _ => rfl
  | t :: l, hi => by rw [mapVs, mapVs, mapV_congr h t hi.1, mapVs_congr h l hi.2]
end
mutual
theorem mapV_comp : ∀ t, mapV f (mapV g t) = mapV (fun x => f (g x)) t
  | .mk k n s l => by
    rw [mapV, mapV, mapV, mapVs_comp l]
    by_cases hk : k = 0
    · simp [hk]
    · simp [hk]
theorem mapVs_comp : ∀ l, mapVs f (mapVs g l) = mapVs (fun x => f (g x)) l
  | [] => rfl
  | t :: l => by rw [mapVs, mapVs, mapVs, mapV_comp t, mapVs_comp l]
end
mutual
theorem inV_mono {V W : List Int} (h : ∀ x ∈ V, x ∈ W) : ∀ t, inV V t → inV W t
  | .mk k n s l, hi => ⟨fun hk => h n (hi.1 hk), inVs_mono h l hi.2⟩
theorem inVs_mono {V W : List Int} (h : ∀ x ∈ V, x ∈ W) : ∀ l, inVs V l → inVs W l
  | [], _ => trivial
  | t :: l, hi => ⟨inV_mono h t hi.1, inVs_mono h l hi.2⟩
end
mutual
theorem varsT_pre : ∀ (t : Te) (vs : List Int), ∃ m, varsT vs t = vs ++ m
  | .mk k n s l, vs => by
    rw [varsT]
    obtain ⟨m, hm⟩ := varsTs_pre l (if k = 0 ∧ n ∉ vs then vs ++ [n] else vs)
    rw [hm]
    split
    · exact ⟨[n] ++ m, by simp⟩
    · exact ⟨m, rfl⟩
theorem varsTs_pre : ∀ (l : List Te) (vs : List Int), ∃ m, varsTs vs l = vs ++ m
  | [], vs => ⟨[], by simp [varsTs]⟩
  | t :: l, vs => by
    rw [varsTs]
    obtain ⟨m, hm⟩ := varsT_pre t vs
    obtain ⟨m', hm'⟩ := varsTs_pre l (varsT vs t)
    exact ⟨m ++ m', by rw [hm', hm]; simp⟩
end
theorem varsTs_sub {t : List Te} {vs : List Int} {x : Int} (h : x ∈ vs) : x ∈ varsTs vs t := by
  obtain ⟨m, hm⟩ := varsTs_pre t vs
  rw [hm]
  exact List.mem_append_left _ h
mutual
theorem varsT_in : ∀ (t : Te) (vs : List Int), inV (varsT vs t) t
  | .mk k n s l, vs => by
    rw [varsT]
    refine ⟨fun hk => varsTs_sub ?_, varsTs_in l _⟩
    split
    · simp
    · rename_i h
      exact Classical.byContradiction fun hn => h ⟨hk, hn⟩
theorem varsTs_in : ∀ (l : List Te) (vs : List Int), inVs (varsTs vs l) l
  | [], vs => trivial
  | t :: l, vs => by
    rw [varsTs]
    exact ⟨inV_mono (fun x hx => varsTs_sub hx) t (varsT_in t vs), varsTs_in l _⟩
end
mutual
theorem varsT_len : ∀ (t : Te) (vs : List Int), (varsT vs t).length ≤ vs.length + szT t
  | .mk k n s l, vs => by
    rw [varsT, szT]
    refine Nat.le_trans (varsTs_len l _) ?_
    split
    · simp; omega
    · omega
theorem varsTs_len : ∀ (l : List Te) (vs : List Int), (varsTs vs l).length ≤ vs.length + szTs l
  | [], vs => by simp [varsTs, szTs]
  | t :: l, vs => by
    rw [varsTs, szTs]
    have h1 := varsTs_len l (varsT vs t)
    have h2 := varsT_len t vs
    omega
end
theorem mem_map_inj {vs : List Int} {n : Int} (h : ∀ x ∈ vs, f x = f n → x = n) : f n ∈ vs.map f ↔ n ∈ vs := by
  rw [List.mem_map]
  exact ⟨fun ⟨x, hx, e⟩ => h x hx e ▸ hx, fun hn => ⟨n, hn, rfl⟩⟩
mutual
theorem varsT_map : ∀ (t : Te) (vs : List Int), (∀ x ∈ varsT vs t, ∀ y ∈ varsT vs t, f x = f y → x = y) → varsT (vs.map f) (mapV f t) = (varsT vs t).map f
  | .mk k n s l, vs, h => by
    rw [mapV, varsT, varsT]
    rw [varsT] at h
    rw [← varsTs_map l _ h]
    congr 1
    by_cases hk : k = 0
    · simp only [if_pos hk]
      by_cases hn : n ∈ vs
      · rw [if_neg (fun q => q.2 (List.mem_map.2 ⟨n, hn, rfl⟩)), if_neg (fun q => q.2 hn)]
      · rw [if_pos ⟨hk, hn⟩] at h
        have hm : f n ∉ vs.map f := fun q => hn ((mem_map_inj (fun x hx e => h x (varsTs_sub (List.mem_append_left _ hx)) n (varsTs_sub (by simp)) e)).1 q)
        rw [if_pos ⟨hk, hm⟩, if_pos ⟨hk, hn⟩]
        simp
    · rw [if_neg (fun q => hk q.1), if_neg (fun q => hk q.1)]
theorem varsTs_map : ∀ (l : List Te) (vs : List Int), (∀ x ∈ varsTs vs l, ∀ y ∈ varsTs vs l, f x = f y → x = y) → varsTs (vs.map f) (mapVs f l) = (varsTs vs l).map f
  | [], vs, _ => rfl
  | t :: l, vs, h => by
    rw [mapVs, varsTs, varsTs]
    rw [varsTs] at h
    rw [varsT_map t vs (fun x hx y hy => h x (varsTs_sub hx) y (varsTs_sub hy)), varsTs_map l _ h]
end
theorem nodeT_mk (k n : Int) (s : ByteArray) (l : List Te) : nodeT (.mk k n s l) = if k = 0 then decide (0 ≤ n) && (decide (n ≤ 1099511627776) && (decide (s = ⟨#[]⟩) && decide ((l.length : Int) = 0)))
  else if k = 1 then decide (s = ⟨#[]⟩) && decide ((l.length : Int) = 0)
  else if k = 2 then decide (n = 0) && (decide ((s.size : Int) ≤ 100) && decide ((l.length : Int) = 0))
  else if k = 3 then decide (n = 0) && (decide ((s.size : Int) ≤ 100) && (decide (1 ≤ (l.length : Int)) && decide ((l.length : Int) ≤ 8)))
  else false := rfl
theorem nodeT_map {V : List Int} (h : ∀ x ∈ V, 0 ≤ f x ∧ f x ≤ 1099511627776) {k n : Int} {s : ByteArray} {l m : List Te} (hm : m.length = l.length) (hi : k = 0 → n ∈ V) (hn : nodeT (.mk k n s l) = true) : nodeT (.mk k (if k = 0 then f n else n) s m) = true := by
  rw [nodeT_mk] at hn ⊢
  rw [hm]
  by_cases hk : k = 0
  · have := h n (hi hk)
    rw [if_pos hk] at hn
    rw [if_pos hk, if_pos hk]
    simp only [Bool.and_eq_true, decide_eq_true_eq] at hn ⊢
    exact ⟨this.1, this.2, hn.2.2⟩
  · rw [if_neg hk] at hn
    rw [if_neg hk, if_neg hk]
    exact hn
mutual
theorem nodesT_map {V : List Int} (h : ∀ x ∈ V, 0 ≤ f x ∧ f x ≤ 1099511627776) : ∀ t, inV V t → nodesT t = true → nodesT (mapV f t) = true
  | .mk k n s l, hi, hn => by
    rw [nodesT, Bool.and_eq_true] at hn
    rw [mapV, nodesT, Bool.and_eq_true]
    exact ⟨nodeT_map h (by rw [mapVs_map, List.length_map]) hi.1 hn.1, nodesTs_map h l hi.2 hn.2⟩
theorem nodesTs_map {V : List Int} (h : ∀ x ∈ V, 0 ≤ f x ∧ f x ≤ 1099511627776) : ∀ l, inVs V l → nodesTs l = true → nodesTs (mapVs f l) = true
  | [], _, _ => rfl
  | t :: l, hi, hn => by
    rw [nodesTs, Bool.and_eq_true] at hn
    rw [mapVs, nodesTs, Bool.and_eq_true]
    exact ⟨nodesT_map h t hi.1 hn.1, nodesTs_map h l hi.2 hn.2⟩
end
theorem validT_map {V : List Int} (h : ∀ x ∈ V, 0 ≤ f x ∧ f x ≤ 1099511627776) {t : Te} (hi : inV V t) (hv : validT t = true) : validT (mapV f t) = true := by
  simp only [validT, Bool.and_eq_true, decide_eq_true_eq, szT_mapV] at hv ⊢
  exact ⟨hv.1, nodesT_map h t hi hv.2⟩
end

theorem posL_mem : ∀ {l : List Int} {x : Int}, x ∈ l → 0 ≤ posL l x ∧ posL l x < l.length
  | a :: l, x, h => by
    unfold posL
    split
    · simp only [List.length_cons]; omega
    · rename_i hne
      have := posL_mem (l := l) (x := x) (by
        rcases List.mem_cons.1 h with rfl | h
        · exact absurd rfl hne
        · exact h)
      rw [if_neg (by omega)]
      simp only [List.length_cons]
      omega
theorem posL_app {l m : List Int} {x : Int} (h : x ∈ l) : posL (l ++ m) x = posL l x := by
  induction l with
  | nil => cases h
  | cons a l ih =>
    rw [List.cons_append]
    unfold posL
    by_cases e : a = x
    · rw [if_pos e, if_pos e]
    · have hx : x ∈ l := by
        rcases List.mem_cons.1 h with rfl | h
        · exact absurd rfl e
        · exact h
      rw [if_neg e, if_neg e, ih hx]
theorem posL_snoc : ∀ {l : List Int} {x : Int}, x ∉ l → posL (l ++ [x]) x = l.length
  | [], x, _ => by simp [posL]
  | a :: l, x, h => by
    rw [List.cons_append]
    unfold posL
    have := posL_snoc (l := l) (x := x) fun q => h (List.mem_cons_of_mem _ q)
    rw [if_neg (fun e : a = x => h (by rw [e]; exact List.mem_cons_self)), this, if_neg (by omega)]
    simp
theorem posL_map {f : Int → Int} : ∀ {V : List Int} {x : Int}, x ∈ V → (∀ y ∈ V, f y = f x → y = x) → posL (V.map f) (f x) = posL V x
  | a :: l, x, h, hi => by
    rw [List.map_cons]
    unfold posL
    by_cases e : a = x
    · rw [if_pos e, if_pos (by rw [e])]
    · have hx : x ∈ l := by
        rcases List.mem_cons.1 h with rfl | h
        · exact absurd rfl e
        · exact h
      rw [if_neg e, if_neg (fun q => e (hi a List.mem_cons_self q)), posL_map hx fun y hy => hi y (List.mem_cons_of_mem _ hy)]
end Go.Proofs.Ytmebmpgffhajbaa


namespace Go.Proofs.Ytmebmpgffhajbaa
open Go.RowKit
set_option linter.unusedVariables false
set_option linter.unusedSimpArgs false

theorem ok_term_identical : FOk q0l (gTTb idT) := fok_cut (m := mT) q3a fun N ih => fok_term_identical ih fun ds outs hw hg => by
  obtain ⟨d, r, rfl, hd, e, r', rfl, he, rfl⟩ := hw
  obtain ⟨t, rfl, ht⟩ := wfT hd
  obtain ⟨u, rfl, hu⟩ := wfT he
  simp only [cutM, mT, gTTb, List.getD_cons_zero, dT_eT, int_i, Option.ite_none_right_eq_some, Option.some.injEq] at hg
  obtain ⟨hsz, rfl⟩ := hg
  have hl := ht.l
  have no : (¬ idT t u = true) → [D.b false] = [D.b (idT t u)] := fun h => by rw [Bool.eq_false_iff.2 h]
  simp only [q28, q00, go_br, q01, q02, allSay, X.says, X.ev, X.evs, evl, tblS, List.getD_cons_zero, List.getD_cons_succ, List.getElem?_cons_zero, List.getElem?_cons_succ, tt_b, int_i, str_s, rs_r, Option.isSome_some, Option.getD_some, decide_eq_true_eq, decide_eq_false_iff_not, dS_eS, dC_eC, dU_eU, dW_eW, dY_eY, eC_0, eC_1, eU_0, eU_1, eW_0, eW_1, eW_2, eY_0, eY_1, eS_0, eS_1, eS_2, eS_3, eS_4, eS_5, List.length_map, i_inj, b_inj, s_inj, eC_eq, eU_eq, eW_eq, eY_eq, eS_eq, rng64, List.take_succ_cons, List.take_zero, List.nil_append, List.cons_append, decide_true, decide_false, Bool.or_true, true_and, and_true, dT_eT, eT_0, eT_1, eT_2, eT_3, eT_eq, eT_z, gTTb]
  refine ⟨fun hn => no fun h => ?_, fun hn => ?_⟩
  · obtain ⟨e1, e2, e3, e4, -⟩ := same_iff.1 h
    simp [e1, e2, e3, e4] at hn
  simp only [Bool.or_eq_false_iff, Bool.not_eq_false', decide_eq_true_eq] at hn
  obtain ⟨⟨⟨e1, e2⟩, e3⟩, e4⟩ := hn
  have e4 : t.l.length = u.l.length := by omega
  rw [q1b]
  refine ⟨fun st => ∃ k : Nat, k ≤ t.l.length ∧ st = [.b false, .i k] ∧ ∀ j, j < k → idT (t.l.getD j default) (u.l.getD j default) = true, fun st => t.l.length - (st.getD 1 .u).int.toNat, ⟨0, Nat.zero_le _, rfl, fun j hj => absurd hj (Nat.not_lt_zero _)⟩, ?_⟩
  rintro st - ⟨k, hk, rfl, hP⟩
  rw [go_br]
  refine ⟨fun hlt => ?_, fun hlt => ?_⟩
  · simp only [q00, go_br, q01, q02, allSay, X.says, X.ev, X.evs, evl, tblS, List.getD_cons_zero, List.getD_cons_succ, List.getElem?_cons_zero, List.getElem?_cons_succ, tt_b, int_i, str_s, rs_r, Option.isSome_some, Option.getD_some, decide_eq_true_eq, decide_eq_false_iff_not, dS_eS, dC_eC, dU_eU, dW_eW, dY_eY, eC_0, eC_1, eU_0, eU_1, eW_0, eW_1, eW_2, eY_0, eY_1, eS_0, eS_1, eS_2, eS_3, eS_4, eS_5, List.length_map, i_inj, b_inj, s_inj, eC_eq, eU_eq, eW_eq, eY_eq, eS_eq, rng64, List.take_succ_cons, List.take_zero, List.nil_append, List.cons_append, decide_true, decide_false, Bool.or_true, true_and, and_true, dT_eT, eT_0, eT_1, eT_2, eT_3, eT_eq, eT_z] at hlt
    have hkl' : k < t.l.length := by omega
    have hku' : k < u.l.length := by omega
    have ha := arg_sz hkl'
    simp only [q00, go_br, q01, q02, allSay, X.says, X.ev, X.evs, evl, tblS, List.getD_cons_zero, List.getD_cons_succ, List.getElem?_cons_zero, List.getElem?_cons_succ, tt_b, int_i, str_s, rs_r, Option.isSome_some, Option.getD_some, decide_eq_true_eq, decide_eq_false_iff_not, dS_eS, dC_eC, dU_eU, dW_eW, dY_eY, eC_0, eC_1, eU_0, eU_1, eW_0, eW_1, eW_2, eY_0, eY_1, eS_0, eS_1, eS_2, eS_3, eS_4, eS_5, List.length_map, i_inj, b_inj, s_inj, eC_eq, eU_eq, eW_eq, eY_eq, eS_eq, rng64, List.take_succ_cons, List.take_zero, List.nil_append, List.cons_append, decide_true, decide_false, Bool.or_true, true_and, and_true, dT_eT, eT_0, eT_1, eT_2, eT_3, eT_eq, eT_z, get_t hkl', get_t hku', cutM, mT, gTTb, if_pos (show szT (t.l.getD k default) < N by omega)]
    refine ⟨⟨by omega, by omega⟩, ⟨by omega, by omega⟩, fun hx => no fun h => ?_, fun hx => ⟨⟨by omega, by omega⟩, ?_⟩⟩
    · rw [(same_iff.1 h).2.2.2.2 k hkl'] at hx
      cases hx
    · rw [updB, if_pos rfl]
      refine ⟨⟨k + 1, by omega, by simp, upto_succ hP (by simpa using hx)⟩, ?_⟩
      simp [D.int]
      omega
  · simp only [q00, go_br, q01, q02, allSay, X.says, X.ev, X.evs, evl, tblS, List.getD_cons_zero, List.getD_cons_succ, List.getElem?_cons_zero, List.getElem?_cons_succ, tt_b, int_i, str_s, rs_r, Option.isSome_some, Option.getD_some, decide_eq_true_eq, decide_eq_false_iff_not, dS_eS, dC_eC, dU_eU, dW_eW, dY_eY, eC_0, eC_1, eU_0, eU_1, eW_0, eW_1, eW_2, eY_0, eY_1, eS_0, eS_1, eS_2, eS_3, eS_4, eS_5, List.length_map, i_inj, b_inj, s_inj, eC_eq, eU_eq, eW_eq, eY_eq, eS_eq, rng64, List.take_succ_cons, List.take_zero, List.nil_append, List.cons_append, decide_true, decide_false, Bool.or_true, true_and, and_true, dT_eT, eT_0, eT_1, eT_2, eT_3, eT_eq, eT_z] at hlt ⊢
    have : k = t.l.length := by omega
    subst this
    rw [same_iff.2 ⟨e1, e2, e3, e4, hP⟩]
theorem varsTs_snoc {vs : List Int} {l : List Te} {k : Nat} (h : k < l.length) : varsTs vs (l.take (k + 1)) = varsT (varsTs vs (l.take k)) (l.getD k default) := by
  rw [take_snoc h, varsTs_app]
  rfl
theorem varsT_t (vs : List Int) (t : Te) : varsT vs t = varsTs (if t.k = 0 ∧ t.n ∉ vs then vs ++ [t.n] else vs) t.l := by cases t; rfl
theorem sz_take {l : List Te} {k : Nat} (hk : k < l.length) : szTs (l.take k) + szT (l.getD k default) ≤ szTs l := by
  have h2 := szTs_snoc hk
  have := szTs_app (l.take (k + 1)) (l.drop (k + 1))
  rw [List.take_append_drop] at this
  omega
theorem mapV_t (f : Int → Int) (t : Te) : mapV f t = .mk t.k (if t.k = 0 then f t.n else t.n) t.s (t.l.map (mapV f)) := by cases t; rw [mapV_mk]; rfl
end Go.Proofs.Ytmebmpgffhajbaa


namespace Go.Proofs.Ytmebmpgffhajbaa
end Go.Proofs.Ytmebmpgffhajbaa


namespace Go.Proofs.Ytmebmpgffhajbaa
open Go.RowKit
set_option linter.unusedVariables false
set_option linter.unusedSimpArgs false

def cellAt (s : So) (i : Int) : Ce := s.cs.getD i.toNat default
def inS (s : So) (i : Int) : Bool := decide (0 ≤ i) && decide (i < s.cs.length)
def tagS (s : So) (i : Int) : Int := if inS s i then (cellAt s i).t else -1
def arS (s : So) (n : Int) : Int := if 0 ≤ n ∧ n < s.ys.length then (s.ys.getD n.toNat default).ar else -1
def vcR (s : So) (c : Ce) : Bool := if c.t = 0 then inS s c.n && !decide (tagS s c.n = 4) else if c.t = 1 then true else if c.t = 2 then decide (arS s c.n = 0) else if c.t = 3 then decide (tagS s c.n = 4) else if c.t = 5 then decide (tagS s c.n = 5) else false
def vcP (s : So) (c : Ce) : Bool := if c.t = 0 then decide (0 ≤ tagS s c.n) && !decide (tagS s c.n = 4) else if c.t = 1 then true else if c.t = 2 then decide (arS s c.n = 0) else if c.t = 3 then decide (tagS s c.n = 4) else if c.t = 5 then decide (tagS s c.n = 5) else false
def groupS (s : So) (i : Int) : Bool := decide (tagS s (i + 1) = 1) && (decide (1 ≤ (cellAt s (i + 1)).n) && (decide ((cellAt s (i + 1)).n ≤ s.ser) && (decide (0 ≤ tagS s (i + 2)) && (!decide (tagS s (i + 2) = 4) && !decide (tagS s (i + 2) = 5)))))

def gSIi (f : So → Int → Int) : List D → Option (List D)
  | [s, i] => some [.i (f (dS s) i.int)]
  | _ => none
def gSIb (f : So → Int → Bool) : List D → Option (List D)
  | [s, i] => some [.b (f (dS s) i.int)]
  | _ => none
def gSIbP (q : So → Int → Bool) (f : So → Int → Bool) : List D → Option (List D)
  | [s, i] => if q (dS s) i.int then some [.b (f (dS s) i.int)] else none
  | _ => none
def gSCb (f : So → Ce → Bool) : List D → Option (List D)
  | [s, c] => some [.b (f (dS s) (dC c))]
  | _ => none
def gSUb (f : So → Un → Bool) : List D → Option (List D)
  | [s, c] => some [.b (f (dS s) (dU c))]
  | _ => none
def gSb (f : So → Bool) : List D → Option (List D)
  | [s] => some [.b (f (dS s))]
  | _ => none
def gSbP (q : So → Bool) (f : So → Bool) : List D → Option (List D)
  | [s] => if q (dS s) then some [.b (f (dS s))] else none
  | _ => none

theorem inS_iff {s : So} {i : Int} : inS s i = true ↔ 0 ≤ i ∧ i < s.cs.length := by simp [inS]
theorem cell_get {s : So} {i : Int} (h : inS s i = true) : (D.r (s.cs.map eC)).get i = eC (cellAt s i) := get_r eC (inS_iff.1 h).1 (inS_iff.1 h).2
theorem So.ok.cell {s : So} (hs : s.ok) {i : Int} (h : inS s i = true) : (cellAt s i).ok := hs.cs.2 _ (getD_mem (by have := inS_iff.1 h; omega))
theorem tagS_in {s : So} {i : Int} (h : inS s i = true) : tagS s i = (cellAt s i).t := if_pos h
theorem tagS_out {s : So} {i : Int} (h : inS s i = false) : tagS s i = -1 := if_neg (by rw [h]; decide)

theorem q23 : FOk q09 (gSIi tagS) := fok_cells_tag fun ds outs hw hg => by
  obtain ⟨d, r, rfl, hd, e, r', rfl, he, rfl⟩ := hw
  obtain ⟨s, rfl, hs⟩ := wfS hd
  obtain ⟨i, rfl, hi⟩ := wfI he
  simp only [gSIi, dS_eS, int_i, Option.some.injEq] at hg
  subst hg
  simp only [q2f, Tree.go, allSay, X.says, X.ev, X.evs, evl, tblS, List.getD_cons_zero, List.getD_cons_succ, List.getElem?_cons_zero, List.getElem?_cons_succ, tt_b, int_i, str_s, rs_r, Option.isSome_some, Option.getD_some, decide_eq_true_eq, decide_eq_false_iff_not, dS_eS, dC_eC, dU_eU, dW_eW, dY_eY, eC_0, eC_1, eU_0, eU_1, eW_0, eW_1, eW_2, eY_0, eY_1, eS_0, eS_1, eS_2, eS_3, eS_4, eS_5, List.length_map, i_inj, b_inj, s_inj, eC_eq, eU_eq, eW_eq, eY_eq, eS_eq, rng64, List.take_succ_cons, List.take_zero, List.nil_append, List.cons_append, decide_true, decide_false, Bool.or_true, true_and, and_true, true_and]
  cases h : inS s i with
  | false =>
    have h' : ¬ (0 ≤ i ∧ i < s.cs.length) := fun q => by rw [inS_iff.2 q] at h; cases h
    have h2 : i < 0 ∨ (s.cs.length : Int) ≤ i := by omega
    simp [tagS_out h]
    omega
  | true =>
    have h' := inS_iff.1 h
    have h1 : ¬ i < 0 := by omega
    have h2 : ¬ (s.cs.length : Int) ≤ i := by omega
    simp [cell_get h, eC_0, tagS_in h, h', h1, h2]
theorem ar_get {s : So} {i : Int} (h : 0 ≤ i ∧ i < s.ys.length) : (D.r (s.ys.map eY)).get i = eY (s.ys.getD i.toNat default) := get_r eY h.1 h.2
theorem q3n : FOk q0f (gSIi arS) := fok_cells_arity fun ds outs hw hg => by
  obtain ⟨d, r, rfl, hd, e, r', rfl, he, rfl⟩ := hw
  obtain ⟨s, rfl, hs⟩ := wfS hd
  obtain ⟨i, rfl, hi⟩ := wfI he
  simp only [gSIi, dS_eS, int_i, Option.some.injEq] at hg
  subst hg
  simp only [q24, Tree.go, allSay, X.says, X.ev, X.evs, evl, tblS, List.getD_cons_zero, List.getD_cons_succ, List.getElem?_cons_zero, List.getElem?_cons_succ, tt_b, int_i, str_s, rs_r, Option.isSome_some, Option.getD_some, decide_eq_true_eq, decide_eq_false_iff_not, dS_eS, dC_eC, dU_eU, dW_eW, dY_eY, eC_0, eC_1, eU_0, eU_1, eW_0, eW_1, eW_2, eY_0, eY_1, eS_0, eS_1, eS_2, eS_3, eS_4, eS_5, List.length_map, i_inj, b_inj, s_inj, eC_eq, eU_eq, eW_eq, eY_eq, eS_eq, rng64, List.take_succ_cons, List.take_zero, List.nil_append, List.cons_append, decide_true, decide_false, Bool.or_true, true_and, and_true, true_and]
  by_cases h : 0 ≤ i ∧ i < s.ys.length
  · have h1 : ¬ i < 0 := by omega
    have h2 : ¬ (s.ys.length : Int) ≤ i := by omega
    simp [ar_get h, eY_1, arS, h, h1, h2]
  · simp [arS, h]
theorem q1n : FOk q05 (gSCb vcP) := q3f q3n q23 fun ds outs hw hg => by
  obtain ⟨d, r, rfl, hd, e, r', rfl, he, rfl⟩ := hw
  obtain ⟨s, rfl, hs⟩ := wfS hd
  obtain ⟨c, rfl, hc⟩ := wfC he
  simp only [gSCb, dS_eS, dC_eC, Option.some.injEq] at hg
  subst hg
  simp only [q1y, Tree.go, allSay, X.says, X.ev, X.evs, evl, tblS, List.getD_cons_zero, List.getD_cons_succ, List.getElem?_cons_zero, List.getElem?_cons_succ, tt_b, int_i, str_s, rs_r, Option.isSome_some, Option.getD_some, decide_eq_true_eq, decide_eq_false_iff_not, dS_eS, dC_eC, dU_eU, dW_eW, dY_eY, eC_0, eC_1, eU_0, eU_1, eW_0, eW_1, eW_2, eY_0, eY_1, eS_0, eS_1, eS_2, eS_3, eS_4, eS_5, List.length_map, i_inj, b_inj, s_inj, eC_eq, eU_eq, eW_eq, eY_eq, eS_eq, rng64, List.take_succ_cons, List.take_zero, List.nil_append, List.cons_append, decide_true, decide_false, Bool.or_true, true_and, and_true, gSIi, vcP, true_and]
  by_cases h0 : c.t = 0
  · simp [h0]
  · by_cases h1 : c.t = 1
    · simp [h1]
    · by_cases h2 : c.t = 2
      · simp [h2]
      · by_cases h3 : c.t = 3
        · simp [h3]
        · by_cases h5 : c.t = 5
          · simp [h5]
          · simp [h0, h1, h2, h3, h5]
theorem tag_in {s : So} {i : Int} (h : tagS s i = 1) : inS s i = true := by
  cases hi : inS s i with
  | true => rfl
  | false => rw [tagS_out hi] at h; cases h
theorem ok_cells_group : FOk q0k (gSIbP inS groupS) := fok_cells_group q23 fun ds outs hw hg => by
  obtain ⟨d, r, rfl, hd, e, r', rfl, he, rfl⟩ := hw
  obtain ⟨s, rfl, hs⟩ := wfS hd
  obtain ⟨i, rfl, hi⟩ := wfI he
  simp only [gSIbP, dS_eS, int_i, Option.ite_none_right_eq_some, Option.some.injEq] at hg
  obtain ⟨hin, rfl⟩ := hg
  have h1 := inS_iff.1 hin
  have hl := hs.cs.1
  have r1 : i64 (i + 1) := ⟨by omega, by omega⟩
  have r2 : i64 (i + 2) := ⟨by omega, by omega⟩
  simp only [q26, Tree.go, allSay, X.says, X.ev, X.evs, evl, tblS, List.getD_cons_zero, List.getD_cons_succ, List.getElem?_cons_zero, List.getElem?_cons_succ, tt_b, int_i, str_s, rs_r, Option.isSome_some, Option.getD_some, decide_eq_true_eq, decide_eq_false_iff_not, dS_eS, dC_eC, dU_eU, dW_eW, dY_eY, eC_0, eC_1, eU_0, eU_1, eW_0, eW_1, eW_2, eY_0, eY_1, eS_0, eS_1, eS_2, eS_3, eS_4, eS_5, List.length_map, i_inj, b_inj, s_inj, eC_eq, eU_eq, eW_eq, eY_eq, eS_eq, rng64, List.take_succ_cons, List.take_zero, List.nil_append, List.cons_append, decide_true, decide_false, Bool.or_true, true_and, and_true, gSIi, true_and, groupS, r1, r2]
  by_cases ht : tagS s (i + 1) = 1
  · have h2 := tag_in ht
    have h3 := inS_iff.1 h2
    simp [ht, cell_get h2, eC_1, h3.1, h3.2, int_i, Bool.and_assoc, rng64, r1.1, r1.2]
  · simp [ht]
end Go.Proofs.Ytmebmpgffhajbaa


namespace Go.Proofs.Ytmebmpgffhajbaa
open Go.RowKit
set_option linter.unusedVariables false
set_option linter.unusedSimpArgs false

theorem mfind_mset {k k' v : D} : ∀ {l : List D}, mfind k (mset k' v l) = if k' = k then some v else mfind k l
  | [] => by simp [mset, mfind, D.fld, D.fs]
  | p :: l => by
    unfold mset
    split
    · rename_i h
      by_cases hk : k' = k
      · simp [mfind, D.fld, D.fs, hk]
      · have : ¬ (p.fld 0 = k) := fun e => hk (h.symm.trans e)
        simp [mfind, D.fld, D.fs, hk, this]
        intro e
        exact absurd e this
    · rename_i h
      unfold mfind
      by_cases hk : p.fld 0 = k
      · have : ¬ (k' = k) := fun e => h (hk.trans e.symm)
        simp [hk, this]
      · simp only [if_neg hk]
        exact mfind_mset

def okY (y : Sy) : Bool := decide (y.name.size ≤ 100) && (decide (0 ≤ y.ar) && decide (y.ar ≤ 8))
def symAt (l : List Sy) (k : Nat) : Bool := okY (l.getD k default) && !decide (l.getD k default ∈ l.take k)
def symsB (l : List Sy) : Bool := decide (l.length ≤ 1048576) && (List.range l.length).all (symAt l)
def gYsb (f : List Sy → Bool) : List D → Option (List D)
  | [l] => some [.b (f (l.rs.map dY))]
  | _ => none

def SeenY (x : D) (l : List Sy) (k : Nat) (L : List D) : Prop := ∀ y, mfind (eY y) L = if y ∈ l.take k then some x else none
theorem SeenY.nil {x : D} {l : List Sy} : SeenY x l 0 [] := fun y => by simp [mfind]
theorem SeenY.put {x : D} {l : List Sy} {k : Nat} {L : List D} (h : SeenY x l k L) (hk : k < l.length) : SeenY x l (k + 1) (mset (eY (l.getD k default)) x L) := fun y => by
  rw [mfind_mset, take_snoc hk, h y]
  generalize l.getD k default = z
  by_cases hy : y = z
  · subst hy; simp
  · have : ¬ (z = y) := fun e => hy e.symm
    simp [eY_eq, this, hy]

theorem ok_cells_validSymbols : FOk q0e (gYsb symsB) := q2o fun ds outs hw hg => by
  obtain ⟨d, r, rfl, hd, rfl⟩ := hw
  obtain ⟨l, rfl, hl, hok⟩ := wfYs hd
  simp only [gYsb, rs_r, map_id' dY_eY, Option.some.injEq] at hg
  subst hg
  simp only [q1s, Tree.go, allSay, X.says, X.ev, X.evs, evl, tblS, List.getD_cons_zero, List.getD_cons_succ, List.getElem?_cons_zero, List.getElem?_cons_succ, tt_b, int_i, str_s, rs_r, Option.isSome_some, Option.getD_some, decide_eq_true_eq, decide_eq_false_iff_not, dS_eS, dC_eC, dU_eU, dW_eW, dY_eY, eC_0, eC_1, eU_0, eU_1, eW_0, eW_1, eW_2, eY_0, eY_1, eS_0, eS_1, eS_2, eS_3, eS_4, eS_5, List.length_map, i_inj, b_inj, s_inj, eC_eq, eU_eq, eW_eq, eY_eq, eS_eq, rng64, List.take_succ_cons, List.take_zero, List.nil_append, List.cons_append, decide_true, decide_false, Bool.or_true, true_and, and_true, symsB]
  refine ⟨fun h => ?_, fun h => ?_⟩
  · have : ¬ (l.length ≤ 1048576) := by omega
    simp [this]
  · have h0 : l.length ≤ 1048576 := by omega
    refine ⟨fun st => ∃ (k : Nat) (L : List D), k ≤ l.length ∧ st = [.b false, .i k, .mp L] ∧ (∀ j, j < k → symAt l j = true) ∧ SeenY (.b true) l k L, fun st => l.length - (st.getD 1 .u).int.toNat, ⟨0, [], Nat.zero_le _, rfl, (fun j hj => absurd hj (Nat.not_lt_zero _)), SeenY.nil⟩, ?_⟩
    rintro st - ⟨k, L, hk, rfl, hP, hL⟩
    simp only [Tree.go, allSay, X.says, X.ev, X.evs, evl, tblS, List.getD_cons_zero, List.getD_cons_succ, List.getElem?_cons_zero, List.getElem?_cons_succ, tt_b, int_i, str_s, rs_r, Option.isSome_some, Option.getD_some, decide_eq_true_eq, decide_eq_false_iff_not, dS_eS, dC_eC, dU_eU, dW_eW, dY_eY, eC_0, eC_1, eU_0, eU_1, eW_0, eW_1, eW_2, eY_0, eY_1, eS_0, eS_1, eS_2, eS_3, eS_4, eS_5, List.length_map, i_inj, b_inj, s_inj, eC_eq, eU_eq, eW_eq, eY_eq, eS_eq, rng64, List.take_succ_cons, List.take_zero, List.nil_append, List.cons_append, decide_true, decide_false, Bool.or_true, true_and, and_true]
    refine ⟨fun hlt => ?_, fun hlt => ?_⟩
    · have hkl : k < l.length := by omega
      have hp : (0 : Int) ≤ k := by omega
      simp only [hlt, hp, get_n eY hkl, eY_0, eY_1, str_s, int_i, true_and, Bool.or_true, decide_true, and_true, Int.toNat_natCast, fnD, ms_mp, hL (l.getD k default)]
      have hr : i64 ((k : Int) + 1) := ⟨by omega, by omega⟩
      have e : ((if l.getD k default ∈ l.take k then some (D.b true) else none).getD (.b false)).tt = decide (l.getD k default ∈ l.take k) := by
        by_cases hm : l.getD k default ∈ l.take k
        · rw [if_pos hm, decide_eq_true hm]; rfl
        · rw [if_neg hm, decide_eq_false hm]; rfl
      rw [e]
      refine ⟨fun hb => ?_, fun hb => ⟨hr, ?_⟩⟩
      · have : symAt l k = false := by
          simp only [symAt, okY]
          generalize l.getD k default = z at hb ⊢
          by_cases hm : z ∈ l.take k
          · simp [hm]
          · simp [hm] at hb ⊢
            intro h1 h2
            omega
        rw [all_not hkl this]
        simp
      · have hs : symAt l k = true := by
          simp only [symAt, okY]
          generalize l.getD k default = z at hb ⊢
          by_cases hm : z ∈ l.take k
          · simp [hm] at hb
          · simp [hm] at hb ⊢
            omega
        rw [updB, if_pos rfl]
        refine ⟨⟨k + 1, _, hkl, ?_, upto_succ hP hs, hL.put hkl⟩, ?_⟩
        · simp
        · simp [D.int]
          omega
    · have : k = l.length := by omega
      subst this
      rw [all_yes hP]
      simp [h0]
end Go.Proofs.Ytmebmpgffhajbaa


namespace Go.Proofs.Ytmebmpgffhajbaa
open Go.RowKit
set_option linter.unusedVariables false
set_option linter.unusedSimpArgs false

theorem symsB_ar {s : So} (h : symsB s.ys = true) (n : Int) : -1 ≤ arS s n ∧ arS s n ≤ 8 := by
  unfold arS
  split
  · rename_i hn
    simp only [symsB, Bool.and_eq_true] at h
    have := all_of h.2 (k := n.toNat) (by omega)
    simp only [symAt, okY, Bool.and_eq_true, decide_eq_true_eq] at this
    omega
  · omega
def endsN (s : So) : Nat → Int → Bool
  | 0, _ => false
  | k + 1, n => if tagS s n = 0 ∧ ¬ (cellAt s n).n = n then endsN s k (cellAt s n).n else true
def endsB (s : So) (n : Int) : Bool := endsN s (s.cs.length + 1) n

theorem tag_in' {s : So} {i : Int} {t : Int} (ht : t ≠ -1) (h : tagS s i = t) : inS s i = true := by
  cases hi : inS s i with
  | true => rfl
  | false => rw [tagS_out hi] at h; exact absurd h.symm ht

def cellR (s : So) (i : Int) : Bool :=
  if (cellAt s i).t = 4 then decide (1 ≤ arS s (cellAt s i).n) && (inS s (i + arS s (cellAt s i).n) && (List.range (arS s (cellAt s i).n).toNat).all fun j => !decide (tagS s (i + ((j : Int) + 1)) = 4))
  else vcR s (cellAt s i) && (endsB s i && (!decide ((cellAt s i).t = 5) || (decide ((cellAt s i).n = i) && groupS s i)))
def cellQ (s : So) (i : Int) : Bool := inS s i && symsB s.ys

def fitsP (s : So) (i : Int) : Bool :=
  if (cellAt s i).t = 4 then decide (1 ≤ arS s (cellAt s i).n) && (List.range (arS s (cellAt s i).n).toNat).all fun j => decide (0 ≤ tagS s (i + ((j : Int) + 1))) && !decide (tagS s (i + ((j : Int) + 1)) = 4)
  else if (cellAt s i).t = 5 then decide ((cellAt s i).n = i) && groupS s i else vcP s (cellAt s i)
theorem ok_cells_fits : FOk q12 (gSIbP cellQ fitsP) := fok_cells_fits q3n q23 ok_cells_group q1n fun ds outs hw hg => by
  obtain ⟨d, r, rfl, hd, e, r', rfl, he, rfl⟩ := hw
  obtain ⟨s, rfl, hs⟩ := wfS hd
  obtain ⟨i, rfl, hi⟩ := wfI he
  simp only [gSIbP, dS_eS, int_i, Option.ite_none_right_eq_some, Option.some.injEq, cellQ, Bool.and_eq_true] at hg
  obtain ⟨⟨hin, hy⟩, rfl⟩ := hg
  have h1 := inS_iff.1 hin
  have hl := hs.cs.1
  obtain ⟨ha, hb⟩ := symsB_ar hy (cellAt s i).n
  simp only [q2b, Tree.go, allSay, X.says, X.ev, X.evs, evl, tblS, List.getD_cons_zero, List.getD_cons_succ, List.getElem?_cons_zero, List.getElem?_cons_succ, tt_b, int_i, str_s, rs_r, Option.isSome_some, Option.getD_some, decide_eq_true_eq, decide_eq_false_iff_not, dS_eS, dC_eC, dU_eU, dW_eW, dY_eY, eC_0, eC_1, eU_0, eU_1, eW_0, eW_1, eW_2, eY_0, eY_1, eS_0, eS_1, eS_2, eS_3, eS_4, eS_5, List.length_map, i_inj, b_inj, s_inj, eC_eq, eU_eq, eW_eq, eY_eq, eS_eq, rng64, List.take_succ_cons, List.take_zero, List.nil_append, List.cons_append, decide_true, decide_false, Bool.or_true, true_and, and_true, gSIi, gSIb, gSCb, gSIbP, cell_get hin, h1.1, h1.2, hin, if_true]
  unfold fitsP
  generalize arS s (cellAt s i).n = K at ha hb ⊢
  refine ⟨fun h4 => ?_, fun h4 => ?_⟩
  · have hr : i64 (i + K) := ⟨by omega, by omega⟩
    have hr1 : i64 (i + 1) := ⟨by omega, by omega⟩
    simp only [h4, hr, hr1, if_true]
    refine ⟨fun hx => ?_, fun hx => ⟨⟨trivial, trivial⟩, ?_⟩⟩
    · have : ¬ (1 ≤ K) := by omega
      simp [this]
    · have hk : 1 ≤ K := by omega
      simp only [hk]
      refine ⟨fun st => ∃ (j : Nat), (j : Int) ≤ K ∧ st = [.b false, .i (i + ((j : Int) + 1))] ∧ ∀ m : Nat, m < j → (decide (0 ≤ tagS s (i + ((m : Int) + 1))) && !decide (tagS s (i + ((m : Int) + 1)) = 4)) = true, fun st => (i + K + 1 - (st.getD 1 .u).int).toNat, ⟨0, by omega, by simp, fun m hm => absurd hm (Nat.not_lt_zero _)⟩, ?_⟩
      rintro st - ⟨j, hj, rfl, hP⟩
      simp only [Tree.go, allSay, X.says, X.ev, X.evs, evl, tblS, List.getD_cons_zero, List.getD_cons_succ, List.getElem?_cons_zero, List.getElem?_cons_succ, tt_b, int_i, str_s, rs_r, Option.isSome_some, Option.getD_some, decide_eq_true_eq, decide_eq_false_iff_not, dS_eS, dC_eC, dU_eU, dW_eW, dY_eY, eC_0, eC_1, eU_0, eU_1, eW_0, eW_1, eW_2, eY_0, eY_1, eS_0, eS_1, eS_2, eS_3, eS_4, eS_5, List.length_map, i_inj, b_inj, s_inj, eC_eq, eU_eq, eW_eq, eY_eq, eS_eq, rng64, List.take_succ_cons, List.take_zero, List.nil_append, List.cons_append, decide_true, decide_false, Bool.or_true, true_and, and_true, gSIi]
      refine ⟨fun hlt => ?_, fun hlt => ?_⟩
      · have hr3 : i64 ((i + ((j : Int) + 1)) + 1) := ⟨by omega, by omega⟩
        refine ⟨fun hx => ?_, fun hx => ⟨hr3, ?_⟩⟩
        · have hx' : tagS s (i + ((j : Int) + 1)) < 0 ∨ tagS s (i + ((j : Int) + 1)) = 4 := by simpa using hx
          rw [all_not (k := j) (by omega)]
          · simp
          · rcases hx' with h | h
            · have : ¬ (0 ≤ tagS s (i + ((j : Int) + 1))) := by omega
              simp [this]
            · simp [h]
        · have hx' : ¬ tagS s (i + ((j : Int) + 1)) < 0 ∧ ¬ tagS s (i + ((j : Int) + 1)) = 4 := by simpa using hx
          rw [updB, if_pos rfl]
          refine ⟨⟨j + 1, by omega, by simp; omega, upto_succ hP (by simp [hx'.2]; omega)⟩, ?_⟩
          simp [D.int]
          omega
      · have : j = K.toNat := by omega
        subst this
        rw [all_yes hP]
        simp
  · simp only [h4, if_false]
    refine ⟨fun hx => ?_, fun hx => ?_⟩
    · simp [hx]
    · simp [hx]

def oldB (vc : So → Ce → Bool) (rg : So → Int → Bool) (s : So) (u : Un) : Bool :=
  rg s u.at' && if u.old.t = 0 then decide (u.old.n = u.at') else if u.old.t = 5 then decide (u.old.n = u.at') && (groupS s u.at' && !decide (tagS s (u.at' - 1) = 5)) else if u.old.t = 1 ∨ u.old.t = 2 ∨ u.old.t = 3 then vc s u.old else false
def oldR : So → Un → Bool := oldB vcR inS
def oldP : So → Un → Bool := oldB vcP fun s i => decide (0 ≤ tagS s i)
theorem ok_cells_validUndo : FOk q0i (gSUb oldP) := q3h q23 ok_cells_group q1n fun ds outs hw hg => by
  obtain ⟨d, r, rfl, hd, e, r', rfl, he, rfl⟩ := hw
  obtain ⟨s, rfl, hs⟩ := wfS hd
  obtain ⟨u, rfl, hu⟩ := wfU he
  simp only [gSUb, dS_eS, dU_eU, Option.some.injEq] at hg
  subst hg
  have hl := hs.cs.1
  simp only [q1z, Tree.go, allSay, X.says, X.ev, X.evs, evl, tblS, List.getD_cons_zero, List.getD_cons_succ, List.getElem?_cons_zero, List.getElem?_cons_succ, tt_b, int_i, str_s, rs_r, Option.isSome_some, Option.getD_some, decide_eq_true_eq, decide_eq_false_iff_not, dS_eS, dC_eC, dU_eU, dW_eW, dY_eY, eC_0, eC_1, eU_0, eU_1, eW_0, eW_1, eW_2, eY_0, eY_1, eS_0, eS_1, eS_2, eS_3, eS_4, eS_5, List.length_map, i_inj, b_inj, s_inj, eC_eq, eU_eq, eW_eq, eY_eq, eS_eq, rng64, List.take_succ_cons, List.take_zero, List.nil_append, List.cons_append, decide_true, decide_false, Bool.or_true, true_and, and_true, gSIi, gSIb, gSCb, gSIbP, oldP, oldB]
  by_cases ht : 0 ≤ tagS s u.at'
  · have ht' : ¬ (tagS s u.at' < 0) := by omega
    have hin : inS s u.at' = true := by
      cases hin : inS s u.at' with
      | true => rfl
      | false => rw [tagS_out hin] at ht; omega
    have h1 := inS_iff.1 hin
    have hr : i64 (u.at' - 1) := ⟨by omega, by omega⟩
    simp only [hr, hin, ht, ht', if_true]
    by_cases h0 : u.old.t = 0
    · simp [h0]
    · by_cases h5 : u.old.t = 5
      · simp [h5, Bool.and_assoc, tt_b, rng64, hr.1, hr.2]
      · by_cases h2 : u.old.t = 1
        · simp [h2]
        · by_cases h3 : u.old.t = 2
          · simp [h3]
          · by_cases h4 : u.old.t = 3
            · simp [h4]
            · simp [h0, h5, h2, h3, h4]
  · have ht' : tagS s u.at' < 0 := by omega
    simp [ht, ht']
end Go.Proofs.Ytmebmpgffhajbaa


namespace Go.Proofs.Ytmebmpgffhajbaa
open Go.RowKit
set_option linter.unusedVariables false
set_option linter.unusedSimpArgs false

section
variable {s : So}

def Ns (s : So) (n : Int) : Prop := tagS s n = 0 ∧ ¬ (cellAt s n).n = n
abbrev nx (s : So) (n : Int) : Int := (cellAt s n).n
theorem endsN_ns {k : Nat} {n : Int} (h : Ns s n) : endsN s (k + 1) n = endsN s k (nx s n) := if_pos h
theorem endsN_st {k : Nat} {n : Int} (h : ¬ Ns s n) : endsN s (k + 1) n = true := if_neg h
theorem Ns.inS {n : Int} (h : Ns s n) : inS s n = true := tag_in' (by decide) h.1
theorem endsN_up {k : Nat} : ∀ {n : Int}, endsN s k n = true → endsN s (k + 1) n = true := by
  induction k with
  | zero => intro n h; cases h
  | succ k ih =>
    intro n h
    by_cases hn : Ns s n
    · rw [endsN_ns hn] at h ⊢
      exact ih h
    · exact endsN_st hn
theorem endsN_le {k j : Nat} (hk : k ≤ j) {n : Int} (h : endsN s k n = true) : endsN s j n = true := by
  obtain ⟨d, rfl⟩ := Nat.exists_eq_add_of_le hk
  clear hk
  induction d with
  | zero => exact h
  | succ d ih => exact endsN_up ih
def En (s : So) (n : Int) : Prop := ∃ k, endsN s k n = true
theorem En.st {n : Int} (h : ¬ Ns s n) : En s n := ⟨1, endsN_st h⟩
theorem En.ns {n : Int} (h : Ns s n) (he : En s (nx s n)) : En s n := let ⟨k, hk⟩ := he; ⟨k + 1, (endsN_ns h).trans hk⟩

theorem nodup_lt : ∀ (n : Nat) (l : List Nat), l.Nodup → (∀ x ∈ l, x < n) → l.length ≤ n
  | 0, [], _, _ => Nat.le_refl _
  | 0, x :: l, _, h => absurd (h x List.mem_cons_self) (Nat.not_lt_zero _)
  | n + 1, l, hn, h => by
    have h1 := nodup_lt n (l.erase n) (hn.erase n) fun x hx => by
      have h2 := (hn.mem_erase_iff).1 hx
      have := h x h2.2
      have := h2.1
      omega
    have h2 := List.length_erase (a := n) (l := l)
    split at h2 <;> omega

theorem rank_list : ∀ (k : Nat) (n : Int), endsN s (k + 1) n = true → endsN s k n = false → ∃ l : List Int, l.length = k ∧ l.Nodup ∧ (∀ x ∈ l, inS s x = true) ∧ ∀ x ∈ l, ∃ j, j ≤ k ∧ endsN s (j + 1) x = true
  | 0, n, _, _ => ⟨[], rfl, List.nodup_nil, (fun x hx => by cases hx), fun x hx => by cases hx⟩
  | k + 1, n, h1, h2 => by
    have hn : Ns s n := Classical.byContradiction fun hn => by rw [endsN_st hn] at h2; cases h2
    rw [endsN_ns hn] at h1 h2
    obtain ⟨l, e1, e2, e3, e4⟩ := rank_list k _ h1 h2
    refine ⟨n :: l, by simp [e1], ?_, fun x hx => ?_, fun x hx => ?_⟩
    · refine List.nodup_cons.2 ⟨fun hm => ?_, e2⟩
      obtain ⟨j, hj, he⟩ := e4 n hm
      rw [endsN_ns hn] at he
      rw [endsN_le hj he] at h2
      cases h2
    · rcases List.mem_cons.1 hx with rfl | hx
      · exact hn.inS
      · exact e3 x hx
    · rcases List.mem_cons.1 hx with rfl | hx
      · exact ⟨k + 1, Nat.le_refl _, by rw [endsN_ns hn]; exact h1⟩
      · obtain ⟨j, hj, he⟩ := e4 x hx
        exact ⟨j, by omega, he⟩
theorem En.ends {n : Int} (h : En s n) : endsB s n = true := by
  obtain ⟨k, hk⟩ := h
  induction k with
  | zero => cases hk
  | succ k ih =>
    cases hk' : endsN s k n with
    | true => exact ih hk'
    | false =>
      obtain ⟨l, e1, e2, e3, -⟩ := rank_list k n hk hk'
      have h1 := nodup_lt s.cs.length (l.map Int.toNat) ?_ ?_
      · rw [List.length_map, e1] at h1
        exact endsN_le (by omega) hk
      · refine List.Pairwise.map _ (fun a b h => h) ?_
        refine List.Pairwise.imp_of_mem (R := fun a b => a ≠ b) (fun {a b} ha hb hab e => hab ?_) e2
        have h1 := inS_iff.1 (e3 a ha)
        have h2 := inS_iff.1 (e3 b hb)
        omega
      · intro x hx
        obtain ⟨a, ha, rfl⟩ := List.mem_map.1 hx
        have h1 := inS_iff.1 (e3 a ha)
        omega

def Ch (s : So) : List Int → Int → Prop
  | [], _ => True
  | q :: l, a => Ns s q ∧ nx s q = l.headD a ∧ Ch s l a
theorem Ch.snoc : ∀ {l : List Int} {a b : Int}, Ch s l a → Ns s a → nx s a = b → Ch s (l ++ [a]) b
  | [], a, b, _, h1, h2 => ⟨h1, h2, trivial⟩
  | q :: l, a, b, ⟨g1, g2, g3⟩, h1, h2 => ⟨g1, by cases l <;> exact g2, Ch.snoc g3 h1 h2⟩
theorem Ch.en : ∀ {l : List Int} {a : Int}, Ch s l a → En s a → ∀ q ∈ l, En s q
  | [], a, _, _, q, hq => by cases hq
  | q :: l, a, ⟨g1, g2, g3⟩, he, x, hx => by
    have ih := Ch.en g3 he
    rcases List.mem_cons.1 hx with rfl | hx
    · refine En.ns g1 ?_
      rw [g2]
      cases l with
      | nil => exact he
      | cons y l => exact ih y List.mem_cons_self
    · exact ih x hx
theorem Ch.next : ∀ {l : List Int} {a : Int}, Ch s l a → ∀ q ∈ l, Ns s q ∧ (nx s q ∈ l ∨ nx s q = a)
  | [], a, _, q, hq => by cases hq
  | q :: l, a, ⟨g1, g2, g3⟩, x, hx => by
    rcases List.mem_cons.1 hx with rfl | hx
    · refine ⟨g1, ?_⟩
      rw [g2]
      cases l with
      | nil => exact .inr rfl
      | cons y l => exact .inl (by simp)
    · obtain ⟨h1, h2⟩ := Ch.next g3 x hx
      exact ⟨h1, h2.imp (List.mem_cons_of_mem _) id⟩
theorem closed_no {Q : List Int} (h : ∀ q ∈ Q, Ns s q ∧ nx s q ∈ Q) : ∀ (k : Nat) (q : Int), q ∈ Q → endsN s k q = false
  | 0, q, _ => rfl
  | k + 1, q, hq => by
    rw [endsN_ns (h q hq).1]
    exact closed_no h k _ (h q hq).2

def acyP (s : So) : Bool := (List.range s.cs.length).all fun i => endsB s (i : Nat)
def acyQ (s : So) : Bool := decide (s.cs.length ≤ 16777216) && (List.range s.cs.length).all fun i => !decide ((cellAt s (i : Nat)).t = 0) || inS s (cellAt s (i : Nat)).n

structure Mk0 (s : So) (m : List Int) : Prop where
  len : m.length = s.cs.length
  en : ∀ j : Nat, m.getD j 0 = 2 → En s j
theorem marks_get {m : List Int} {i : Int} (h0 : 0 ≤ i) (h : i < m.length) : (D.r (m.map D.i)).get i = .i (m.getD i.toNat 0) := by
  have : i.toNat < m.length := by omega
  simp [D.get, D.rs, List.getD_eq_getElem?_getD, this]
theorem marks_set {m : List Int} {k : Nat} {x : Int} : (m.map D.i).set k (.i x) = (m.set k x).map D.i := by simp
theorem getD_set {m : List Int} {k j : Nat} {x : Int} (hk : k < m.length) : (m.set k x).getD j 0 = if k = j then x else m.getD j 0 := by
  simp only [List.getD_eq_getElem?_getD, List.getElem?_set, hk]
  split <;> simp_all
end
end Go.Proofs.Ytmebmpgffhajbaa


namespace Go.Proofs.Ytmebmpgffhajbaa
open Go.RowKit
set_option linter.unusedVariables false
set_option linter.unusedSimpArgs false

def markT (P M : X) : Tree := .loop 16 8 [(.lit (.i 0)), M] (.br (.lt (.tok 8) (.len P)) (.need [(.le (.lit (.i 0)) (.tok 8)), (.lt (.tok 8) (.len P))] (.need [(.le (.lit (.i 0)) (.get P (.tok 8))), (.lt (.get P (.tok 8)) (.len (.tok 9)))] (.need [(.rng .i64 (.add (.tok 8) (.lit (.i 1))))] (.back 16 [(.add (.tok 8) (.lit (.i 1))), (.put (.tok 9) (.get P (.tok 8)) (.lit (.i 2)))])))) (.need [(.rng .i64 (.add (.tok 2) (.lit (.i 1))))] (.back 3 [(.tok 6), (.add (.tok 2) (.lit (.i 1))), (.tok 9)])))

theorem take_mem_snoc {l : List Int} {k : Nat} (h : k < l.length) (x : Int) : x ∈ l.take (k + 1) ↔ x ∈ l.take k ∨ x = l.getD k default := by
  rw [take_snoc h]
  simp

theorem mark_ok {S : Nat → List D → Option (List D)} {R : List D → Prop} {L : List D} {B : Nat → List D → Prop} {P M : X} {l m : List Int} {i : Nat} (hL : L.length = 8) (hP : ∀ e, P.ev (evl S (L ++ e)) = .r (l.map D.i)) (hM : M.ev (evl S L) = .r (m.map D.i))
    (h2 : L.getD 2 .u = .i i) (hi : i64 ((i : Int) + 1)) (hl : ∀ x ∈ l, 0 ≤ x ∧ x < m.length) (hll : l.length ≤ 16777216)
    (hB : ∀ f : List Int, f.length = m.length → (∀ j : Nat, j < m.length → f.getD j 0 = if (j : Int) ∈ l then 2 else m.getD j 0) → B 3 [L.getD 6 .u, .i ((i : Int) + 1), .r (f.map D.i)]) : (markT P M).go S R L B := by
  unfold markT
  rw [q1b]
  have hM' : (evl S L) = ⟨fun k => L.getD k .u, S⟩ := rfl
  refine ⟨fun st => ∃ (k : Nat) (f : List Int), k ≤ l.length ∧ st = [.i k, .r (f.map D.i)] ∧ f.length = m.length ∧ ∀ j : Nat, j < m.length → f.getD j 0 = if (j : Int) ∈ l.take k then 2 else m.getD j 0, fun st => l.length - (st.getD 0 .u).int.toNat, ⟨0, m, Nat.zero_le _, by simp [X.evs, X.ev, hM], rfl, fun j _ => by simp⟩, ?_⟩
  rintro st - ⟨k, f, hk, rfl, hfl, hf⟩
  rw [List.take_of_length_le (by omega)]
  have t : ∀ j, j < 8 → (L ++ [D.i k, D.r (f.map D.i)]).getD j .u = L.getD j .u := fun j hj => by
    simp only [List.getD_eq_getElem?_getD]
    rw [List.getElem?_append_left (by omega)]
  have t8 : (L ++ [D.i k, D.r (f.map D.i)]).getD 8 .u = .i k := by
    simp only [List.getD_eq_getElem?_getD]
    rw [List.getElem?_append_right (by omega), hL]
    rfl
  have t9 : (L ++ [D.i k, D.r (f.map D.i)]).getD 9 .u = .r (f.map D.i) := by
    simp only [List.getD_eq_getElem?_getD]
    rw [List.getElem?_append_right (by omega), hL]
    rfl
  have hP' := hP [D.i k, D.r (f.map D.i)]
  have e2 : (L ++ [D.i k, D.r (f.map D.i)]).getD 2 .u = .i i := (t 2 (by omega)).trans h2
  have e6 := t 6 (by omega)
  generalize hg : evl S (L ++ [D.i k, D.r (f.map D.i)]) = g at hP'
  have hE : ∀ n, g.E n = (L ++ [D.i k, D.r (f.map D.i)]).getD n .u := fun n => by rw [← hg]; rfl
  simp only [q00, go_br, q02, allSay, X.says, hg, X.evs, X.ev, hP', hE, t8, t9, e2, e6, int_i, rs_r, tt_b, List.length_map, decide_eq_true_eq, decide_eq_false_iff_not, and_true]
  refine ⟨fun hlt => ?_, fun hlt => ?_⟩
  · have hkl : k < l.length := by omega
    have hm := getD_mem hkl
    have hr := hl _ hm
    have hget : (D.r (l.map D.i)).get (k : Int) = .i (l.getD k default) := get_n D.i hkl
    rw [hget]
    generalize hx : l.getD k default = x at hm hr
    simp only [int_i]
    refine ⟨⟨by omega, hlt⟩, ⟨hr.1, by omega⟩, rng64.2 ⟨by omega, by omega⟩, ?_⟩
    rw [updB, if_pos rfl]
    refine ⟨⟨k + 1, f.set x.toNat 2, hkl, by simp, by simp [hfl], fun j hj => ?_⟩, ?_⟩
    · rw [getD_set (by omega), hf j hj]
      by_cases hjx : x.toNat = j
      · have : (j : Int) ∈ l.take (k + 1) := (take_mem_snoc hkl _).2 (.inr (by omega))
        rw [if_pos hjx, if_pos this]
      · rw [if_neg hjx]
        by_cases hm2 : (j : Int) ∈ l.take k
        · rw [if_pos hm2, if_pos ((take_mem_snoc hkl _).2 (.inl hm2))]
        · rw [if_neg hm2, if_neg fun h => ?_]
          rcases (take_mem_snoc hkl _).1 h with h | h
          · exact hm2 h
          · omega
    · simp [D.int]
      omega
  · have : k = l.length := by omega
    subst this
    refine ⟨rng64.2 hi, ?_⟩
    rw [updB, if_neg (by decide)]
    rw [List.take_length] at hf
    exact hB f hfl hf

instance {s : So} {n : Int} : Decidable (Ns s n) := inferInstanceAs (Decidable (_ ∧ _))

theorem ok_cells_acyclic : FOk q0o (gSbP acyQ acyP) := fok_cells_acyclic fun ds outs hw hg => by
  obtain ⟨d, r, rfl, hd, rfl⟩ := hw
  obtain ⟨s, rfl, hs⟩ := wfS hd
  simp only [gSbP, dS_eS, Option.ite_none_right_eq_some, Option.some.injEq, acyQ, Bool.and_eq_true, decide_eq_true_eq] at hg
  obtain ⟨⟨hlen, hrf⟩, rfl⟩ := hg
  have hrange : ∀ n : Int, Ns s n → inS s (nx s n) = true := fun n hn => by
    have h1 := inS_iff.1 hn.inS
    have h2 := all_of hrf (k := n.toNat) (by omega)
    have e : ((n.toNat : Nat) : Int) = n := by omega
    have h0 : (cellAt s n).t = 0 := by rw [← tagS_in hn.inS]; exact hn.1
    rw [e] at h2
    simpa [h0] using h2
  rw [q20, q00]
  refine ⟨by simp only [q00, go_br, q01, q02, allSay, X.says, X.ev, X.evs, evl, tblS, List.getD_cons_zero, List.getD_cons_succ, List.getElem?_cons_zero, List.getElem?_cons_succ, tt_b, int_i, str_s, rs_r, Option.isSome_some, Option.getD_some, decide_eq_true_eq, decide_eq_false_iff_not, dS_eS, dC_eC, dU_eU, dW_eW, dY_eY, eC_0, eC_1, eU_0, eU_1, eW_0, eW_1, eW_2, eY_0, eY_1, eS_0, eS_1, eS_2, eS_3, eS_4, eS_5, List.length_map, i_inj, b_inj, s_inj, eC_eq, eU_eq, eW_eq, eY_eq, eS_eq, rng64, List.take_succ_cons, List.take_zero, List.nil_append, List.cons_append, decide_true, decide_false, Bool.or_true, true_and, and_true]; omega, ?_⟩
  rw [q1b]
  refine ⟨fun st => ∃ (i : Nat) (m : List Int), i ≤ s.cs.length ∧ st = [.b false, .i i, .r (m.map D.i)] ∧ Mk0 s m ∧ (∀ j : Nat, j < s.cs.length → m.getD j 0 = 0 ∨ m.getD j 0 = 2) ∧ ∀ j : Nat, j < i → En s j, fun st => s.cs.length - (st.getD 1 .u).int.toNat,
    ⟨0, List.replicate s.cs.length 0, Nat.zero_le _, by simp [X.evs, X.ev, evl, eS_0, D.int, D.rs], ⟨by simp, fun j hj => ?_⟩, fun j hj => ?_, fun j hj => absurd hj (Nat.not_lt_zero _)⟩, ?_⟩
  · exfalso
    simp only [List.getD_eq_getElem?_getD, List.getElem?_replicate] at hj
    split at hj <;> simp at hj
  · left
    simp [List.getD_eq_getElem?_getD, List.getElem?_replicate, hj]
  rintro st - ⟨i, m, hi, rfl, hm, hm02, hdone⟩
  rw [go_br]
  refine ⟨fun hlt => ?_, fun hlt => ?_⟩
  · have hil : i < s.cs.length := by simpa [X.ev, evl, eS_0, D.int, D.rs, D.tt] using hlt
    rw [q1b]
    refine ⟨fun st => ∃ (l : List Int) (a : Int) (f : List Int), st = [.r (l.map D.i), .i a, .b false, .r (f.map D.i)] ∧ inS s a = true ∧ f.length = s.cs.length ∧ Ch s l a ∧ l.headD a = (i : Int) ∧ (∀ x ∈ l, inS s x = true) ∧ l.length ≤ s.cs.length - f.count 0 ∧ ¬ f.getD a.toNat 0 = 1 ∧
      ∀ j : Nat, j < s.cs.length → f.getD j 0 = if (j : Int) ∈ l then 1 else m.getD j 0, fun st => ((st.getD 3 .u).rs.map D.int).count 0, ⟨[], i, m, by simp [X.evs, X.ev, evl], inS_iff.2 ⟨by omega, by omega⟩, hm.len, trivial, rfl, (fun x hx => by cases hx), Nat.zero_le _, ?_, fun j hj => by simp⟩, ?_⟩
    · have := hm02 i hil
      simp only [Int.toNat_natCast]
      omega
    rintro st - ⟨l, a, f, rfl, hin, hfl, hch, hhd, hl, hll, hna, hf⟩
    have ha := inS_iff.1 hin
    have hfa : (f.getD a.toNat 0) = if a ∈ l then 1 else m.getD a.toNat 0 := by
      have := hf a.toNat (by omega)
      rwa [show ((a.toNat : Nat) : Int) = a by omega] at this
    have hal : a ∉ l := fun h => hna (by rw [hfa, if_pos h])
    rw [if_neg hal] at hfa
    have hmark : (D.r (f.map D.i)).get a = .i (f.getD a.toNat 0) := marks_get ha.1 (by omega)
    rw [q00]
    refine ⟨by simp only [q00, go_br, q01, q02, allSay, X.says, X.ev, X.evs, evl, tblS, List.getD_cons_zero, List.getD_cons_succ, List.getElem?_cons_zero, List.getElem?_cons_succ, tt_b, int_i, str_s, rs_r, Option.isSome_some, Option.getD_some, decide_eq_true_eq, decide_eq_false_iff_not, dS_eS, dC_eC, dU_eU, dW_eW, dY_eY, eC_0, eC_1, eU_0, eU_1, eW_0, eW_1, eW_2, eY_0, eY_1, eS_0, eS_1, eS_2, eS_3, eS_4, eS_5, List.length_map, i_inj, b_inj, s_inj, eC_eq, eU_eq, eW_eq, eY_eq, eS_eq, rng64, List.take_succ_cons, List.take_zero, List.nil_append, List.cons_append, decide_true, decide_false, Bool.or_true, true_and, and_true]; omega, ?_⟩
    rw [go_br]
    -- what the marks are when a path is done
    have finish : ∀ (p : List Int), (∀ x ∈ p, inS s x = true) → (∀ x ∈ p, En s x) → En s i → (∀ x ∈ l, x ∈ p) → ∀ (f' : List Int), f'.length = s.cs.length → (∀ j : Nat, j < s.cs.length → f'.getD j 0 = if (j : Int) ∈ p then 2 else m.getD j 0) →
        updB (fun x x_1 => False) 3 (fun st' => (∃ (i : Nat) (m : List Int), i ≤ s.cs.length ∧ st' = [.b false, .i i, .r (m.map D.i)] ∧ Mk0 s m ∧ (∀ j : Nat, j < s.cs.length → m.getD j 0 = 0 ∨ m.getD j 0 = 2) ∧ ∀ j : Nat, j < i → En s j) ∧ s.cs.length - (st'.getD 1 .u).int.toNat < s.cs.length - (([D.b false, D.i i, D.r (m.map D.i)] : List D).getD 1 .u).int.toNat) 3 [.b false, .i ((i : Int) + 1), .r (f'.map D.i)] := by
      intro p hp1 hp2 hei hlp f' hf1 hf2
      rw [updB, if_pos rfl]
      refine ⟨⟨i + 1, f', hil, by simp, ⟨hf1, fun j hj => ?_⟩, fun j hj => ?_, fun j hj => ?_⟩, ?_⟩
      · by_cases hjl : j < s.cs.length
        · rw [hf2 j hjl] at hj
          split at hj
          · rename_i hjp; exact hp2 _ hjp
          · exact hm.en j hj
        · rw [List.getD_eq_getElem?_getD, List.getElem?_eq_none (by omega)] at hj
          cases hj
      · rw [hf2 j hj]
        split
        · exact .inr rfl
        · exact hm02 j hj
      · rcases Nat.lt_succ_iff_lt_or_eq.1 hj with h | h
        · exact hdone j h
        · rw [h]; exact hei
      · simp [D.int]
        omega
    have hend : En s a → En s i := fun he => by
      cases l with
      | nil => rw [← hhd]; exact he
      | cons y l => rw [← hhd]; exact hch.en he y List.mem_cons_self
    refine ⟨fun hz => ?_, fun hz => ?_⟩
    · -- an unknown cell
      have hz' : f.getD a.toNat 0 = 0 := by
        simp only [q00, go_br, q01, q02, allSay, X.says, X.ev, X.evs, evl, tblS, List.getD_cons_zero, List.getD_cons_succ, List.getElem?_cons_zero, List.getElem?_cons_succ, tt_b, int_i, str_s, rs_r, Option.isSome_some, Option.getD_some, decide_eq_true_eq, decide_eq_false_iff_not, dS_eS, dC_eC, dU_eU, dW_eW, dY_eY, eC_0, eC_1, eU_0, eU_1, eW_0, eW_1, eW_2, eY_0, eY_1, eS_0, eS_1, eS_2, eS_3, eS_4, eS_5, List.length_map, i_inj, b_inj, s_inj, eC_eq, eU_eq, eW_eq, eY_eq, eS_eq, rng64, List.take_succ_cons, List.take_zero, List.nil_append, List.cons_append, decide_true, decide_false, Bool.or_true, true_and, and_true, hmark] at hz
        exact hz
      have hc0 : 0 < f.count 0 := List.count_pos_iff.2 (by
        rw [List.getD_eq_getElem?_getD, List.getElem?_eq_getElem (by omega)] at hz'
        have : f[a.toNat] = 0 := hz'
        exact List.mem_iff_getElem.2 ⟨a.toNat, by omega, this⟩)
      have hcl : f.count 0 ≤ f.length := List.count_le_length
      have hset : (f.set a.toNat 1).count 0 = f.count 0 - 1 := by
        rw [List.count_set (by omega)]
        have : f[a.toNat]'(by omega) = 0 := by
          rw [List.getD_eq_getElem?_getD, List.getElem?_eq_getElem (by omega)] at hz'
          exact hz'
        simp [this]
      rw [q00, q00, q00]
      refine ⟨by simp only [q00, go_br, q01, q02, allSay, X.says, X.ev, X.evs, evl, tblS, List.getD_cons_zero, List.getD_cons_succ, List.getElem?_cons_zero, List.getElem?_cons_succ, tt_b, int_i, str_s, rs_r, Option.isSome_some, Option.getD_some, decide_eq_true_eq, decide_eq_false_iff_not, dS_eS, dC_eC, dU_eU, dW_eW, dY_eY, eC_0, eC_1, eU_0, eU_1, eW_0, eW_1, eW_2, eY_0, eY_1, eS_0, eS_1, eS_2, eS_3, eS_4, eS_5, List.length_map, i_inj, b_inj, s_inj, eC_eq, eU_eq, eW_eq, eY_eq, eS_eq, rng64, List.take_succ_cons, List.take_zero, List.nil_append, List.cons_append, decide_true, decide_false, Bool.or_true, true_and, and_true]; omega, by simp only [q00, go_br, q01, q02, allSay, X.says, X.ev, X.evs, evl, tblS, List.getD_cons_zero, List.getD_cons_succ, List.getElem?_cons_zero, List.getElem?_cons_succ, tt_b, int_i, str_s, rs_r, Option.isSome_some, Option.getD_some, decide_eq_true_eq, decide_eq_false_iff_not, dS_eS, dC_eC, dU_eU, dW_eW, dY_eY, eC_0, eC_1, eU_0, eU_1, eW_0, eW_1, eW_2, eY_0, eY_1, eS_0, eS_1, eS_2, eS_3, eS_4, eS_5, List.length_map, i_inj, b_inj, s_inj, eC_eq, eU_eq, eW_eq, eY_eq, eS_eq, rng64, List.take_succ_cons, List.take_zero, List.nil_append, List.cons_append, decide_true, decide_false, Bool.or_true, true_and, and_true]; omega, by simp only [q00, go_br, q01, q02, allSay, X.says, X.ev, X.evs, evl, tblS, List.getD_cons_zero, List.getD_cons_succ, List.getElem?_cons_zero, List.getElem?_cons_succ, tt_b, int_i, str_s, rs_r, Option.isSome_some, Option.getD_some, decide_eq_true_eq, decide_eq_false_iff_not, dS_eS, dC_eC, dU_eU, dW_eW, dY_eY, eC_0, eC_1, eU_0, eU_1, eW_0, eW_1, eW_2, eY_0, eY_1, eS_0, eS_1, eS_2, eS_3, eS_4, eS_5, List.length_map, i_inj, b_inj, s_inj, eC_eq, eU_eq, eW_eq, eY_eq, eS_eq, rng64, List.take_succ_cons, List.take_zero, List.nil_append, List.cons_append, decide_true, decide_false, Bool.or_true, true_and, and_true]; omega, ?_⟩
      rw [go_br]
      have hcond : (X.ev (evl (tblS []) ([eS s, D.b false, D.i i, D.r (m.map D.i)] ++ [D.r (l.map D.i), D.i a, D.b false, D.r (f.map D.i)])) ((.or (.not (.eq (.fld (.get (.fld (.tok 0) 0) (.tok 5)) 0) (.lit (.i 0)))) (.eq (.fld (.get (.fld (.tok 0) 0) (.tok 5)) 1) (.tok 5))))).tt = !decide (Ns s a) := by
        simp only [q00, go_br, q01, q02, allSay, X.says, X.ev, X.evs, evl, tblS, List.getD_cons_zero, List.getD_cons_succ, List.getElem?_cons_zero, List.getElem?_cons_succ, tt_b, int_i, str_s, rs_r, Option.isSome_some, Option.getD_some, decide_eq_true_eq, decide_eq_false_iff_not, dS_eS, dC_eC, dU_eU, dW_eW, dY_eY, eC_0, eC_1, eU_0, eU_1, eW_0, eW_1, eW_2, eY_0, eY_1, eS_0, eS_1, eS_2, eS_3, eS_4, eS_5, List.length_map, i_inj, b_inj, s_inj, eC_eq, eU_eq, eW_eq, eY_eq, eS_eq, rng64, List.take_succ_cons, List.take_zero, List.nil_append, List.cons_append, decide_true, decide_false, Bool.or_true, true_and, and_true, cell_get hin, Ns, tagS_in hin]
        by_cases h0 : (cellAt s a).t = 0 <;> simp [h0]
      refine ⟨fun hst => ?_, fun hst => ?_⟩
      · have hns : ¬ Ns s a := by
          have := hcond.symm.trans hst
          simpa using this
        have hea := En.st hns
        refine mark_ok (P := .app (.tok 4) (.row [.tok 5])) (l := l ++ [a]) (m := f.set a.toNat 1) (i := i) rfl (fun e => by simp [X.ev, X.evs, evl, D.rs]) (by simp [X.ev, evl, D.rs, D.int]) rfl ⟨by omega, by omega⟩ (fun x hx => ?_) (by simp; omega) fun f' hf1 hf2 => ?_
        · rcases List.mem_append.1 hx with hx | hx
          · have := inS_iff.1 (hl x hx); simp; omega
          · obtain rfl : x = a := by simpa using hx
            simp; omega
        · refine finish (l ++ [a]) (fun x hx => ?_) (fun x hx => ?_) (hend hea) (fun x hx => List.mem_append_left _ hx) f' (by simpa [hfl] using hf1) fun j hj => ?_
          · rcases List.mem_append.1 hx with hx | hx
            · exact hl x hx
            · obtain rfl : x = a := by simpa using hx
              exact hin
          · rcases List.mem_append.1 hx with hx | hx
            · exact hch.en hea x hx
            · obtain rfl : x = a := by simpa using hx
              exact hea
          · rw [hf2 j (by simp; omega)]
            by_cases hjm : (j : Int) ∈ l ++ [a]
            · rw [if_pos hjm, if_pos hjm]
            · rw [if_neg hjm, if_neg hjm, getD_set (by omega), if_neg, hf j hj, if_neg fun h => hjm (List.mem_append_left _ h)]
              intro e
              exact hjm (List.mem_append_right _ (by simp; omega))
      · have hns : Ns s a := by
          have := hcond.symm.trans hst
          simpa using this
        have hin2 : inS s (cellAt s a).n = true := hrange a hns
        have hb := inS_iff.1 hin2
        have hgb : (D.r ((f.set a.toNat 1).map D.i)).get ((cellAt s a).n) = .i ((f.set a.toNat 1).getD ((cellAt s a).n).toNat 0) := marks_get hb.1 (by simp; omega)
        have hput : D.r ((f.map D.i).set a.toNat (.i 1)) = D.r ((f.set a.toNat 1).map D.i) := by rw [marks_set]
        rw [q00]
        refine ⟨by simp only [q00, go_br, q01, q02, allSay, X.says, X.ev, X.evs, evl, tblS, List.getD_cons_zero, List.getD_cons_succ, List.getElem?_cons_zero, List.getElem?_cons_succ, tt_b, int_i, str_s, rs_r, Option.isSome_some, Option.getD_some, decide_eq_true_eq, decide_eq_false_iff_not, dS_eS, dC_eC, dU_eU, dW_eW, dY_eY, eC_0, eC_1, eU_0, eU_1, eW_0, eW_1, eW_2, eY_0, eY_1, eS_0, eS_1, eS_2, eS_3, eS_4, eS_5, List.length_map, i_inj, b_inj, s_inj, eC_eq, eU_eq, eW_eq, eY_eq, eS_eq, rng64, List.take_succ_cons, List.take_zero, List.nil_append, List.cons_append, decide_true, decide_false, Bool.or_true, true_and, and_true, cell_get hin, List.length_set]; omega, ?_⟩
        rw [go_br]
        simp only [q00, go_br, q01, q02, allSay, X.says, X.ev, X.evs, evl, tblS, List.getD_cons_zero, List.getD_cons_succ, List.getElem?_cons_zero, List.getElem?_cons_succ, tt_b, int_i, str_s, rs_r, Option.isSome_some, Option.getD_some, decide_eq_true_eq, decide_eq_false_iff_not, dS_eS, dC_eC, dU_eU, dW_eW, dY_eY, eC_0, eC_1, eU_0, eU_1, eW_0, eW_1, eW_2, eY_0, eY_1, eS_0, eS_1, eS_2, eS_3, eS_4, eS_5, List.length_map, i_inj, b_inj, s_inj, eC_eq, eU_eq, eW_eq, eY_eq, eS_eq, rng64, List.take_succ_cons, List.take_zero, List.nil_append, List.cons_append, decide_true, decide_false, Bool.or_true, true_and, and_true, cell_get hin, hput, hgb]
        have hf' : ∀ j : Nat, j < s.cs.length → (f.set a.toNat 1).getD j 0 = if (j : Int) ∈ l ++ [a] then 1 else m.getD j 0 := fun j hj => by
          rw [getD_set (by omega), hf j hj]
          by_cases hja : a.toNat = j
          · rw [if_pos hja, if_pos (List.mem_append_right _ (by simp; omega))]
          · rw [if_neg hja]
            by_cases hjl : (j : Int) ∈ l
            · rw [if_pos hjl, if_pos (List.mem_append_left _ hjl)]
            · rw [if_neg hjl, if_neg fun h => ?_]
              rcases List.mem_append.1 h with h | h
              · exact hjl h
              · simp at h; omega
        refine ⟨fun hact => ?_, fun hact => ?_⟩
        · have hmem : (cellAt s a).n ∈ l ++ [a] := by
            rw [hf' _ (by omega), show ((((cellAt s a).n).toNat : Nat) : Int) = (cellAt s a).n by omega] at hact
            split at hact
            · assumption
            · have := hm02 ((cellAt s a).n).toNat (by omega)
              omega
          have hcl := closed_no (s := s) (Q := l ++ [a]) fun q hq => by
            rcases List.mem_append.1 hq with hq | hq
            · obtain ⟨g1, g2⟩ := hch.next q hq
              refine ⟨g1, g2.elim (List.mem_append_left _) fun e => List.mem_append_right _ (by simp [e])⟩
            · obtain rfl : q = a := by simpa using hq
              exact ⟨hns, hmem⟩
          have : acyP s = false := all_not hil (hcl _ _ (by
            rw [← hhd]
            cases l <;> simp))
          rw [this]
        · rw [updB, if_pos rfl]
          refine ⟨⟨l ++ [a], (cellAt s a).n, f.set a.toNat 1, by simp, hin2, by simp [hfl], hch.snoc hns rfl, by cases l <;> simpa using hhd, fun x hx => ?_, ?_, hact, hf'⟩, ?_⟩
          · rcases List.mem_append.1 hx with hx | hx
            · exact hl x hx
            · obtain rfl : x = a := by simpa using hx
              exact hin
          · rw [hset]
            simp
            omega
          · show List.count 0 (((f.set a.toNat 1).map D.i).map D.int) < List.count 0 ((f.map D.i).map D.int)
            rw [map_id' int_i, map_id' int_i, hset]
            omega
    · -- a cell that is done
      have hz' : ¬ f.getD a.toNat 0 = 0 := by
        simp only [q00, go_br, q01, q02, allSay, X.says, X.ev, X.evs, evl, tblS, List.getD_cons_zero, List.getD_cons_succ, List.getElem?_cons_zero, List.getElem?_cons_succ, tt_b, int_i, str_s, rs_r, Option.isSome_some, Option.getD_some, decide_eq_true_eq, decide_eq_false_iff_not, dS_eS, dC_eC, dU_eU, dW_eW, dY_eY, eC_0, eC_1, eU_0, eU_1, eW_0, eW_1, eW_2, eY_0, eY_1, eS_0, eS_1, eS_2, eS_3, eS_4, eS_5, List.length_map, i_inj, b_inj, s_inj, eC_eq, eU_eq, eW_eq, eY_eq, eS_eq, rng64, List.take_succ_cons, List.take_zero, List.nil_append, List.cons_append, decide_true, decide_false, Bool.or_true, true_and, and_true, hmark] at hz
        exact hz
      have hea : En s a := by
        have h2 : m.getD a.toNat 0 = 2 := by
          have := hm02 a.toNat (by omega)
          omega
        have := hm.en _ h2
        rwa [show ((a.toNat : Nat) : Int) = a by omega] at this
      refine mark_ok (P := .tok 4) (l := l) (m := f) (i := i) rfl (fun e => by simp [X.ev, evl]) (by simp [X.ev, evl]) rfl ⟨by omega, by omega⟩ (fun x hx => ?_) (by omega) fun f' hf1 hf2 => ?_
      · have := inS_iff.1 (hl x hx); omega
      · refine finish l hl (hch.en hea) (hend hea) (fun x hx => hx) f' (by omega) fun j hj => ?_
        rw [hf2 j (by omega)]
        by_cases hjm : (j : Int) ∈ l
        · rw [if_pos hjm, if_pos hjm]
        · rw [if_neg hjm, if_neg hjm, hf j hj, if_neg hjm]
  · have : i = s.cs.length := by
      have : ¬ (i < s.cs.length) := by simpa [X.ev, evl, eS_0, D.int, D.rs, D.tt] using hlt
      omega
    subst this
    have : acyP s = true := all_yes fun j hj => (hdone j hj).ends
    rw [this]
    rfl
end Go.Proofs.Ytmebmpgffhajbaa


namespace Go.Proofs.Ytmebmpgffhajbaa
open Go.RowKit
set_option linter.unusedVariables false
set_option linter.unusedSimpArgs false

theorem scan_ok {S : Nat → List D → Option (List D)} {R : List D → Prop} {id n : Nat} {x0 : X} {body : Tree} {l : List D} {B : Nat → List D → Prop} {v0 : D} (N : Nat) (P : Nat → Bool) (h0 : x0.ev (evl S l) = v0)
    (h : ∀ (k : Nat) (B' : Nat → List D → Prop), k ≤ N → (∀ j, j < k → P j = true) → (k < N → P k = true → B' id [v0, .i ((k : Int) + 1)]) → (∀ j, j ≠ id → B' j = B j) → body.go S R (l.take n ++ [v0, .i k]) B') : (Tree.loop id n [x0, .lit (.i 0)] body).go S R l B := by
  rw [q1b]
  refine ⟨fun st => ∃ k : Nat, k ≤ N ∧ st = [v0, .i k] ∧ ∀ j, j < k → P j = true, fun st => N - (st.getD 1 .u).int.toNat, ⟨0, Nat.zero_le _, by simp [X.evs, X.ev, h0], fun j hj => absurd hj (Nat.not_lt_zero _)⟩, ?_⟩
  rintro st - ⟨k, hk, rfl, hP⟩
  refine h k _ hk hP (fun hlt hp => ?_) fun j hj => by rw [updB, if_neg hj]
  rw [updB, if_pos rfl]
  refine ⟨⟨k + 1, hlt, by simp, upto_succ hP hp⟩, ?_⟩
  simp [D.int]
  omega

def wkB (vc : So → Ce → Bool) (s : So) (w : Wk) : Bool := decide (1 ≤ w.ser) && (decide (w.ser ≤ s.ser) && (vc s w.att && vc s w.val))
def headB (s : So) : Bool := decide (1 ≤ s.mx) && (decide (s.mx ≤ 1048576) && (decide ((s.cs.length : Int) ≤ s.mx) && (decide (0 ≤ s.ser) && symsB s.ys)))
def validR (s : So) : Bool := headB s && ((List.range s.cs.length).all (fun i => cellR s (i : Nat)) && ((List.range s.tr.length).all (fun i => oldR s (s.tr.getD i default)) && (List.range s.wk.length).all fun i => wkB vcR s (s.wk.getD i default)))
def validP (s : So) : Bool := headB s && ((List.range s.cs.length).all (fun i => fitsP s (i : Nat)) && (acyP s && ((List.range s.tr.length).all (fun i => oldP s (s.tr.getD i default)) && (List.range s.wk.length).all fun i => wkB vcP s (s.wk.getD i default))))

theorem tag_nn {s : So} {n : Int} (h : 0 ≤ tagS s n) : inS s n = true := by
  cases hi : inS s n with
  | true => rfl
  | false => rw [tagS_out hi] at h; omega
theorem fits_acyQ {s : So} (hh : headB s = true) (h : ∀ j, j < s.cs.length → fitsP s (j : Nat) = true) : acyQ s = true := by
  simp only [headB, Bool.and_eq_true, decide_eq_true_eq] at hh
  simp only [acyQ, Bool.and_eq_true, decide_eq_true_eq]
  refine ⟨by omega, all_yes fun j hj => ?_⟩
  have := h j hj
  by_cases h0 : (cellAt s (j : Nat)).t = 0
  · simp only [fitsP, h0, vcP] at this
    have h1 : 0 ≤ tagS s (cellAt s (j : Nat)).n := by
      simp at this
      exact this.1
    simp [tag_nn h1]
  · simp [h0]

theorem ok_cells_Valid : FOk q15 (gSb validP) := fok_cells_Valid ok_cells_validSymbols ok_cells_fits ok_cells_acyclic ok_cells_validUndo q1n fun ds outs hw hg => by
  obtain ⟨d, r, rfl, hd, rfl⟩ := hw
  obtain ⟨s, rfl, hs⟩ := wfS hd
  simp only [gSb, dS_eS, Option.some.injEq] at hg
  subst hg
  have hl := hs.cs.1
  have hl2 := hs.tr.1
  have hl3 := hs.wk.1
  have hsy : gYsb symsB [D.r (s.ys.map eY)] = some [.b (symsB s.ys)] := by simp [gYsb, rs_r, map_id' dY_eY]
  rw [q25, q00]
  refine ⟨by simp only [q00, go_br, q01, q02, allSay, X.says, X.ev, X.evs, evl, tblS, List.getD_cons_zero, List.getD_cons_succ, List.getElem?_cons_zero, List.getElem?_cons_succ, tt_b, int_i, str_s, rs_r, Option.isSome_some, Option.getD_some, decide_eq_true_eq, decide_eq_false_iff_not, dS_eS, dC_eC, dU_eU, dW_eW, dY_eY, eC_0, eC_1, eU_0, eU_1, eW_0, eW_1, eW_2, eY_0, eY_1, eS_0, eS_1, eS_2, eS_3, eS_4, eS_5, List.length_map, i_inj, b_inj, s_inj, eC_eq, eU_eq, eW_eq, eY_eq, eS_eq, rng64, List.take_succ_cons, List.take_zero, List.nil_append, List.cons_append, decide_true, decide_false, Bool.or_true, true_and, and_true, hsy], ?_⟩
  rw [go_br]
  have hcond : (X.ev (evl (tblS [(q0e, gYsb symsB), (q12, gSIbP cellQ fitsP), (q0o, gSbP acyQ acyP), (q0i, gSUb oldP), (q05, gSCb vcP)]) [eS s]) (.or (.or (.or (.or (.lt (.fld (.tok 0) 5) (.lit (.i 1))) (.lt (.lit (.i 1048576)) (.fld (.tok 0) 5))) (.lt (.fld (.tok 0) 5) (.len (.fld (.tok 0) 0)))) (.lt (.fld (.tok 0) 4) (.lit (.i 0)))) (.not (.call 0 0 [(.fld (.tok 0) 1)])))).tt = !headB s := by
    simp only [q00, go_br, q01, q02, allSay, X.says, X.ev, X.evs, evl, tblS, List.getD_cons_zero, List.getD_cons_succ, List.getElem?_cons_zero, List.getElem?_cons_succ, tt_b, int_i, str_s, rs_r, Option.isSome_some, Option.getD_some, decide_eq_true_eq, decide_eq_false_iff_not, dS_eS, dC_eC, dU_eU, dW_eW, dY_eY, eC_0, eC_1, eU_0, eU_1, eW_0, eW_1, eW_2, eY_0, eY_1, eS_0, eS_1, eS_2, eS_3, eS_4, eS_5, List.length_map, i_inj, b_inj, s_inj, eC_eq, eU_eq, eW_eq, eY_eq, eS_eq, rng64, List.take_succ_cons, List.take_zero, List.nil_append, List.cons_append, decide_true, decide_false, Bool.or_true, true_and, and_true, hsy, headB]
    by_cases h1 : s.mx < 1
    · have : ¬ 1 ≤ s.mx := by omega
      simp [h1, this]
    · by_cases h2 : 1048576 < s.mx
      · have : ¬ s.mx ≤ 1048576 := by omega
        simp [h2, this]
      · by_cases h3 : s.mx < s.cs.length
        · have : ¬ (s.cs.length : Int) ≤ s.mx := by omega
          simp [h3, this]
        · by_cases h4 : s.ser < 0
          · have : ¬ 0 ≤ s.ser := by omega
            simp [h4, this]
          · have a1 : 1 ≤ s.mx := by omega
            have a2 : s.mx ≤ 1048576 := by omega
            have a3 : (s.cs.length : Int) ≤ s.mx := by omega
            have a4 : 0 ≤ s.ser := by omega
            simp [h1, h2, h3, h4, a1, a2, a3, a4]
  refine ⟨fun hx => ?_, fun hx => ?_⟩
  · have hh : headB s = false := by
      have := hcond.symm.trans hx
      simpa using this
    simp [q01, X.evs, X.ev, validP, hh]
  have hh : headB s = true := by
    have := hcond.symm.trans hx
    simpa using this
  have hsy2 : symsB s.ys = true := by
    simp only [headB, Bool.and_eq_true] at hh
    exact hh.2.2.2.2
  refine scan_ok s.cs.length (fun i => fitsP s (i : Nat)) (v0 := .b false) rfl fun k B' hk hP hB _ => ?_
  rw [go_br]
  refine ⟨fun hlt => ?_, fun hlt => ?_⟩
  · have hkl : k < s.cs.length := by simpa [X.ev, evl, eS_0, D.int, D.rs, D.tt] using hlt
    have hin : inS s (k : Nat) = true := inS_iff.2 ⟨by omega, by omega⟩
    have hQ : cellQ s (k : Nat) = true := by simp [cellQ, hin, hsy2]
    simp only [q00, go_br, q01, q02, allSay, X.says, X.ev, X.evs, evl, tblS, List.getD_cons_zero, List.getD_cons_succ, List.getElem?_cons_zero, List.getElem?_cons_succ, tt_b, int_i, str_s, rs_r, Option.isSome_some, Option.getD_some, decide_eq_true_eq, decide_eq_false_iff_not, dS_eS, dC_eC, dU_eU, dW_eW, dY_eY, eC_0, eC_1, eU_0, eU_1, eW_0, eW_1, eW_2, eY_0, eY_1, eS_0, eS_1, eS_2, eS_3, eS_4, eS_5, List.length_map, i_inj, b_inj, s_inj, eC_eq, eU_eq, eW_eq, eY_eq, eS_eq, rng64, List.take_succ_cons, List.take_zero, List.nil_append, List.cons_append, decide_true, decide_false, Bool.or_true, true_and, and_true, gSIbP, hQ, if_true]
    refine ⟨fun hb => ?_, fun hb => ⟨⟨by omega, by omega⟩, ?_⟩⟩
    · have : fitsP s (k : Nat) = false := by simpa using hb
      have := all_not (P := fun i => fitsP s (i : Nat)) hkl this
      simp [validP, this]
    · exact hB hkl (by simpa using hb)
  have hc : (List.range s.cs.length).all (fun i => fitsP s (i : Nat)) = true := by
    have : k = s.cs.length := by
      have : ¬ (k < s.cs.length) := by simpa [X.ev, evl, eS_0, D.int, D.rs, D.tt] using hlt
      omega
    subst this
    exact all_yes hP
  have hq : acyQ s = true := fits_acyQ hh fun j hj => all_of (P := fun i => fitsP s (i : Nat)) hc hj
  rw [q00]
  refine ⟨by simp only [q00, go_br, q01, q02, allSay, X.says, X.ev, X.evs, evl, tblS, List.getD_cons_zero, List.getD_cons_succ, List.getElem?_cons_zero, List.getElem?_cons_succ, tt_b, int_i, str_s, rs_r, Option.isSome_some, Option.getD_some, decide_eq_true_eq, decide_eq_false_iff_not, dS_eS, dC_eC, dU_eU, dW_eW, dY_eY, eC_0, eC_1, eU_0, eU_1, eW_0, eW_1, eW_2, eY_0, eY_1, eS_0, eS_1, eS_2, eS_3, eS_4, eS_5, List.length_map, i_inj, b_inj, s_inj, eC_eq, eU_eq, eW_eq, eY_eq, eS_eq, rng64, List.take_succ_cons, List.take_zero, List.nil_append, List.cons_append, decide_true, decide_false, Bool.or_true, true_and, and_true, gSbP, hq, if_true], ?_⟩
  rw [go_br]
  refine ⟨fun hb => ?_, fun hb => ?_⟩
  · have : acyP s = false := by
      simp only [q00, go_br, q01, q02, allSay, X.says, X.ev, X.evs, evl, tblS, List.getD_cons_zero, List.getD_cons_succ, List.getElem?_cons_zero, List.getElem?_cons_succ, tt_b, int_i, str_s, rs_r, Option.isSome_some, Option.getD_some, decide_eq_true_eq, decide_eq_false_iff_not, dS_eS, dC_eC, dU_eU, dW_eW, dY_eY, eC_0, eC_1, eU_0, eU_1, eW_0, eW_1, eW_2, eY_0, eY_1, eS_0, eS_1, eS_2, eS_3, eS_4, eS_5, List.length_map, i_inj, b_inj, s_inj, eC_eq, eU_eq, eW_eq, eY_eq, eS_eq, rng64, List.take_succ_cons, List.take_zero, List.nil_append, List.cons_append, decide_true, decide_false, Bool.or_true, true_and, and_true, gSbP, hq, if_true] at hb
      simpa only [Bool.not_eq_true'] using hb
    simp only [q01, X.evs, X.ev, validP, this, Bool.false_and, Bool.and_false]
  have ha : acyP s = true := by
    simp only [q00, go_br, q01, q02, allSay, X.says, X.ev, X.evs, evl, tblS, List.getD_cons_zero, List.getD_cons_succ, List.getElem?_cons_zero, List.getElem?_cons_succ, tt_b, int_i, str_s, rs_r, Option.isSome_some, Option.getD_some, decide_eq_true_eq, decide_eq_false_iff_not, dS_eS, dC_eC, dU_eU, dW_eW, dY_eY, eC_0, eC_1, eU_0, eU_1, eW_0, eW_1, eW_2, eY_0, eY_1, eS_0, eS_1, eS_2, eS_3, eS_4, eS_5, List.length_map, i_inj, b_inj, s_inj, eC_eq, eU_eq, eW_eq, eY_eq, eS_eq, rng64, List.take_succ_cons, List.take_zero, List.nil_append, List.cons_append, decide_true, decide_false, Bool.or_true, true_and, and_true, gSbP, hq, if_true] at hb
    simpa only [Bool.not_eq_false'] using hb
  refine scan_ok s.tr.length (fun i => oldP s (s.tr.getD i default)) (v0 := .b false) rfl fun k B' hk hP hB _ => ?_
  rw [go_br]
  refine ⟨fun hlt => ?_, fun hlt => ?_⟩
  · have hkl : k < s.tr.length := by simpa [X.ev, evl, eS_2, D.int, D.rs, D.tt] using hlt
    simp only [q00, go_br, q01, q02, allSay, X.says, X.ev, X.evs, evl, tblS, List.getD_cons_zero, List.getD_cons_succ, List.getElem?_cons_zero, List.getElem?_cons_succ, tt_b, int_i, str_s, rs_r, Option.isSome_some, Option.getD_some, decide_eq_true_eq, decide_eq_false_iff_not, dS_eS, dC_eC, dU_eU, dW_eW, dY_eY, eC_0, eC_1, eU_0, eU_1, eW_0, eW_1, eW_2, eY_0, eY_1, eS_0, eS_1, eS_2, eS_3, eS_4, eS_5, List.length_map, i_inj, b_inj, s_inj, eC_eq, eU_eq, eW_eq, eY_eq, eS_eq, rng64, List.take_succ_cons, List.take_zero, List.nil_append, List.cons_append, decide_true, decide_false, Bool.or_true, true_and, and_true, gSUb, get_n eU hkl]
    refine ⟨⟨by omega, by omega⟩, fun hb => ?_, fun hb => ⟨⟨by omega, by omega⟩, ?_⟩⟩
    · have : oldP s (s.tr.getD k default) = false := by simpa only [Bool.not_eq_true'] using hb
      have := all_not (P := fun i => oldP s (s.tr.getD i default)) hkl this
      simp only [validP, this, Bool.false_and, Bool.and_false]
    · exact hB hkl (by simpa only [Bool.not_eq_false'] using hb)
  have hc2 : (List.range s.tr.length).all (fun i => oldP s (s.tr.getD i default)) = true := by
    have : k = s.tr.length := by
      have : ¬ (k < s.tr.length) := by simpa [X.ev, evl, eS_2, D.int, D.rs, D.tt] using hlt
      omega
    subst this
    exact all_yes hP
  refine scan_ok s.wk.length (fun i => wkB vcP s (s.wk.getD i default)) (v0 := .b false) rfl fun k B' hk hP hB _ => ?_
  rw [go_br]
  refine ⟨fun hlt => ?_, fun hlt => ?_⟩
  · have hkl : k < s.wk.length := by simpa [X.ev, evl, eS_3, D.int, D.rs, D.tt] using hlt
    simp only [q00, go_br, q01, q02, allSay, X.says, X.ev, X.evs, evl, tblS, List.getD_cons_zero, List.getD_cons_succ, List.getElem?_cons_zero, List.getElem?_cons_succ, tt_b, int_i, str_s, rs_r, Option.isSome_some, Option.getD_some, decide_eq_true_eq, decide_eq_false_iff_not, dS_eS, dC_eC, dU_eU, dW_eW, dY_eY, eC_0, eC_1, eU_0, eU_1, eW_0, eW_1, eW_2, eY_0, eY_1, eS_0, eS_1, eS_2, eS_3, eS_4, eS_5, List.length_map, i_inj, b_inj, s_inj, eC_eq, eU_eq, eW_eq, eY_eq, eS_eq, rng64, List.take_succ_cons, List.take_zero, List.nil_append, List.cons_append, decide_true, decide_false, Bool.or_true, true_and, and_true, gSCb, get_n eW hkl]
    have hw : ((decide ((s.wk.getD k default).ser < 1) || decide (s.ser < (s.wk.getD k default).ser) || !vcP s (s.wk.getD k default).att || !vcP s (s.wk.getD k default).val)) = !wkB vcP s (s.wk.getD k default) := by
      generalize s.wk.getD k default = w
      simp only [wkB]
      by_cases h1 : w.ser < 1
      · have : ¬ 1 ≤ w.ser := by omega
        simp [h1, this]
      · by_cases h2 : s.ser < w.ser
        · have : ¬ w.ser ≤ s.ser := by omega
          simp [h2, this]
        · have a1 : 1 ≤ w.ser := by omega
          have a2 : w.ser ≤ s.ser := by omega
          simp [h1, h2, a1, a2]
    refine ⟨⟨by omega, by omega⟩, fun hb => ?_, fun hb => ⟨⟨by omega, by omega⟩, ?_⟩⟩
    · rw [hw] at hb
      have := all_not (P := fun i => wkB vcP s (s.wk.getD i default)) hkl (by simpa only [Bool.not_eq_true'] using hb)
      simp only [validP, this, Bool.and_false]
    · rw [hw] at hb
      exact hB hkl (by simpa only [Bool.not_eq_false'] using hb)
  have hc3 : (List.range s.wk.length).all (fun i => wkB vcP s (s.wk.getD i default)) = true := by
    have : k = s.wk.length := by
      have : ¬ (k < s.wk.length) := by simpa [X.ev, evl, eS_3, D.int, D.rs, D.tt] using hlt
      omega
    subst this
    exact all_yes hP
  simp only [q01, X.evs, X.ev, validP, hh, hc, ha, hc2, hc3, Bool.and_true]
end Go.Proofs.Ytmebmpgffhajbaa


namespace Go.Proofs.Ytmebmpgffhajbaa
open Go.RowKit
set_option linter.unusedVariables false
set_option linter.unusedSimpArgs false

def rowQ (n : Nat) (d : D) : Bool := decide (d.rs.length ≤ n)
theorem rowQ_r (n : Nat) (l : List D) : (rowQ n (.r l) = true) = (l.length ≤ n) := by simp only [rowQ, decide_eq_true_eq]; rfl
def gCl (n : Nat) : List D → Option (List D)
  | [a] => if rowQ n a then some [a] else none
  | _ => none
def clT (n : Nat) : Tree := (.amb (.tok 0) .false (.leaf [(.lit (.r []))]) (.need [(.le (.add (.lit (.i 0)) (.len (.tok 0))) (.lit (.i (n : Nat))))] (.leaf [(.app (.row []) (.tok 0))])))
theorem clT_ok {S : Nat → List D → Option (List D)} {l : List D} {R : List D → Prop} {B : Nat → List D → Prop} {n : Nat} (hl : l.length ≤ n) (hR : R [.r l]) : (clT n).go S R [.r l] B := by
  refine ⟨fun h => ?_, fun _ => ?_⟩
  · have : l = [] := h rfl
    subst this
    exact hR
  · rw [q00]
    refine ⟨by simp only [q00, go_br, q01, q02, allSay, X.says, X.ev, X.evs, evl, tblS, List.getD_cons_zero, List.getD_cons_succ, List.getElem?_cons_zero, List.getElem?_cons_succ, tt_b, int_i, str_s, rs_r, Option.isSome_some, Option.getD_some, decide_eq_true_eq, decide_eq_false_iff_not, dS_eS, dC_eC, dU_eU, dW_eW, dY_eY, eC_0, eC_1, eU_0, eU_1, eW_0, eW_1, eW_2, eY_0, eY_1, eS_0, eS_1, eS_2, eS_3, eS_4, eS_5, List.length_map, i_inj, b_inj, s_inj, eC_eq, eU_eq, eW_eq, eY_eq, eS_eq, rng64, List.take_succ_cons, List.take_zero, List.nil_append, List.cons_append, decide_true, decide_false, Bool.or_true, true_and, and_true]; omega, ?_⟩
    simpa [q01, X.evs, X.ev, evl, D.rs] using hR
theorem ok_slices_Clone_Cell : FOk q0q (gCl 8796093021952) := fok_slices_Clone_Cell fun ds outs hw hg => by
  obtain ⟨d, r, rfl, hd, rfl⟩ := hw
  obtain ⟨l, te, rfl, -⟩ := hd.row
  simp only [gCl, rowQ_r, Option.ite_none_right_eq_some, Option.some.injEq] at hg
  obtain ⟨h1, rfl⟩ := hg
  exact clT_ok h1 rfl
theorem ok_slices_Clone_Symbol : FOk q0m (gCl 5864062014634) := fok_slices_Clone_Symbol fun ds outs hw hg => by
  obtain ⟨d, r, rfl, hd, rfl⟩ := hw
  obtain ⟨l, te, rfl, -⟩ := hd.row
  simp only [gCl, rowQ_r, Option.ite_none_right_eq_some, Option.some.injEq] at hg
  obtain ⟨h1, rfl⟩ := hg
  exact clT_ok h1 rfl
theorem ok_slices_Clone_Undo : FOk q0r (gCl 5864062014634) := fok_slices_Clone_Undo fun ds outs hw hg => by
  obtain ⟨d, r, rfl, hd, rfl⟩ := hw
  obtain ⟨l, te, rfl, -⟩ := hd.row
  simp only [gCl, rowQ_r, Option.ite_none_right_eq_some, Option.some.injEq] at hg
  obtain ⟨h1, rfl⟩ := hg
  exact clT_ok h1 rfl
theorem ok_slices_Clone_Wake : FOk q0p (gCl 3518437208780) := fok_slices_Clone_Wake fun ds outs hw hg => by
  obtain ⟨d, r, rfl, hd, rfl⟩ := hw
  obtain ⟨l, te, rfl, -⟩ := hd.row
  simp only [gCl, rowQ_r, Option.ite_none_right_eq_some, Option.some.injEq] at hg
  obtain ⟨h1, rfl⟩ := hg
  exact clT_ok h1 rfl

def clQ (s : So) : Bool := decide (s.cs.length ≤ 8796093021952) && (decide (s.ys.length ≤ 5864062014634) && (decide (s.tr.length ≤ 5864062014634) && decide (s.wk.length ≤ 3518437208780)))
def gClone : List D → Option (List D)
  | [s] => if clQ (dS s) then some [eS (dS s)] else none
  | _ => none
theorem clQ_of {s : So} (hs : s.ok) : clQ s = true := by
  simp only [clQ, Bool.and_eq_true, decide_eq_true_eq]
  exact ⟨hs.cs.1, hs.ys.1, hs.tr.1, hs.wk.1⟩
theorem ok_cells_Clone : FOk q1l gClone := fok_cells_Clone ok_slices_Clone_Cell ok_slices_Clone_Symbol ok_slices_Clone_Undo ok_slices_Clone_Wake fun ds outs hw hg => by
  obtain ⟨d, r, rfl, hd, rfl⟩ := hw
  obtain ⟨s, rfl, hs⟩ := wfS hd
  simp only [gClone, dS_eS, Option.ite_none_right_eq_some, Option.some.injEq] at hg
  obtain ⟨hq, rfl⟩ := hg
  simp only [clQ, Bool.and_eq_true, decide_eq_true_eq] at hq
  obtain ⟨h1, h2, h3, h4⟩ := hq
  simp only [q2v, q00, go_br, q01, q02, allSay, X.says, X.ev, X.evs, evl, tblS, List.getD_cons_zero, List.getD_cons_succ, List.getElem?_cons_zero, List.getElem?_cons_succ, tt_b, int_i, str_s, rs_r, Option.isSome_some, Option.getD_some, decide_eq_true_eq, decide_eq_false_iff_not, dS_eS, dC_eC, dU_eU, dW_eW, dY_eY, eC_0, eC_1, eU_0, eU_1, eW_0, eW_1, eW_2, eY_0, eY_1, eS_0, eS_1, eS_2, eS_3, eS_4, eS_5, List.length_map, i_inj, b_inj, s_inj, eC_eq, eU_eq, eW_eq, eY_eq, eS_eq, rng64, List.take_succ_cons, List.take_zero, List.nil_append, List.cons_append, decide_true, decide_false, Bool.or_true, true_and, and_true, gCl, rowQ_r, h1, h2, h3, h4, if_true]
  simp [eS, D.fs, D.fld]

end Go.Proofs.Ytmebmpgffhajbaa


namespace Go.Proofs.Ytmebmpgffhajbaa
open Go.RowKit
set_option linter.unusedVariables false
set_option maxRecDepth 100000

def g_law34_cell : List D → Option (List D) := denF [] 60 q3e
theorem ok_law34_cell_c : FOk q0z g_law34_cell := fok_law34_cell  fun ds outs hw hg => q16 hg
def g_law34_six : List D → Option (List D) := denF [(q0z, g_law34_cell)] 60 q3j
theorem ok_law34_six_c : FOk q1p g_law34_six := fok_law34_six ok_law34_cell_c fun ds outs hw hg => q16 hg
def g_cells_validSymbols : List D → Option (List D) := denF [] 60 q1s
theorem ok_cells_validSymbols_c : FOk q0e g_cells_validSymbols := q2o  fun ds outs hw hg => q16 hg
def g_cells_arity : List D → Option (List D) := denF [] 60 q24
theorem ok_cells_arity_c : FOk q0f g_cells_arity := fok_cells_arity  fun ds outs hw hg => q16 hg
def g_cells_tag : List D → Option (List D) := denF [] 60 q2f
theorem q2e : FOk q09 g_cells_tag := fok_cells_tag  fun ds outs hw hg => q16 hg
def g_cells_group : List D → Option (List D) := denF [(q09, g_cells_tag)] 60 q26
theorem ok_cells_group_c : FOk q0k g_cells_group := fok_cells_group q2e fun ds outs hw hg => q16 hg
def g_cells_ValidCell : List D → Option (List D) := denF [(q0f, g_cells_arity), (q09, g_cells_tag)] 60 q1y
theorem q1x : FOk q05 g_cells_ValidCell := q3f ok_cells_arity_c q2e fun ds outs hw hg => q16 hg
def g_cells_fits : List D → Option (List D) := denF [(q0f, g_cells_arity), (q09, g_cells_tag), (q0k, g_cells_group), (q05, g_cells_ValidCell)] 60 q2b
theorem ok_cells_fits_c : FOk q12 g_cells_fits := fok_cells_fits ok_cells_arity_c q2e ok_cells_group_c q1x fun ds outs hw hg => q16 hg
def g_cells_acyclic : List D → Option (List D) := denF [] 60 q20
theorem ok_cells_acyclic_c : FOk q0o g_cells_acyclic := fok_cells_acyclic  fun ds outs hw hg => q16 hg
def g_cells_validUndo : List D → Option (List D) := denF [(q09, g_cells_tag), (q0k, g_cells_group), (q05, g_cells_ValidCell)] 60 q1z
theorem ok_cells_validUndo_c : FOk q0i g_cells_validUndo := q3h q2e ok_cells_group_c q1x fun ds outs hw hg => q16 hg
def g_cells_Valid : List D → Option (List D) := denF [(q0e, g_cells_validSymbols), (q12, g_cells_fits), (q0o, g_cells_acyclic), (q0i, g_cells_validUndo), (q05, g_cells_ValidCell)] 60 q25
theorem ok_cells_Valid_c : FOk q15 g_cells_Valid := fok_cells_Valid ok_cells_validSymbols_c ok_cells_fits_c ok_cells_acyclic_c ok_cells_validUndo_c q1x fun ds outs hw hg => q16 hg
def g_gc_Valid : List D → Option (List D) := denF [(q15, g_cells_Valid), (q05, g_cells_ValidCell)] 60 q2r
theorem ok_gc_Valid_c : FOk q0n g_gc_Valid := fok_gc_Valid ok_cells_Valid_c q1x fun ds outs hw hg => q16 hg
def g_gc_marks_has : List D → Option (List D) := denF [] 60 q22
theorem q2h : FOk q0b g_gc_marks_has := fok_gc_marks_has  fun ds outs hw hg => q16 hg
def g_gc_mark_1 : List D → Option (List D) := denF [(q0b, g_gc_marks_has)] 60 q2d
theorem ok_gc_mark_1_c : FOk q0g g_gc_mark_1 := fok_gc_mark_1 q2h fun ds outs hw hg => q16 hg
def g_gc_mark : List D → Option (List D) := denF [(q0g, g_gc_mark_1)] 60 q3d
theorem ok_gc_mark_c : FOk q17 g_gc_mark := fok_gc_mark ok_gc_mark_1_c fun ds outs hw hg => q16 hg
def g_gc_Live : List D → Option (List D) := denF [(q0n, g_gc_Valid), (q17, g_gc_mark), (q0b, g_gc_marks_has)] 60 tree_gc_Live
theorem ok_gc_Live_c : FOk q1v g_gc_Live := fok_gc_Live ok_gc_Valid_c ok_gc_mark_c q2h fun ds outs hw hg => q16 hg
def g_gc_Collect_1 : List D → Option (List D) := denF [] 60 q21
theorem ok_gc_Collect_1_c : FOk q10 g_gc_Collect_1 := fok_gc_Collect_1  fun ds outs hw hg => q16 hg
def g_gc_Collect : List D → Option (List D) := denF [(q10, g_gc_Collect_1), (q0n, g_gc_Valid), (q17, g_gc_mark), (q0b, g_gc_marks_has)] 60 q29
theorem ok_gc_Collect_c : FOk q0u g_gc_Collect := fok_gc_Collect ok_gc_Collect_1_c ok_gc_Valid_c ok_gc_mark_c q2h fun ds outs hw hg => q16 hg
def g_ref30_Same : List D → Option (List D) := denF [] 60 q36
theorem ok_ref30_Same_c : FOk q1d g_ref30_Same := fok_ref30_Same  fun ds outs hw hg => q16 hg
def g_ref34_Same : List D → Option (List D) := denF [] 60 q38
theorem ok_ref34_Same_c : FOk q1c g_ref34_Same := fok_ref34_Same  fun ds outs hw hg => q16 hg
def g_law34_gives : List D → Option (List D) := denF [(q1v, g_gc_Live), (q0u, g_gc_Collect), (q1d, g_ref30_Same), (q1c, g_ref34_Same)] 60 q2t
theorem ok_law34_gives_c : FOk q1e g_law34_gives := fok_law34_gives ok_gc_Live_c ok_gc_Collect_c ok_ref30_Same_c ok_ref34_Same_c fun ds outs hw hg => q16 hg
end Go.Proofs.Ytmebmpgffhajbaa


namespace Go.Proofs.Ytmebmpgffhajbaa
open Go.RowKit
set_option linter.unusedVariables false
set_option maxRecDepth 100000

end Go.Proofs.Ytmebmpgffhajbaa


namespace Go.Proofs.Ytmebmpgffhajbaa
open Go.RowKit
set_option linter.unusedVariables false
set_option linter.unusedSimpArgs false

end Go.Proofs.Ytmebmpgffhajbaa


namespace Go.Proofs.Ytmebmpgffhajbaa
open Go.RowKit
set_option linter.unusedVariables false
set_option linter.unusedSimpArgs false

end Go.Proofs.Ytmebmpgffhajbaa


namespace Go.Proofs.Ytmebmpgffhajbaa
open Go.RowKit
set_option linter.unusedVariables false
set_option maxRecDepth 100000

end Go.Proofs.Ytmebmpgffhajbaa


namespace Go.Proofs.Ytmebmpgffhajbaa
open Go.RowKit
set_option linter.unusedVariables false
set_option linter.unusedSimpArgs false

structure VS (s : So) : Prop where
  tag : ∀ i : Int, inS s i = true → 0 ≤ (cellAt s i).t ∧ (cellAt s i).t ≤ 5
theorem vcR_tag {s : So} {c : Ce} (h : vcR s c = true) : c.t = 0 ∨ c.t = 1 ∨ c.t = 2 ∨ c.t = 3 ∨ c.t = 5 := by
  unfold vcR at h
  by_cases h0 : c.t = 0
  · exact .inl h0
  · by_cases h1 : c.t = 1
    · exact .inr (.inl h1)
    · by_cases h2 : c.t = 2
      · exact .inr (.inr (.inl h2))
      · by_cases h3 : c.t = 3
        · exact .inr (.inr (.inr (.inl h3)))
        · by_cases h5 : c.t = 5
          · exact .inr (.inr (.inr (.inr h5)))
          · simp [h0, h1, h2, h3, h5] at h
theorem vcP_tag {s : So} {c : Ce} (h : vcP s c = true) : c.t = 0 ∨ c.t = 1 ∨ c.t = 2 ∨ c.t = 3 ∨ c.t = 5 := by
  unfold vcP at h
  by_cases h0 : c.t = 0
  · exact .inl h0
  · by_cases h1 : c.t = 1
    · exact .inr (.inl h1)
    · by_cases h2 : c.t = 2
      · exact .inr (.inr (.inl h2))
      · by_cases h3 : c.t = 3
        · exact .inr (.inr (.inr (.inl h3)))
        · by_cases h5 : c.t = 5
          · exact .inr (.inr (.inr (.inr h5)))
          · simp [h0, h1, h2, h3, h5] at h
theorem validR_vs {s : So} (h : validR s = true) : VS s := by
  simp only [validR, Bool.and_eq_true] at h
  refine ⟨fun i hi => ?_⟩
  have h1 := inS_iff.1 hi
  have hk := all_of h.2.1 (k := i.toNat) (by omega)
  rw [show ((i.toNat : Nat) : Int) = i by omega] at hk
  unfold cellR at hk
  by_cases h4 : (cellAt s i).t = 4
  · omega
  · rw [if_neg h4] at hk
    simp only [Bool.and_eq_true] at hk
    have := vcR_tag hk.1
    omega
theorem validP_vs {s : So} (h : validP s = true) : VS s := by
  simp only [validP, Bool.and_eq_true] at h
  refine ⟨fun i hi => ?_⟩
  have h1 := inS_iff.1 hi
  have hk := all_of h.2.1 (k := i.toNat) (by omega)
  rw [show ((i.toNat : Nat) : Int) = i by omega] at hk
  unfold fitsP at hk
  by_cases h4 : (cellAt s i).t = 4
  · omega
  · rw [if_neg h4] at hk
    by_cases h5 : (cellAt s i).t = 5
    · omega
    · rw [if_neg h5] at hk
      have := vcP_tag hk
      omega
theorem VS.tag_in {s : So} (h : VS s) (n : Int) : decide (0 ≤ tagS s n) = inS s n := by
  cases hi : inS s n with
  | true =>
    rw [tagS_in hi]
    exact decide_eq_true (h.tag n hi).1
  | false =>
    rw [tagS_out hi]
    decide
theorem VS.vc {s : So} (h : VS s) (c : Ce) : vcP s c = vcR s c := by
  unfold vcP vcR
  rw [h.tag_in]
theorem VS.old {s : So} (h : VS s) (u : Un) : oldP s u = oldR s u := by
  simp only [oldP, oldR, oldB, h.tag_in, h.vc]
theorem VS.cell {s : So} (h : VS s) {i : Int} (hi : inS s i = true) : cellR s i = (fitsP s i && endsB s i) := by
  have h1 := inS_iff.1 hi
  have ht := tagS_in hi
  unfold cellR fitsP
  by_cases h4 : (cellAt s i).t = 4
  · rw [if_pos h4, if_pos h4]
    have he : endsB s i = true := (En.st (fun hn => by have := hn.1; omega)).ends
    rw [he, Bool.and_true]
    by_cases ha : 1 ≤ arS s (cellAt s i).n
    · rw [decide_eq_true ha, Bool.true_and, Bool.true_and]
      generalize harr : arS s (cellAt s i).n = ar at ha
      rw [Bool.eq_iff_iff]
      simp only [Bool.and_eq_true, List.all_eq_true, List.mem_range, Bool.not_eq_true', decide_eq_false_iff_not, decide_eq_true_eq]
      constructor
      · rintro ⟨q1, q2⟩ j hj
        refine ⟨?_, q2 j hj⟩
        have hin : inS s (i + ((j : Int) + 1)) = true := by
          have := inS_iff.1 q1
          exact inS_iff.2 ⟨by omega, by omega⟩
        rw [tagS_in hin]
        exact (h.tag _ hin).1
      · intro q
        refine ⟨?_, fun j hj => (q j hj).2⟩
        have h2 := (q (ar.toNat - 1) (by omega)).1
        have h3 := h.tag_in (i + (((ar.toNat - 1 : Nat) : Int) + 1))
        rw [decide_eq_true h2] at h3
        have e : i + (((ar.toNat - 1 : Nat) : Int) + 1) = i + ar := by omega
        rw [e] at h3
        exact h3.symm
    · rw [decide_eq_false ha]
      rfl
  · rw [if_neg h4, if_neg h4]
    by_cases h5 : (cellAt s i).t = 5
    · rw [if_pos h5]
      have hd : decide ((cellAt s i).t = 5) = true := decide_eq_true h5
      rw [hd]
      by_cases hn : (cellAt s i).n = i
      · have hv : vcR s (cellAt s i) = true := by
          unfold vcR
          simp [h5, hn, ht]
        rw [hv, decide_eq_true hn]
        simp [Bool.and_comm]
      · rw [decide_eq_false hn]
        simp
    · rw [if_neg h5, decide_eq_false h5, h.vc]
      simp
theorem all_congr {n : Nat} {P Q : Nat → Bool} (h : ∀ j, j < n → P j = Q j) : (List.range n).all P = (List.range n).all Q := by
  rw [Bool.eq_iff_iff, List.all_eq_true, List.all_eq_true]
  exact ⟨fun q j hj => (h j (List.mem_range.1 hj)) ▸ q j hj, fun q j hj => (h j (List.mem_range.1 hj)).symm ▸ q j hj⟩
theorem all_and {n : Nat} {P Q : Nat → Bool} : ((List.range n).all fun j => P j && Q j) = ((List.range n).all P && (List.range n).all Q) := by
  rw [Bool.eq_iff_iff]
  simp only [List.all_eq_true, Bool.and_eq_true]
  exact ⟨fun q => ⟨fun j hj => (q j hj).1, fun j hj => (q j hj).2⟩, fun q j hj => ⟨q.1 j hj, q.2 j hj⟩⟩
theorem VS.valid {s : So} (h : VS s) : validP s = validR s := by
  have e1 : ((List.range s.cs.length).all fun i => cellR s (i : Nat)) = ((List.range s.cs.length).all (fun i => fitsP s (i : Nat)) && acyP s) := by
    unfold acyP
    rw [← all_and]
    exact all_congr fun j hj => h.cell (inS_iff.2 ⟨by omega, by omega⟩)
  have e2 : ((List.range s.tr.length).all fun i => oldP s (s.tr.getD i default)) = (List.range s.tr.length).all fun i => oldR s (s.tr.getD i default) := all_congr fun j _ => h.old _
  have e3 : ((List.range s.wk.length).all fun i => wkB vcP s (s.wk.getD i default)) = (List.range s.wk.length).all fun i => wkB vcR s (s.wk.getD i default) := all_congr fun j _ => by
    unfold wkB
    rw [h.vc, h.vc]
  unfold validP validR
  rw [e1, e2, e3, Bool.and_assoc]
theorem valid_eq (s : So) : validP s = validR s := by
  cases hP : validP s with
  | true => rw [← (validP_vs hP).valid, hP]
  | false =>
    cases hR : validR s with
    | false => rfl
    | true => rw [(validR_vs hR).valid, hR] at hP; cases hP

end Go.Proofs.Ytmebmpgffhajbaa


namespace Go.Proofs.Ytmebmpgffhajbaa
open Go.RowKit
set_option linter.unusedVariables false
set_option linter.unusedSimpArgs false

theorem vr_head {s : So} (h : validR s = true) : headB s = true := by
  simp only [validR, Bool.and_eq_true] at h
  exact h.1
theorem vr_syms {s : So} (h : validR s = true) : symsB s.ys = true := by
  have := vr_head h
  simp only [headB, Bool.and_eq_true] at this
  exact this.2.2.2.2
theorem vr_len {s : So} (h : validR s = true) : s.cs.length ≤ 1048576 := by
  have := vr_head h
  simp only [headB, Bool.and_eq_true, decide_eq_true_eq] at this
  omega
theorem vr_cell {s : So} (h : validR s = true) {i : Int} (hi : inS s i = true) : cellR s i = true := by
  simp only [validR, Bool.and_eq_true] at h
  have h1 := inS_iff.1 hi
  have hk := all_of h.2.1 (k := i.toNat) (by omega)
  rwa [show ((i.toNat : Nat) : Int) = i by omega] at hk
theorem vr_vc {s : So} (h : validR s = true) {i : Int} (hi : inS s i = true) (ht : (cellAt s i).t ≠ 4) : vcR s (cellAt s i) = true := by
  have := vr_cell h hi
  unfold cellR at this
  rw [if_neg ht] at this
  simp only [Bool.and_eq_true] at this
  exact this.1
theorem vr_ends {s : So} (h : validR s = true) {i : Int} (hi : inS s i = true) : endsB s i = true := by
  by_cases ht : (cellAt s i).t = 4
  · exact (En.st (fun hn => by have := hn.1; rw [tagS_in hi] at this; omega)).ends
  · have := vr_cell h hi
    unfold cellR at this
    rw [if_neg ht] at this
    simp only [Bool.and_eq_true] at this
    exact this.2.1
theorem vc_ref {s : So} {c : Ce} (h : vcR s c = true) (ht : c.t = 0) : inS s c.n = true ∧ (cellAt s c.n).t ≠ 4 := by
  unfold vcR at h
  rw [if_pos ht] at h
  simp only [Bool.and_eq_true, Bool.not_eq_true', decide_eq_false_iff_not] at h
  rw [tagS_in h.1] at h
  exact h
theorem vr_nx {s : So} (h : validR s = true) {n : Int} (hn : Ns s n) : inS s (nx s n) = true := by
  have hi := hn.inS
  have ht : (cellAt s n).t = 0 := by have := hn.1; rwa [tagS_in hi] at this
  exact (vc_ref (vr_vc h hi (by omega)) ht).1
theorem vr_fun {s : So} (h : validR s = true) {i : Int} (hi : inS s i = true) (ht : (cellAt s i).t = 4) : 1 ≤ arS s (cellAt s i).n ∧ arS s (cellAt s i).n ≤ 8 ∧ ∀ j : Nat, (j : Int) < arS s (cellAt s i).n → inS s (i + 1 + j) = true ∧ vcR s (cellAt s (i + 1 + j)) = true := by
  have := vr_cell h hi
  unfold cellR at this
  rw [if_pos ht] at this
  simp only [Bool.and_eq_true, decide_eq_true_eq, List.all_eq_true, List.mem_range, Bool.not_eq_true', decide_eq_false_iff_not] at this
  obtain ⟨h1, h2, h3⟩ := this
  refine ⟨h1, (symsB_ar (vr_syms h) _).2, fun j hj => ?_⟩
  have q := inS_iff.1 h2
  have q1 := inS_iff.1 hi
  have hin : inS s (i + 1 + j) = true := inS_iff.2 ⟨by omega, by omega⟩
  refine ⟨hin, vr_vc h hin ?_⟩
  have := h3 j (by omega)
  rw [show i + ((j : Int) + 1) = i + 1 + j by omega, tagS_in hin] at this
  exact this
theorem ar_rng {s : So} {n : Int} (h : 0 ≤ arS s n) : 0 ≤ n ∧ n < s.ys.length ∧ arS s n = (s.ys.getD n.toNat default).ar := by
  unfold arS at h ⊢
  split at h
  · rename_i hn
    rw [if_pos hn]
    exact ⟨hn.1, hn.2, rfl⟩
  · omega
def syAt (s : So) (n : Int) : Sy := s.ys.getD n.toNat default
theorem vr_name {s : So} (h : validR s = true) {n : Int} (hn : 0 ≤ arS s n) : (syAt s n).name.size ≤ 100 := by
  obtain ⟨h0, h1, -⟩ := ar_rng hn
  have := vr_syms h
  simp only [symsB, Bool.and_eq_true] at this
  have := all_of this.2 (k := n.toNat) (by omega)
  simp only [symAt, okY, Bool.and_eq_true, decide_eq_true_eq] at this
  exact this.1.1

theorem rank_all {s : So} (hv : ∀ m, Ns s m → inS s (nx s m) = true) : ∀ (k : Nat) (n : Int), inS s n = true → endsN s (k + 1) n = true → endsN s k n = false → ∃ l : List Int, l.length = k + 1 ∧ l.Nodup ∧ (∀ x ∈ l, inS s x = true) ∧ ∀ x ∈ l, ∃ j, j ≤ k ∧ endsN s (j + 1) x = true
  | 0, n, hi, h1, _ => ⟨[n], rfl, by simp, (fun x hx => by rw [List.mem_singleton.1 hx]; exact hi), fun x hx => ⟨0, Nat.le_refl _, by rw [List.mem_singleton.1 hx]; exact h1⟩⟩
  | k + 1, n, hi, h1, h2 => by
    have hn : Ns s n := Classical.byContradiction fun hn => by rw [endsN_st hn] at h2; cases h2
    have h1' := h1
    rw [endsN_ns hn] at h1 h2
    obtain ⟨l, e1, e2, e3, e4⟩ := rank_all hv k _ (hv n hn) h1 h2
    refine ⟨n :: l, by simp [e1], ?_, fun x hx => ?_, fun x hx => ?_⟩
    · refine List.nodup_cons.2 ⟨fun hm => ?_, e2⟩
      obtain ⟨j, hj, he⟩ := e4 n hm
      rw [endsN_ns hn] at he
      rw [endsN_le hj he] at h2
      cases h2
    · rcases List.mem_cons.1 hx with rfl | hx
      · exact hi
      · exact e3 x hx
    · rcases List.mem_cons.1 hx with rfl | hx
      · exact ⟨k + 1, Nat.le_refl _, h1'⟩
      · obtain ⟨j, hj, he⟩ := e4 x hx
        exact ⟨j, by omega, he⟩
theorem vr_ends_len {s : So} (h : validR s = true) {n : Int} (hi : inS s n = true) : endsN s s.cs.length n = true := by
  cases hk' : endsN s s.cs.length n with
  | true => rfl
  | false =>
    obtain ⟨l, e1, e2, e3, -⟩ := rank_all (fun m hm => vr_nx h hm) s.cs.length n hi (vr_ends h hi) hk'
    have h1 := nodup_lt s.cs.length (l.map Int.toNat) ?_ ?_
    · rw [List.length_map, e1] at h1
      omega
    · refine List.Pairwise.map _ (fun a b h => h) ?_
      refine List.Pairwise.imp_of_mem (R := fun a b => a ≠ b) (fun {a b} ha hb hab e => hab ?_) e2
      have h1 := inS_iff.1 (e3 a ha)
      have h2 := inS_iff.1 (e3 b hb)
      omega
    · intro x hx
      obtain ⟨a, ha, rfl⟩ := List.mem_map.1 hx
      have h1 := inS_iff.1 (e3 a ha)
      omega

def derN (s : So) : Nat → Ce → Ce
  | 0, c => c
  | k + 1, c => if c.t = 0 ∧ inS s c.n = true ∧ cellAt s c.n ≠ c then derN s k (cellAt s c.n) else c
theorem derN_t {s : So} {c : Ce} (h : c.t ≠ 0) : ∀ k, derN s k c = c
  | 0 => rfl
  | k + 1 => if_neg fun q => h q.1
theorem der_stable {s : So} (j : Nat) : ∀ (k : Nat) (n : Int), endsN s k n = true → derN s (k + j) ⟨0, n⟩ = derN s k ⟨0, n⟩
  | 0, n, h => by cases h
  | k + 1, n, h => by
    rw [show k + 1 + j = (k + j) + 1 by omega]
    unfold derN
    split
    · rename_i hc
      by_cases ht : (cellAt s n).t = 0
      · have e : cellAt s n = ⟨0, nx s n⟩ := Ce.ext' ht rfl
        have hn : Ns s n := ⟨(tagS_in hc.2.1).trans ht, fun hn => hc.2.2 (Ce.ext' ht hn)⟩
        rw [endsN_ns hn] at h
        show derN s (k + j) (cellAt s n) = derN s k (cellAt s n)
        rw [e]
        exact der_stable j k _ h
      · rw [derN_t ht, derN_t ht]
    · rfl
def derS (s : So) (c : Ce) : Ce := if vcR s c then derN s (s.cs.length + 1) c else ⟨0, 0⟩
theorem der_len {s : So} (h : validR s = true) {c : Ce} (hc : vcR s c = true) : derN s s.cs.length c = derN s (s.cs.length + 1) c := by
  by_cases ht : c.t = 0
  · have e : c = ⟨0, c.n⟩ := Ce.ext' ht rfl
    rw [e]
    exact (der_stable 1 _ _ (vr_ends_len h (vc_ref hc ht).1)).symm
  · rw [derN_t ht, derN_t ht]
theorem derN_vc {s : So} (h : validR s = true) : ∀ (k : Nat) {c : Ce}, vcR s c = true → vcR s (derN s k c) = true
  | 0, c, hc => hc
  | k + 1, c, hc => by
    unfold derN
    split
    · rename_i q
      exact derN_vc h k (vr_vc h q.2.1 (vc_ref hc q.1).2)
    · exact hc
theorem derS_vc {s : So} (h : validR s = true) {c : Ce} (hc : vcR s c = true) : vcR s (derS s c) = true := by
  rw [derS, if_pos hc]
  exact derN_vc h _ hc

def getL (g : Ce → Int → Te × Int) : List Ce → Int → List Te × Int
  | [], l => ([], l)
  | c :: cs, l => if l < 0 then ([], l) else ((g c l).1 :: (getL g cs (g c l).2).1, (getL g cs (g c l).2).2)
def argsOf (s : So) (n : Int) (k : Nat) : List Ce := (List.range k).map fun j => cellAt s (n + 1 + (j : Nat))
def getN (s : So) : Nat → Ce → Int → Te × Int
  | 0, _, left => (zT, left - 1)
  | f + 1, c, left => if left - 1 < 0 then (zT, left - 1)
    else if (derS s c).t = 1 then (.mk 1 (derS s c).n ⟨#[]⟩ [], left - 1)
    else if (derS s c).t = 2 then (.mk 2 0 (syAt s (derS s c).n).name [], left - 1)
    else if (derS s c).t = 3 then (.mk 3 0 (syAt s (cellAt s (derS s c).n).n).name (getL (getN s f) (argsOf s (derS s c).n (arS s (cellAt s (derS s c).n).n).toNat) (left - 1)).1, (getL (getN s f) (argsOf s (derS s c).n (arS s (cellAt s (derS s c).n).n).toNat) (left - 1)).2)
    else (.mk 0 (derS s c).n ⟨#[]⟩ [], left - 1)
theorem getL_le {g : Ce → Int → Te × Int} (hg : ∀ c l, 0 ≤ l → (g c l).2 ≤ l - 1 ∧ -1 ≤ (g c l).2) : ∀ (cs : List Ce) (l : Int), -1 ≤ l → (getL g cs l).2 ≤ l ∧ -1 ≤ (getL g cs l).2
  | [], l, h => ⟨Int.le_refl _, h⟩
  | c :: cs, l, h => by
    unfold getL
    split
    · exact ⟨Int.le_refl _, h⟩
    · have h1 := hg c l (by omega)
      have h2 := getL_le hg cs (g c l).2 h1.2
      exact ⟨by omega, h2.2⟩
theorem getN_le (s : So) : ∀ (f : Nat) (c : Ce) (l : Int), 0 ≤ l → (getN s f c l).2 ≤ l - 1 ∧ -1 ≤ (getN s f c l).2
  | 0, c, l, h => ⟨Int.le_refl _, by simp only [getN]; omega⟩
  | f + 1, c, l, h => by
    unfold getN
    split
    · simp only; omega
    split
    · simp only; omega
    split
    · simp only; omega
    split
    · exact getL_le (getN_le s f) _ _ (by omega)
    · simp only; omega
theorem getL_ok {g : Ce → Int → Te × Int} {P : Ce → Prop} (hl : ∀ c l, 0 ≤ l → (g c l).2 ≤ l - 1 ∧ -1 ≤ (g c l).2) (hg : ∀ c l, P c → 0 ≤ l → 0 ≤ (g c l).2 → nodesT (g c l).1 = true ∧ (szT (g c l).1 : Int) = l - (g c l).2) : ∀ (cs : List Ce) (l : Int), (∀ c ∈ cs, P c) → -1 ≤ l → 0 ≤ (getL g cs l).2 → (getL g cs l).1.length = cs.length ∧ nodesTs (getL g cs l).1 = true ∧ (szTs (getL g cs l).1 : Int) = l - (getL g cs l).2
  | [], l, _, _, _ => by simp [getL, nodesTs, szTs]
  | c :: cs, l, hP, h, h0 => by
    unfold getL at h0 ⊢
    split at h0
    · simp only at h0; omega
    rename_i hn
    rw [if_neg hn]
    have h1 := hl c l (by omega)
    have h2 := getL_le hl cs (g c l).2 h1.2
    simp only at h0
    obtain ⟨q1, q2, q3⟩ := getL_ok hl hg cs (g c l).2 (fun c hc => hP c (List.mem_cons_of_mem _ hc)) h1.2 h0
    obtain ⟨q4, q5⟩ := hg c l (hP c List.mem_cons_self) (by omega) (by omega)
    simp only [List.length_cons, nodesTs, szTs, q1, q2, q4]
    refine ⟨by first | trivial | rfl, by first | trivial | rfl, ?_⟩
    omega
theorem getN_ok {s : So} (h : validR s = true) : ∀ (f : Nat) (c : Ce) (l : Int), vcR s c = true → 0 ≤ l → 0 ≤ (getN s f c l).2 → nodesT (getN s f c l).1 = true ∧ (szT (getN s f c l).1 : Int) = l - (getN s f c l).2
  | 0, c, l, _, _, h0 => by
    simp only [getN] at h0 ⊢
    exact ⟨rfl, by simp [zT, szT, szTs]; omega⟩
  | f + 1, c, l, hc, hl, h0 => by
    have hd := derS_vc h hc
    unfold getN at h0 ⊢
    split at h0
    · simp only at h0; omega
    rename_i hn
    rw [if_neg hn]
    split at h0
    · rename_i ht
      rw [if_pos ht]
      exact ⟨by simp [nodesT, nodesTs, nodeT, Te.k, Te.n, Te.s, Te.l], by simp [szT, szTs]; omega⟩
    rename_i h1
    rw [if_neg h1]
    split at h0
    · rename_i ht
      rw [if_pos ht]
      have ha : arS s (derS s c).n = 0 := by
        simp only [vcR, ht] at hd
        simpa using hd
      have := vr_name h (n := (derS s c).n) (by omega)
      refine ⟨?_, by simp [szT, szTs]; omega⟩
      have h2 : ((syAt s (derS s c).n).name.size : Int) ≤ 100 := by omega
      simp only [nodesT, nodesTs, nodeT, Te.k, Te.n, Te.s, Te.l, h2]
      rfl
    rename_i h2
    rw [if_neg h2]
    split at h0
    · rename_i ht
      rw [if_pos ht]
      have htag : tagS s (derS s c).n = 4 := by
        simp only [vcR, ht] at hd
        simpa using hd
      have hin := tag_in' (by decide) htag
      rw [tagS_in hin] at htag
      obtain ⟨a1, a2, a3⟩ := vr_fun h hin htag
      obtain ⟨q1, q2, q3⟩ := getL_ok (P := fun c => vcR s c = true) (getN_le s f) (fun c l => getN_ok h f c l) (argsOf s (derS s c).n (arS s (cellAt s (derS s c).n).n).toNat) (l - 1) (fun x hx => by
        obtain ⟨j, hj, rfl⟩ := List.mem_map.1 hx
        have := List.mem_range.1 hj
        exact (a3 j (by omega)).2) (by omega) h0
      have h3 := vr_name h (n := (cellAt s (derS s c).n).n) (by omega)
      have h4 : ((syAt s (cellAt s (derS s c).n).n).name.size : Int) ≤ 100 := by omega
      have h5 : (argsOf s (derS s c).n (arS s (cellAt s (derS s c).n).n).toNat).length = (arS s (cellAt s (derS s c).n).n).toNat := by simp [argsOf]
      rw [h5] at q1
      refine ⟨?_, by simp only [szT]; omega⟩
      simp only [nodesT, nodeT, Te.k, Te.n, Te.s, Te.l, h4, q1, q2]
      have h6 : (1 : Int) ≤ ((arS s (cellAt s (derS s c).n).n).toNat : Int) := by omega
      have h7 : ((arS s (cellAt s (derS s c).n).n).toNat : Int) ≤ 8 := by omega
      simp only [h6, h7]
      rfl
    rename_i h3
    rw [if_neg h3]
    have hin : inS s (derS s c).n = true := by
      rcases vcR_tag hd with ht | ht | ht | ht | ht
      · exact (vc_ref hd ht).1
      · exact absurd ht h1
      · exact absurd ht h2
      · exact absurd ht h3
      · simp only [vcR, ht] at hd
        exact tag_in' (t := 5) (by decide) (by simpa using hd)
    have q := inS_iff.1 hin
    have q1 := vr_len h
    refine ⟨?_, by simp [szT, szTs]; omega⟩
    have h4 : 0 ≤ (derS s c).n := q.1
    have h5 : (derS s c).n ≤ 1099511627776 := by omega
    simp only [nodesT, nodesTs, nodeT, Te.k, Te.n, Te.s, Te.l, h4, h5]
    rfl
theorem get_valid {s : So} (h : validR s = true) {f : Nat} {c : Ce} {l : Int} (hc : vcR s c = true) (hl : 0 ≤ l) (hm : l ≤ 2000) (h0 : 0 ≤ (getN s f c l).2) : validT (getN s f c l).1 = true := by
  obtain ⟨q1, q2⟩ := getN_ok h f c l hc hl h0
  simp only [validT, q1, Bool.and_true, decide_eq_true_eq]
  omega
end Go.Proofs.Ytmebmpgffhajbaa


namespace Go.Proofs.Ytmebmpgffhajbaa
end Go.Proofs.Ytmebmpgffhajbaa


namespace Go.Proofs.Ytmebmpgffhajbaa
open Go.RowKit
set_option linter.unusedVariables false
set_option linter.unusedSimpArgs false

def gDer : List D → Option (List D)
  | [s, c] => if validR (dS s) then some [eC (derS (dS s) (dC c))] else none
  | _ => none
theorem der_0 : D.a [.i 0, .i 0] = eC ⟨0, 0⟩ := rfl
theorem ok_cells_Deref : FOk q1k gDer := fok_cells_Deref q1n q23 fun ds outs hw hg => by
  obtain ⟨d, r, rfl, hd, e, r', rfl, he, rfl⟩ := hw
  obtain ⟨s, rfl, hs⟩ := wfS hd
  obtain ⟨c, rfl, hc⟩ := wfC he
  simp only [gDer, dS_eS, dC_eC, Option.ite_none_right_eq_some, Option.some.injEq] at hg
  obtain ⟨hv, rfl⟩ := hg
  have hvs := validR_vs hv
  have hl := vr_len hv
  have hvc : ∀ c, vcP s c = vcR s c := hvs.vc
  simp only [q30, q00, go_br, q01, q02, allSay, X.says, X.ev, X.evs, evl, tblS, List.getD_cons_zero, List.getD_cons_succ, List.getElem?_cons_zero, List.getElem?_cons_succ, tt_b, int_i, str_s, rs_r, Option.isSome_some, Option.getD_some, decide_eq_true_eq, decide_eq_false_iff_not, dS_eS, dC_eC, dU_eU, dW_eW, dY_eY, eC_0, eC_1, eU_0, eU_1, eW_0, eW_1, eW_2, eY_0, eY_1, eS_0, eS_1, eS_2, eS_3, eS_4, eS_5, List.length_map, i_inj, b_inj, s_inj, eC_eq, eU_eq, eW_eq, eY_eq, eS_eq, rng64, List.take_succ_cons, List.take_zero, List.nil_append, List.cons_append, decide_true, decide_false, Bool.or_true, true_and, and_true, gSCb, hvc, der_0]
  refine ⟨fun h => ?_, fun h => ?_⟩
  · simp only [derS, show vcR s c = false by simpa using h]
    rfl
  have hvc' : vcR s c = true := by simpa using h
  rw [q1b]
  refine ⟨fun st => ∃ (k : Nat) (x : Ce), k ≤ s.cs.length ∧ st = [.i k, eC x] ∧ derN s (s.cs.length - k) x = derS s c, fun st => s.cs.length - (st.getD 0 .u).int.toNat, ⟨0, c, Nat.zero_le _, rfl, by rw [Nat.sub_zero, der_len hv hvc', derS, if_pos hvc']⟩, ?_⟩
  rintro st - ⟨k, x, hk, rfl, hP⟩
  rw [go_br]
  refine ⟨fun hlt => ?_, fun hlt => ?_⟩
  · simp only [q00, go_br, q01, q02, allSay, X.says, X.ev, X.evs, evl, tblS, List.getD_cons_zero, List.getD_cons_succ, List.getElem?_cons_zero, List.getElem?_cons_succ, tt_b, int_i, str_s, rs_r, Option.isSome_some, Option.getD_some, decide_eq_true_eq, decide_eq_false_iff_not, dS_eS, dC_eC, dU_eU, dW_eW, dY_eY, eC_0, eC_1, eU_0, eU_1, eW_0, eW_1, eW_2, eY_0, eY_1, eS_0, eS_1, eS_2, eS_3, eS_4, eS_5, List.length_map, i_inj, b_inj, s_inj, eC_eq, eU_eq, eW_eq, eY_eq, eS_eq, rng64, List.take_succ_cons, List.take_zero, List.nil_append, List.cons_append, decide_true, decide_false, Bool.or_true, true_and, and_true] at hlt
    have hkl : k < s.cs.length := by omega
    obtain ⟨n, hn⟩ : ∃ n, s.cs.length - k = n + 1 := ⟨s.cs.length - k - 1, by omega⟩
    rw [hn] at hP
    unfold derN at hP
    have hn2 : s.cs.length - (k + 1) = n := by omega
    have ht := hvs.tag_in x.n
    by_cases h0 : x.t = 0
    · cases hin : inS s x.n with
      | true =>
        have h3 := inS_iff.1 hin
        rw [hin] at ht
        have ht' : ¬ tagS s x.n < 0 := by have := of_decide_eq_true ht; omega
        simp only [q00, go_br, q01, q02, allSay, X.says, X.ev, X.evs, evl, tblS, List.getD_cons_zero, List.getD_cons_succ, List.getElem?_cons_zero, List.getElem?_cons_succ, tt_b, int_i, str_s, rs_r, Option.isSome_some, Option.getD_some, decide_eq_true_eq, decide_eq_false_iff_not, dS_eS, dC_eC, dU_eU, dW_eW, dY_eY, eC_0, eC_1, eU_0, eU_1, eW_0, eW_1, eW_2, eY_0, eY_1, eS_0, eS_1, eS_2, eS_3, eS_4, eS_5, List.length_map, i_inj, b_inj, s_inj, eC_eq, eU_eq, eW_eq, eY_eq, eS_eq, rng64, List.take_succ_cons, List.take_zero, List.nil_append, List.cons_append, decide_true, decide_false, Bool.or_true, true_and, and_true, gSIi, cell_get hin, h0, ht', h3.1, h3.2]
        refine ⟨fun hx => ?_, fun hx => ?_⟩
        · have hx' : cellAt s x.n = x := by simpa using hx
          rw [if_neg (fun q => q.2.2 hx')] at hP
          rw [hP]
        · have hx' : cellAt s x.n ≠ x := by simpa using hx
          rw [if_pos ⟨h0, hin, hx'⟩] at hP
          refine ⟨⟨by omega, by omega⟩, ?_⟩
          rw [updB, if_pos rfl]
          refine ⟨⟨k + 1, cellAt s x.n, by omega, by simp, by rw [hn2]; exact hP⟩, ?_⟩
          simp [D.int]
          omega
      | false =>
        rw [hin] at ht
        have ht' : tagS s x.n < 0 := by have := of_decide_eq_false ht; omega
        rw [if_neg (fun q => by rw [hin] at q; cases q.2.1)] at hP
        simp only [q00, go_br, q01, q02, allSay, X.says, X.ev, X.evs, evl, tblS, List.getD_cons_zero, List.getD_cons_succ, List.getElem?_cons_zero, List.getElem?_cons_succ, tt_b, int_i, str_s, rs_r, Option.isSome_some, Option.getD_some, decide_eq_true_eq, decide_eq_false_iff_not, dS_eS, dC_eC, dU_eU, dW_eW, dY_eY, eC_0, eC_1, eU_0, eU_1, eW_0, eW_1, eW_2, eY_0, eY_1, eS_0, eS_1, eS_2, eS_3, eS_4, eS_5, List.length_map, i_inj, b_inj, s_inj, eC_eq, eU_eq, eW_eq, eY_eq, eS_eq, rng64, List.take_succ_cons, List.take_zero, List.nil_append, List.cons_append, decide_true, decide_false, Bool.or_true, true_and, and_true, gSIi, h0, ht', ← hP]
        simp
    · rw [if_neg (fun q => h0 q.1)] at hP
      simp only [q00, go_br, q01, q02, allSay, X.says, X.ev, X.evs, evl, tblS, List.getD_cons_zero, List.getD_cons_succ, List.getElem?_cons_zero, List.getElem?_cons_succ, tt_b, int_i, str_s, rs_r, Option.isSome_some, Option.getD_some, decide_eq_true_eq, decide_eq_false_iff_not, dS_eS, dC_eC, dU_eU, dW_eW, dY_eY, eC_0, eC_1, eU_0, eU_1, eW_0, eW_1, eW_2, eY_0, eY_1, eS_0, eS_1, eS_2, eS_3, eS_4, eS_5, List.length_map, i_inj, b_inj, s_inj, eC_eq, eU_eq, eW_eq, eY_eq, eS_eq, rng64, List.take_succ_cons, List.take_zero, List.nil_append, List.cons_append, decide_true, decide_false, Bool.or_true, true_and, and_true, gSIi, h0, ← hP]
      simp
  · simp only [q00, go_br, q01, q02, allSay, X.says, X.ev, X.evs, evl, tblS, List.getD_cons_zero, List.getD_cons_succ, List.getElem?_cons_zero, List.getElem?_cons_succ, tt_b, int_i, str_s, rs_r, Option.isSome_some, Option.getD_some, decide_eq_true_eq, decide_eq_false_iff_not, dS_eS, dC_eC, dU_eU, dW_eW, dY_eY, eC_0, eC_1, eU_0, eU_1, eW_0, eW_1, eW_2, eY_0, eY_1, eS_0, eS_1, eS_2, eS_3, eS_4, eS_5, List.length_map, i_inj, b_inj, s_inj, eC_eq, eU_eq, eW_eq, eY_eq, eS_eq, rng64, List.take_succ_cons, List.take_zero, List.nil_append, List.cons_append, decide_true, decide_false, Bool.or_true, true_and, and_true] at hlt ⊢
    have : k = s.cs.length := by omega
    subst this
    rw [Nat.sub_self] at hP
    rw [← hP, derN]
def getQ (s : So) (c : Ce) (l : Int) (n : Nat) : Bool := validR s && (vcR s c && (decide (0 ≤ l) && decide (l < n)))
def gGet1 (n : Nat) : List D → Option (List D)
  | [c, l, s] => if getQ (dS s) (dC c) l.int n then some [eT (getN (dS s) n (dC c) l.int).1, .i (getN (dS s) n (dC c) l.int).2] else none
  | _ => none
theorem getL_neg {g : Ce → Int → Te × Int} {l : Int} (h : l < 0) : ∀ cs, getL g cs l = ([], l)
  | [] => rfl
  | c :: cs => if_pos h
theorem args_drop {s : So} {n : Int} {m k : Nat} (h : k < m) : (argsOf s n m).drop k = cellAt s (n + 1 + k) :: (argsOf s n m).drop (k + 1) := by
  have hl : k < (argsOf s n m).length := by simp [argsOf, h]
  rw [List.drop_eq_getElem_cons hl]
  simp [argsOf]
theorem sy_get {s : So} {i : Int} (h : 0 ≤ arS s i) : (D.r (s.ys.map eY)).get i = eY (syAt s i) := get_r eY (ar_rng h).1 (ar_rng h).2.1
theorem e_var (n : Int) : D.a ((D.a ((eT zT).fs.set 0 (.i 0))).fs.set 1 (.i n)) = eT (.mk 0 n ⟨#[]⟩ []) := rfl
theorem e_str (x : ByteArray) : D.a ((D.a ((eT zT).fs.set 0 (.i 3))).fs.set 2 (.s x)) = eT (.mk 3 0 x []) := rfl

theorem ok_cells_Get_1 : ∀ n, FOk q0x (gGet1 n)
  | 0 => (FOk.none enter_cells_Get_1).sub fun ds outs h => by
    unfold gGet1 at h
    split at h
    · simp only [getQ, Option.ite_none_right_eq_some, Bool.and_eq_true, decide_eq_true_eq] at h
      omega
    · cases h
  | f + 1 => fok_cells_Get_1 (ok_cells_Get_1 f) ok_cells_Deref ok_term_Int q3n ok_term_Atom q23 fun ds outs hw hg => by
    obtain ⟨d, r, rfl, hd, e, r', rfl, he, e2, r2, rfl, he2, hw⟩ := hw
    obtain rfl : r2 = [] := hw
    obtain ⟨c, rfl, hc⟩ := wfC hd
    obtain ⟨l, rfl, hl⟩ := wfI he
    obtain ⟨s, rfl, hs⟩ := wfS he2
    simp only [gGet1, getQ, dS_eS, dC_eC, int_i, Option.ite_none_right_eq_some, Option.some.injEq, Bool.and_eq_true, decide_eq_true_eq] at hg
    obtain ⟨⟨hv, hvc, h0, hf⟩, rfl⟩ := hg
    have h0 := of_decide_eq_true h0
    have hf := of_decide_eq_true hf
    have hlen := vr_len hv
    have hd := derS_vc hv hvc
    have hder : gDer [eS s, eC c] = some [eC (derS s c)] := by simp only [gDer, dS_eS, dC_eC, hv, if_true]
    simp only [q2z, q00, go_br, q01, q02, allSay, X.says, X.ev, X.evs, evl, tblS, List.getD_cons_zero, List.getD_cons_succ, List.getElem?_cons_zero, List.getElem?_cons_succ, tt_b, int_i, str_s, rs_r, Option.isSome_some, Option.getD_some, decide_eq_true_eq, decide_eq_false_iff_not, dS_eS, dC_eC, dU_eU, dW_eW, dY_eY, eC_0, eC_1, eU_0, eU_1, eW_0, eW_1, eW_2, eY_0, eY_1, eS_0, eS_1, eS_2, eS_3, eS_4, eS_5, List.length_map, i_inj, b_inj, s_inj, eC_eq, eU_eq, eW_eq, eY_eq, eS_eq, rng64, List.take_succ_cons, List.take_zero, List.nil_append, List.cons_append, decide_true, decide_false, Bool.or_true, true_and, and_true, dT_eT, eT_0, eT_1, eT_2, eT_3, eT_eq, eT_z, hder, gIt, gSIi, gSt]
    refine ⟨⟨by omega, by omega⟩, fun hn => ?_, fun hn => ?_⟩
    · rw [getN, if_pos hn]
    have hn' : ¬ l - 1 < 0 := hn
    unfold getN
    simp only [if_neg hn']
    refine ⟨fun h1 => ?_, fun h1 => ?_⟩
    · rw [if_pos h1]
    simp only [if_neg h1]
    have h2' : (derS s c).t = 2 → arS s (derS s c).n = 0 := fun ht => by
      simp only [vcR, ht] at hd
      simpa using hd
    have h3' : (derS s c).t = 3 → tagS s (derS s c).n = 4 := fun ht => by
      simp only [vcR, ht] at hd
      simpa using hd
    by_cases h2 : (derS s c).t = 2
    · have ha := h2' h2
      have hsy := sy_get (s := s) (i := (derS s c).n) (by omega)
      have hr := ar_rng (s := s) (n := (derS s c).n) (by omega)
      have hnm := vr_name hv (n := (derS s c).n) (by omega)
      simp [h2, ha, hsy, eY_0, hr.1, hr.2.1, str_s, atomT_ok hnm]
    simp only [h2]
    by_cases h3 : (derS s c).t = 3
    · have htag := h3' h3
      have hin := tag_in' (by decide) htag
      have htag' := htag
      rw [tagS_in hin] at htag'
      obtain ⟨a1, a2, a3⟩ := vr_fun hv hin htag'
      have hr := ar_rng (s := s) (n := (cellAt s (derS s c).n).n) (by omega)
      have hsy := sy_get (s := s) (i := (cellAt s (derS s c).n).n) (by omega)
      have hi := inS_iff.1 hin
      have hge : (0 : Int) ≤ arS s (cellAt s (derS s c).n).n := by omega
      have hsr : (syAt s (cellAt s (derS s c).n).n).ar = arS s (cellAt s (derS s c).n).n := hr.2.2.symm
      simp only [h3, htag, q00, go_br, q01, q02, allSay, X.says, X.ev, X.evs, evl, tblS, List.getD_cons_zero, List.getD_cons_succ, List.getElem?_cons_zero, List.getElem?_cons_succ, tt_b, int_i, str_s, rs_r, Option.isSome_some, Option.getD_some, decide_eq_true_eq, decide_eq_false_iff_not, dS_eS, dC_eC, dU_eU, dW_eW, dY_eY, eC_0, eC_1, eU_0, eU_1, eW_0, eW_1, eW_2, eY_0, eY_1, eS_0, eS_1, eS_2, eS_3, eS_4, eS_5, List.length_map, i_inj, b_inj, s_inj, eC_eq, eU_eq, eW_eq, eY_eq, eS_eq, rng64, List.take_succ_cons, List.take_zero, List.nil_append, List.cons_append, decide_true, decide_false, Bool.or_true, true_and, and_true, dT_eT, eT_0, eT_1, eT_2, eT_3, eT_eq, eT_z, cell_get hin, hsy, hr.1, hr.2.1, hi.1, hi.2, hge]
      generalize hF : getL (getN s f) (argsOf s (derS s c).n (arS s (cellAt s (derS s c).n).n).toNat) (l - 1) = F
      generalize har : arS s (cellAt s (derS s c).n).n = ar at *
      refine ⟨fun h => by simp at h, fun _ => ⟨fun _ => ⟨⟨by omega, by omega⟩, ?_⟩, fun h => by simp at h⟩⟩
      simp only [if_false, if_true]
      rw [q1b]
      refine ⟨fun st => ∃ (k : Nat) (x : Int) (ts : List Te), (k : Int) ≤ ar ∧ -1 ≤ x ∧ x ≤ l - 1 ∧ ts.length = k ∧ st = [.i ((derS s c).n + 1 + k), .i x, eT (.mk 3 0 (syAt s (cellAt s (derS s c).n).n).name ts)] ∧ F = (ts ++ (getL (getN s f) ((argsOf s (derS s c).n ar.toNat).drop k) x).1, (getL (getN s f) ((argsOf s (derS s c).n ar.toNat).drop k) x).2), fun st => ar.toNat - ((st.getD 0 .u).int - (derS s c).n - 1).toNat, ⟨0, l - 1, [], by omega, by omega, by omega, rfl, ?_, by rw [← hF]; rfl⟩, ?_⟩
      · simp only [X.evs, q00, go_br, q01, q02, allSay, X.says, X.ev, X.evs, evl, tblS, List.getD_cons_zero, List.getD_cons_succ, List.getElem?_cons_zero, List.getElem?_cons_succ, tt_b, int_i, str_s, rs_r, Option.isSome_some, Option.getD_some, decide_eq_true_eq, decide_eq_false_iff_not, dS_eS, dC_eC, dU_eU, dW_eW, dY_eY, eC_0, eC_1, eU_0, eU_1, eW_0, eW_1, eW_2, eY_0, eY_1, eS_0, eS_1, eS_2, eS_3, eS_4, eS_5, List.length_map, i_inj, b_inj, s_inj, eC_eq, eU_eq, eW_eq, eY_eq, eS_eq, rng64, List.take_succ_cons, List.take_zero, List.nil_append, List.cons_append, decide_true, decide_false, Bool.or_true, true_and, and_true, dT_eT, eT_0, eT_1, eT_2, eT_3, eT_eq, eT_z, hder, cell_get hin, hsy, e_str]
        simp
      rintro st - ⟨k, x, ts, hk, hx1, hx2, hts, rfl, hFk⟩
      by_cases hkl : (k : Int) < ar
      · obtain ⟨b1, b2⟩ := a3 k hkl
        have b3 := inS_iff.1 b1
        have ht0 : 0 ≤ tagS s ((derS s c).n + 1 + k) := by
          have := (validR_vs hv).tag_in ((derS s c).n + 1 + k)
          rw [b1] at this
          exact of_decide_eq_true this
        have hle : (derS s c).n + 1 + k ≤ (derS s c).n + ar := by omega
        by_cases hx0 : 0 ≤ x
        · have hq : gGet1 f [eC (cellAt s ((derS s c).n + 1 + k)), .i x, eS s] = some [eT (getN s f (cellAt s ((derS s c).n + 1 + k)) x).1, .i (getN s f (cellAt s ((derS s c).n + 1 + k)) x).2] := by
            have h1 : x < f := by omega
            simp only [gGet1, getQ, dS_eS, dC_eC, int_i, hv, b2, hx0, h1, decide_true, Bool.and_true, if_true]
          have hnx := getN_le s f (cellAt s ((derS s c).n + 1 + k)) x hx0
          simp only [q00, go_br, q01, q02, allSay, X.says, X.ev, X.evs, evl, tblS, List.getD_cons_zero, List.getD_cons_succ, List.getElem?_cons_zero, List.getElem?_cons_succ, tt_b, int_i, str_s, rs_r, Option.isSome_some, Option.getD_some, decide_eq_true_eq, decide_eq_false_iff_not, dS_eS, dC_eC, dU_eU, dW_eW, dY_eY, eC_0, eC_1, eU_0, eU_1, eW_0, eW_1, eW_2, eY_0, eY_1, eS_0, eS_1, eS_2, eS_3, eS_4, eS_5, List.length_map, i_inj, b_inj, s_inj, eC_eq, eU_eq, eW_eq, eY_eq, eS_eq, rng64, List.take_succ_cons, List.take_zero, List.nil_append, List.cons_append, decide_true, decide_false, Bool.or_true, true_and, and_true, dT_eT, eT_0, eT_1, eT_2, eT_3, eT_eq, eT_z, hder, cell_get hin, cell_get b1, hsy, hsr, gSIi, hle, ht0, hq, hx0, Te_l, b3.1, b3.2]
          refine ⟨⟨by omega, by omega⟩, fun _ => ⟨by omega, ⟨by omega, by omega⟩, ?_⟩, fun h => by simp at h⟩
          rw [updB, if_pos rfl]
          refine ⟨⟨k + 1, (getN s f (cellAt s ((derS s c).n + 1 + k)) x).2, ts ++ [(getN s f (cellAt s ((derS s c).n + 1 + k)) x).1], by omega, by omega, by omega, by simp [hts], ?_, ?_⟩, ?_⟩
          · rw [eT_snoc]
            simp
            omega
          · rw [hFk, args_drop (by omega), getL, if_neg (by omega)]
            simp
          · simp [D.int]
            omega
        · simp only [q00, go_br, q01, q02, allSay, X.says, X.ev, X.evs, evl, tblS, List.getD_cons_zero, List.getD_cons_succ, List.getElem?_cons_zero, List.getElem?_cons_succ, tt_b, int_i, str_s, rs_r, Option.isSome_some, Option.getD_some, decide_eq_true_eq, decide_eq_false_iff_not, dS_eS, dC_eC, dU_eU, dW_eW, dY_eY, eC_0, eC_1, eU_0, eU_1, eW_0, eW_1, eW_2, eY_0, eY_1, eS_0, eS_1, eS_2, eS_3, eS_4, eS_5, List.length_map, i_inj, b_inj, s_inj, eC_eq, eU_eq, eW_eq, eY_eq, eS_eq, rng64, List.take_succ_cons, List.take_zero, List.nil_append, List.cons_append, decide_true, decide_false, Bool.or_true, true_and, and_true, dT_eT, eT_0, eT_1, eT_2, eT_3, eT_eq, eT_z, hder, cell_get hin, cell_get b1, hsy, hsr, gSIi, hle, ht0, hx0]
          rw [getL_neg (by omega)] at hFk
          refine ⟨⟨by omega, by omega⟩, fun h => by simp at h, fun _ => ?_⟩
          simp [hFk]
      · have hle : ¬ (derS s c).n + 1 + k ≤ (derS s c).n + ar := by omega
        have : (argsOf s (derS s c).n ar.toNat).drop k = [] := List.drop_eq_nil_of_le (by simp [argsOf]; omega)
        rw [this] at hFk
        simp only [q00, go_br, q01, q02, allSay, X.says, X.ev, X.evs, evl, tblS, List.getD_cons_zero, List.getD_cons_succ, List.getElem?_cons_zero, List.getElem?_cons_succ, tt_b, int_i, str_s, rs_r, Option.isSome_some, Option.getD_some, decide_eq_true_eq, decide_eq_false_iff_not, dS_eS, dC_eC, dU_eU, dW_eW, dY_eY, eC_0, eC_1, eU_0, eU_1, eW_0, eW_1, eW_2, eY_0, eY_1, eS_0, eS_1, eS_2, eS_3, eS_4, eS_5, List.length_map, i_inj, b_inj, s_inj, eC_eq, eU_eq, eW_eq, eY_eq, eS_eq, rng64, List.take_succ_cons, List.take_zero, List.nil_append, List.cons_append, decide_true, decide_false, Bool.or_true, true_and, and_true, dT_eT, eT_0, eT_1, eT_2, eT_3, eT_eq, eT_z, hder, cell_get hin, hsy, hsr, gSIi, hle]
        refine ⟨⟨by omega, by omega⟩, fun h => by simp at h, fun _ => ?_⟩
        simp [hFk, getL]
    · simp only [h3, q00, go_br, q01, q02, allSay, X.says, X.ev, X.evs, evl, tblS, List.getD_cons_zero, List.getD_cons_succ, List.getElem?_cons_zero, List.getElem?_cons_succ, tt_b, int_i, str_s, rs_r, Option.isSome_some, Option.getD_some, decide_eq_true_eq, decide_eq_false_iff_not, dS_eS, dC_eC, dU_eU, dW_eW, dY_eY, eC_0, eC_1, eU_0, eU_1, eW_0, eW_1, eW_2, eY_0, eY_1, eS_0, eS_1, eS_2, eS_3, eS_4, eS_5, List.length_map, i_inj, b_inj, s_inj, eC_eq, eU_eq, eW_eq, eY_eq, eS_eq, rng64, List.take_succ_cons, List.take_zero, List.nil_append, List.cons_append, decide_true, decide_false, Bool.or_true, true_and, and_true, dT_eT, eT_0, eT_1, eT_2, eT_3, eT_eq, eT_z]
      refine ⟨fun h => by simp at h, fun _ => ⟨by simp, fun h => by simp at h, fun _ => ?_⟩⟩
      simp only [e_var, if_false]

def getS (s : So) (c : Ce) : Te × Int := if vcR s c then (if (getN s 2001 c 2000).2 < 0 then (zT, 2) else ((getN s 2001 c 2000).1, 0)) else (zT, 1)
def gGet : List D → Option (List D)
  | [s, c] => if validR (dS s) then some [eT (getS (dS s) (dC c)).1, .i (getS (dS s) (dC c)).2] else none
  | _ => none
theorem ok_cells_Get : FOk q1q gGet := fok_cells_Get (ok_cells_Get_1 2001) q1n fun ds outs hw hg => by
  obtain ⟨d, r, rfl, hd, e, r', rfl, he, rfl⟩ := hw
  obtain ⟨s, rfl, hs⟩ := wfS hd
  obtain ⟨c, rfl, hc⟩ := wfC he
  simp only [gGet, dS_eS, dC_eC, Option.ite_none_right_eq_some, Option.some.injEq] at hg
  obtain ⟨hv, rfl⟩ := hg
  have hvc : ∀ c, vcP s c = vcR s c := (validR_vs hv).vc
  simp only [q3m, q00, go_br, q01, q02, allSay, X.says, X.ev, X.evs, evl, tblS, List.getD_cons_zero, List.getD_cons_succ, List.getElem?_cons_zero, List.getElem?_cons_succ, tt_b, int_i, str_s, rs_r, Option.isSome_some, Option.getD_some, decide_eq_true_eq, decide_eq_false_iff_not, dS_eS, dC_eC, dU_eU, dW_eW, dY_eY, eC_0, eC_1, eU_0, eU_1, eW_0, eW_1, eW_2, eY_0, eY_1, eS_0, eS_1, eS_2, eS_3, eS_4, eS_5, List.length_map, i_inj, b_inj, s_inj, eC_eq, eU_eq, eW_eq, eY_eq, eS_eq, rng64, List.take_succ_cons, List.take_zero, List.nil_append, List.cons_append, decide_true, decide_false, Bool.or_true, true_and, and_true, dT_eT, eT_0, eT_1, eT_2, eT_3, eT_eq, eT_z, gSCb, hvc, getS]
  cases h : vcR s c with
  | false => simp
  | true =>
    have hq : gGet1 2001 [eC c, .i 2000, eS s] = some [eT (getN s 2001 c 2000).1, .i (getN s 2001 c 2000).2] := by
      simp only [gGet1, getQ, dS_eS, dC_eC, int_i, hv, h]
      rfl
    simp only [hq]
    by_cases hn : (getN s 2001 c 2000).2 < 0
    · simp [hn, int_i]
    · simp [hn, int_i]
theorem validT_z : validT zT = true := by decide
theorem getS_valid {s : So} (h : validR s = true) (c : Ce) : validT (getS s c).1 = true := by
  unfold getS
  split
  · rename_i hc
    split
    · exact validT_z
    · exact get_valid h hc (by omega) (by omega) (by omega)
  · exact validT_z

end Go.Proofs.Ytmebmpgffhajbaa


namespace Go.Proofs.Ytmebmpgffhajbaa
open Go.RowKit
set_option linter.unusedVariables false
set_option linter.unusedSimpArgs false

structure Ro where
  cs : List Ce
  tp : List Int
  ms : List Int
def eR (r : Ro) : D := .a [.r (r.cs.map eC), .r (r.tp.map D.i), .r (r.ms.map D.i)]
def dR (d : D) : Ro := ⟨(d.fld 0).rs.map dC, (d.fld 1).rs.map D.int, (d.fld 2).rs.map D.int⟩
theorem dR_eR (r : Ro) : dR (eR r) = r := by
  show Ro.mk ((r.cs.map eC).map dC) ((r.tp.map D.i).map D.int) ((r.ms.map D.i).map D.int) = r
  rw [map_id' dC_eC, map_id' fun _ => rfl, map_id' fun _ => rfl]
theorem eR_inj {a b : Ro} (h : eR a = eR b) : a = b := by rw [← dR_eR a, h, dR_eR b]
theorem eR_0 (r : Ro) : (eR r).fld 0 = .r (r.cs.map eC) := rfl
theorem eR_1 (r : Ro) : (eR r).fld 1 = .r (r.tp.map D.i) := rfl
theorem eR_2 (r : Ro) : (eR r).fld 2 = .r (r.ms.map D.i) := rfl
instance : DecidableEq Ro := fun a b => if h : eR a = eR b then .isTrue (eR_inj h) else .isFalse fun e => h (e ▸ rfl)
structure Ro.ok (r : Ro) : Prop where
  cs : r.cs.length ≤ 8796093021952 ∧ ∀ c ∈ r.cs, c.ok
  tp : r.tp.length ≤ 17592186043904 ∧ ∀ c ∈ r.tp, i64 c
  ms : r.ms.length ≤ 17592186043904 ∧ ∀ c ∈ r.ms, i64 c
theorem wfIsR {d : D} (h : Wf d (.row 3)) : ∃ l : List Int, d = .r (l.map D.i) ∧ l.length ≤ 17592186043904 ∧ ∀ c ∈ l, i64 c := by
  obtain ⟨l, rfl, h1, h2⟩ := h.row_of (te := .int .i64) rfl
  obtain ⟨m, rfl, h3⟩ := of_all (e := D.i) (P := i64) fun x hx => wfI (h2 x hx)
  have e : LM (.int .i64) = 17592186043904 := by kernel_rfl
  rw [e, List.length_map] at h1
  exact ⟨m, rfl, h1, h3⟩
theorem wfR {d : D} (h : Wf d T_Roots) : ∃ r, d = eR r ∧ r.ok := by
  obtain ⟨ds, rfl, hl⟩ := h.st_of (fs := [T_Cells, .row 3, .row 3]) rfl
  obtain ⟨d0, r, rfl, h0, hl⟩ := wfL_cons hl
  obtain ⟨d1, d2, rfl, h1, h2⟩ := wfL2 hl
  obtain ⟨a, rfl, q0⟩ := wfCs h0
  obtain ⟨b, rfl, q1⟩ := wfIsR h1
  obtain ⟨c, rfl, q2⟩ := wfIsR h2
  exact ⟨⟨a, b, c⟩, rfl, q0, q1, q2⟩
theorem sr_of {ds : List D} (hw : WfA [.val T_Store, .val T_Roots] ds) : ∃ s r, ds = [eS s, eR r] ∧ s.ok ∧ r.ok := by
  obtain ⟨d, r, rfl, hd, e, r', rfl, he, rfl⟩ := hw
  obtain ⟨s, rfl, hs⟩ := wfS hd
  obtain ⟨r, rfl, hr⟩ := wfR he
  exact ⟨s, r, rfl, hs, hr⟩

def inN (n : Nat) (x : Int) : Bool := decide (0 ≤ x) && decide (x ≤ n)
def okR (v : So → Bool) (vc : So → Ce → Bool) (s : So) (r : Ro) : Bool := v s && ((List.range r.cs.length).all (fun i => vc s (r.cs.getD i default)) && ((List.range r.tp.length).all (fun i => inN s.cs.length (r.tp.getD i default)) && (List.range r.ms.length).all fun i => inN s.tr.length (r.ms.getD i default)))
def gSRb (f : So → Ro → Bool) : List D → Option (List D)
  | [s, r] => some [.b (f (dS s) (dR r))]
  | _ => none
theorem inN_not {n : Nat} {x : Int} : (decide (x < 0) || decide ((n : Int) < x)) = !inN n x := by
  unfold inN
  by_cases h1 : x < 0
  · have : ¬ 0 ≤ x := by omega
    simp [h1, this]
  · by_cases h2 : (n : Int) < x
    · have : ¬ x ≤ (n : Int) := by omega
      simp [h2, this]
    · have a1 : 0 ≤ x := by omega
      have a2 : x ≤ (n : Int) := by omega
      simp [h1, h2, a1, a2]
theorem get_i {l : List Int} {k : Nat} (h : k < l.length) : (D.r (l.map D.i)).get (k : Int) = .i (l.getD k default) := get_n D.i h

theorem ok_gc_Valid : FOk q0n (gSRb (okR validP vcP)) := fok_gc_Valid ok_cells_Valid q1n fun ds outs hw hg => by
  obtain ⟨s, r, rfl, hs, hr⟩ := sr_of hw
  simp only [gSRb, dS_eS, dR_eR, Option.some.injEq] at hg
  subst hg
  have hl := hs.cs.1
  have hl2 := hs.tr.1
  have h1 := hr.cs.1
  have h2 := hr.tp.1
  have h3 := hr.ms.1
  rw [q2r, q00]
  refine ⟨by simp only [q00, go_br, q01, q02, allSay, X.says, X.ev, X.evs, evl, tblS, List.getD_cons_zero, List.getD_cons_succ, List.getElem?_cons_zero, List.getElem?_cons_succ, tt_b, int_i, str_s, rs_r, Option.isSome_some, Option.getD_some, decide_eq_true_eq, decide_eq_false_iff_not, dS_eS, dC_eC, dU_eU, dW_eW, dY_eY, eC_0, eC_1, eU_0, eU_1, eW_0, eW_1, eW_2, eY_0, eY_1, eS_0, eS_1, eS_2, eS_3, eS_4, eS_5, List.length_map, i_inj, b_inj, s_inj, eC_eq, eU_eq, eW_eq, eY_eq, eS_eq, rng64, List.take_succ_cons, List.take_zero, List.nil_append, List.cons_append, decide_true, decide_false, Bool.or_true, true_and, and_true, gSb], ?_⟩
  rw [go_br]
  refine ⟨fun hx => ?_, fun hx => ?_⟩
  · have hh : validP s = false := by simpa [X.ev, X.evs, evl, tblS, gSb, dS_eS, D.tt] using hx
    simp [q01, X.evs, X.ev, okR, hh]
  have hh : validP s = true := by simpa [X.ev, X.evs, evl, tblS, gSb, dS_eS, D.tt] using hx
  refine scan_ok r.cs.length (fun i => vcP s (r.cs.getD i default)) (v0 := .b false) rfl fun k B' hk hP hB _ => ?_
  rw [go_br]
  refine ⟨fun hlt => ?_, fun hlt => ?_⟩
  · have hkl : k < r.cs.length := by simpa [X.ev, evl, eR_0, D.int, D.rs, D.tt] using hlt
    simp only [q00, go_br, q01, q02, allSay, X.says, X.ev, X.evs, evl, tblS, List.getD_cons_zero, List.getD_cons_succ, List.getElem?_cons_zero, List.getElem?_cons_succ, tt_b, int_i, str_s, rs_r, Option.isSome_some, Option.getD_some, decide_eq_true_eq, decide_eq_false_iff_not, dS_eS, dC_eC, dU_eU, dW_eW, dY_eY, eC_0, eC_1, eU_0, eU_1, eW_0, eW_1, eW_2, eY_0, eY_1, eS_0, eS_1, eS_2, eS_3, eS_4, eS_5, List.length_map, i_inj, b_inj, s_inj, eC_eq, eU_eq, eW_eq, eY_eq, eS_eq, rng64, List.take_succ_cons, List.take_zero, List.nil_append, List.cons_append, decide_true, decide_false, Bool.or_true, true_and, and_true, gSCb, eR_0, get_n eC hkl, rs_r]
    refine ⟨⟨by omega, by omega⟩, fun hb => ?_, fun hb => ⟨⟨by omega, by omega⟩, ?_⟩⟩
    · have := all_not (P := fun i => vcP s (r.cs.getD i default)) hkl (by simpa only [Bool.not_eq_true'] using hb)
      simp only [okR, this, Bool.false_and, Bool.and_false]
    · exact hB hkl (by simpa only [Bool.not_eq_false'] using hb)
  have hc : (List.range r.cs.length).all (fun i => vcP s (r.cs.getD i default)) = true := by
    have : k = r.cs.length := by
      have : ¬ (k < r.cs.length) := by simpa [X.ev, evl, eR_0, D.int, D.rs, D.tt] using hlt
      omega
    subst this
    exact all_yes hP
  refine scan_ok r.tp.length (fun i => inN s.cs.length (r.tp.getD i default)) (v0 := .b false) rfl fun k B' hk hP hB _ => ?_
  rw [go_br]
  refine ⟨fun hlt => ?_, fun hlt => ?_⟩
  · have hkl : k < r.tp.length := by simpa [X.ev, evl, eR_1, D.int, D.rs, D.tt] using hlt
    simp only [q00, go_br, q01, q02, allSay, X.says, X.ev, X.evs, evl, tblS, List.getD_cons_zero, List.getD_cons_succ, List.getElem?_cons_zero, List.getElem?_cons_succ, tt_b, int_i, str_s, rs_r, Option.isSome_some, Option.getD_some, decide_eq_true_eq, decide_eq_false_iff_not, dS_eS, dC_eC, dU_eU, dW_eW, dY_eY, eC_0, eC_1, eU_0, eU_1, eW_0, eW_1, eW_2, eY_0, eY_1, eS_0, eS_1, eS_2, eS_3, eS_4, eS_5, List.length_map, i_inj, b_inj, s_inj, eC_eq, eU_eq, eW_eq, eY_eq, eS_eq, rng64, List.take_succ_cons, List.take_zero, List.nil_append, List.cons_append, decide_true, decide_false, Bool.or_true, true_and, and_true, eR_1, get_i hkl, rs_r, inN_not]
    refine ⟨⟨by omega, by omega⟩, fun hb => ?_, fun hb => ⟨⟨by omega, by omega⟩, ?_⟩⟩
    · have := all_not (P := fun i => inN s.cs.length (r.tp.getD i default)) hkl (by simpa only [Bool.not_eq_true'] using hb)
      simp only [okR, this, Bool.false_and, Bool.and_false]
    · exact hB hkl (by simpa only [Bool.not_eq_false'] using hb)
  have hc2 : (List.range r.tp.length).all (fun i => inN s.cs.length (r.tp.getD i default)) = true := by
    have : k = r.tp.length := by
      have : ¬ (k < r.tp.length) := by simpa [X.ev, evl, eR_1, D.int, D.rs, D.tt] using hlt
      omega
    subst this
    exact all_yes hP
  refine scan_ok r.ms.length (fun i => inN s.tr.length (r.ms.getD i default)) (v0 := .b false) rfl fun k B' hk hP hB _ => ?_
  rw [go_br]
  refine ⟨fun hlt => ?_, fun hlt => ?_⟩
  · have hkl : k < r.ms.length := by simpa [X.ev, evl, eR_2, D.int, D.rs, D.tt] using hlt
    simp only [q00, go_br, q01, q02, allSay, X.says, X.ev, X.evs, evl, tblS, List.getD_cons_zero, List.getD_cons_succ, List.getElem?_cons_zero, List.getElem?_cons_succ, tt_b, int_i, str_s, rs_r, Option.isSome_some, Option.getD_some, decide_eq_true_eq, decide_eq_false_iff_not, dS_eS, dC_eC, dU_eU, dW_eW, dY_eY, eC_0, eC_1, eU_0, eU_1, eW_0, eW_1, eW_2, eY_0, eY_1, eS_0, eS_1, eS_2, eS_3, eS_4, eS_5, List.length_map, i_inj, b_inj, s_inj, eC_eq, eU_eq, eW_eq, eY_eq, eS_eq, rng64, List.take_succ_cons, List.take_zero, List.nil_append, List.cons_append, decide_true, decide_false, Bool.or_true, true_and, and_true, eR_2, get_i hkl, rs_r, inN_not]
    refine ⟨⟨by omega, by omega⟩, fun hb => ?_, fun hb => ⟨⟨by omega, by omega⟩, ?_⟩⟩
    · have := all_not (P := fun i => inN s.tr.length (r.ms.getD i default)) hkl (by simpa only [Bool.not_eq_true'] using hb)
      simp only [okR, this, Bool.false_and, Bool.and_false]
    · exact hB hkl (by simpa only [Bool.not_eq_false'] using hb)
  have hc3 : (List.range r.ms.length).all (fun i => inN s.tr.length (r.ms.getD i default)) = true := by
    have : k = r.ms.length := by
      have : ¬ (k < r.ms.length) := by simpa [X.ev, evl, eR_2, D.int, D.rs, D.tt] using hlt
      omega
    subst this
    exact all_yes hP
  simp only [q01, X.evs, X.ev, okR, hh, hc, hc2, hc3, Bool.and_true]
theorem okR_eq {s : So} {r : Ro} : okR validP vcP s r = okR validR vcR s r := by
  unfold okR
  rw [valid_eq]
  cases h : validR s with
  | false => rfl
  | true =>
    have hv := validR_vs h
    simp only [hv.vc]

def gRClone : List D → Option (List D)
  | [r] => some [eR (dR r)]
  | _ => none
theorem ok_ref34_Clone : FOk q1i gRClone := fok_ref34_Clone fun ds outs hw hg => by
  obtain ⟨d, r, rfl, hd, rfl⟩ := hw
  obtain ⟨r, rfl, hr⟩ := wfR hd
  simp only [gRClone, dR_eR, Option.some.injEq] at hg
  subst hg
  have h1 := hr.cs.1
  have h2 := hr.tp.1
  have h3 := hr.ms.1
  simp [q2y, q00, go_br, q01, q02, allSay, X.says, X.ev, X.evs, evl, tblS, List.getD_cons_zero, List.getD_cons_succ, List.getElem?_cons_zero, List.getElem?_cons_succ, tt_b, int_i, str_s, rs_r, Option.isSome_some, Option.getD_some, decide_eq_true_eq, decide_eq_false_iff_not, dS_eS, dC_eC, dU_eU, dW_eW, dY_eY, eC_0, eC_1, eU_0, eU_1, eW_0, eW_1, eW_2, eY_0, eY_1, eS_0, eS_1, eS_2, eS_3, eS_4, eS_5, List.length_map, i_inj, b_inj, s_inj, eC_eq, eU_eq, eW_eq, eY_eq, eS_eq, rng64, List.take_succ_cons, List.take_zero, List.nil_append, List.cons_append, decide_true, decide_false, Bool.or_true, true_and, and_true, eR_0, eR_1, eR_2]
  exact ⟨⟨by omega, by omega, by omega⟩, rfl⟩

def smallB (s : So) (r : Ro) : Bool := decide (s.cs.length ≤ 300) && (decide (s.ys.length ≤ 100) && (decide (s.tr.length ≤ 300) && (decide (s.wk.length ≤ 50) && (decide (r.cs.length ≤ 50) && (decide (r.tp.length ≤ 50) && decide (r.ms.length ≤ 50))))))
theorem ok_law34_small : FOk q1h (gSRb smallB) := fok_law34_small fun ds outs hw hg => by
  obtain ⟨s, r, rfl, hs, hr⟩ := sr_of hw
  simp only [gSRb, dS_eS, dR_eR, Option.some.injEq] at hg
  subst hg
  have e : ∀ (a b : Nat), decide ((a : Int) ≤ (b : Nat)) = decide (a ≤ b) := fun a b => by
    by_cases h : a ≤ b
    · rw [decide_eq_true h, decide_eq_true (show (a : Int) ≤ (b : Nat) by omega)]
    · rw [decide_eq_false h, decide_eq_false (show ¬ (a : Int) ≤ (b : Nat) by omega)]
  have e300 : ∀ a : Nat, decide ((a : Int) ≤ 300) = decide (a ≤ 300) := fun a => e a 300
  have e100 : ∀ a : Nat, decide ((a : Int) ≤ 100) = decide (a ≤ 100) := fun a => e a 100
  have e50 : ∀ a : Nat, decide ((a : Int) ≤ 50) = decide (a ≤ 50) := fun a => e a 50
  simp only [q2u, q00, go_br, q01, q02, allSay, X.says, X.ev, X.evs, evl, tblS, List.getD_cons_zero, List.getD_cons_succ, List.getElem?_cons_zero, List.getElem?_cons_succ, tt_b, int_i, str_s, rs_r, Option.isSome_some, Option.getD_some, decide_eq_true_eq, decide_eq_false_iff_not, dS_eS, dC_eC, dU_eU, dW_eW, dY_eY, eC_0, eC_1, eU_0, eU_1, eW_0, eW_1, eW_2, eY_0, eY_1, eS_0, eS_1, eS_2, eS_3, eS_4, eS_5, List.length_map, i_inj, b_inj, s_inj, eC_eq, eU_eq, eW_eq, eY_eq, eS_eq, rng64, List.take_succ_cons, List.take_zero, List.nil_append, List.cons_append, decide_true, decide_false, Bool.or_true, true_and, and_true, eR_0, eR_1, eR_2, rs_r, e300, e100, e50, smallB, Bool.and_assoc]
end Go.Proofs.Ytmebmpgffhajbaa


namespace Go.Proofs.Ytmebmpgffhajbaa
open Go.RowKit
set_option linter.unusedVariables false
set_option linter.unusedSimpArgs false

abbrev eN (n : Nat) : D := .i (n : Int)
def dN (d : D) : Nat := d.int.toNat
theorem dN_eN (n : Nat) : dN (eN n) = n := by simp [dN, eN, D.int]
theorem mN (W : List Nat) : (W.map eN).map dN = W := map_id' dN_eN W
theorem wf64 {d : D} (h : Wf d (.int .u64)) : ∃ n : Nat, d = eN n ∧ n < 18446744073709551616 := by
  obtain ⟨n, rfl, hn⟩ := h.int
  simp only [rngB, Bool.and_eq_true, decide_eq_true_eq] at hn
  exact ⟨n.toNat, by rw [eN, Int.toNat_of_nonneg hn.1], by omega⟩
theorem wf64s {d : D} (h : Wf d (.row 94)) : ∃ W : List Nat, d = .r (W.map eN) ∧ W.length ≤ 17592186043904 ∧ ∀ x ∈ W, x < 18446744073709551616 := by
  obtain ⟨l, rfl, h1, h2⟩ := h.row_of (te := .int .u64) rfl
  obtain ⟨m, rfl, h3⟩ := of_all (e := eN) (P := fun x => x < 18446744073709551616) fun x hx => wf64 (h2 x hx)
  have e : LM (.int .u64) = 17592186043904 := by kernel_rfl
  rw [e, List.length_map] at h1
  exact ⟨m, rfl, h1, h3⟩

def bitW (W : List Nat) (i : Nat) : Bool := (W.getD (i / 64) 0).testBit (i % 64)
def setW (W : List Nat) (i : Nat) : List Nat := W.set (i / 64) (W.getD (i / 64) 0 ||| 2 ^ (i % 64))

theorem fdN (n k : Nat) : Int.fdiv (n : Int) (2 ^ k) = ((n / 2 ^ k : Nat) : Int) := by
  rw [Int.fdiv_eq_ediv_of_nonneg _ (by exact_mod_cast Nat.zero_le _)]
  norm_cast
theorem f8 (n k : Nat) : fnD 8 [.i (n : Int), .i (k : Int)] = eN (n / 2 ^ k) := by
  show D.i ((n : Int).fdiv (2 ^ (k : Int).toNat)) = _
  rw [Int.toNat_natCast, fdN]
theorem f13 (n k : Nat) : fnD 13 [.i (n : Int), .i (k : Int)] = eN (n &&& k) := by
  show D.i ((((n : Int).toNat &&& (k : Int).toNat : Nat)) : Int) = _
  rw [Int.toNat_natCast, Int.toNat_natCast]
theorem f14 (n k : Nat) : fnD 14 [.i (n : Int), .i (k : Int)] = eN (n ||| k) := by
  show D.i ((((n : Int).toNat ||| (k : Int).toNat : Nat)) : Int) = _
  rw [Int.toNat_natCast, Int.toNat_natCast]
theorem f15 {k : Nat} (h : k < 64) : fnD 15 [.i 1, .i (k : Int)] = eN (2 ^ k) := by
  show D.i ((1 * 2 ^ (k : Int).toNat) % 18446744073709551616) = _
  rw [Int.toNat_natCast, Int.one_mul]
  have h1 : (2 : Nat) ^ k < 18446744073709551616 := (Nat.pow_lt_pow_right (a := 2) (by omega) h : 2 ^ k < 2 ^ 64)
  have h2 : ((2 : Int) ^ k) = ((2 ^ k : Nat) : Int) := by norm_cast
  rw [h2]
  generalize (2 : Nat) ^ k = m at *
  rw [show (m : Int) % 18446744073709551616 = m by omega]
theorem f8_6 (n : Nat) : fnD 8 [.i (n : Int), .i 6] = eN (n / 64) := f8 n 6
theorem f13_63 (n : Nat) : fnD 13 [.i (n : Int), .i 63] = eN (n % 64) := by
  rw [show (63 : Int) = ((63 : Nat) : Int) from rfl, f13, show (63 : Nat) = 2 ^ 6 - 1 from rfl, Nat.and_two_pow_sub_one_eq_mod]
theorem f13_1 (n : Nat) : fnD 13 [.i (n : Int), .i 1] = eN (n % 2) := by
  rw [show (1 : Int) = ((1 : Nat) : Int) from rfl, f13, show (1 : Nat) = 2 ^ 1 - 1 from rfl, Nat.and_two_pow_sub_one_eq_mod]
theorem f0 (m k z : D) : fnD 0 [m, k, z] = (mfind k m.ms).getD z := rfl

def gHas : List D → Option (List D)
  | [.r w, .i at'] => if decide (0 ≤ at') && decide (at'.toNat / 64 < w.length) then some [.b (bitW (w.map dN) at'.toNat)] else none
  | _ => none
theorem ok_gc_marks_has : FOk q0b gHas := fok_gc_marks_has fun ds outs hw hg => by
  obtain ⟨d, r, rfl, hd, e, r', rfl, he, rfl⟩ := hw
  obtain ⟨W, rfl, hl, hW⟩ := wf64s hd
  obtain ⟨i, rfl, hi⟩ := wfI he
  simp only [gHas, mN, Bool.and_eq_true, decide_eq_true_eq, Option.ite_none_right_eq_some, Option.some.injEq, List.length_map] at hg
  obtain ⟨⟨h0, h1⟩, rfl⟩ := hg
  obtain ⟨a, rfl⟩ := Int.eq_ofNat_of_zero_le h0
  rw [Int.toNat_natCast] at h1 ⊢
  have hget : (D.r (W.map eN)).get (((a / 64 : Nat)) : Int) = eN (W.getD (a / 64) 0) := get_n eN h1
  have hw : W.getD (a / 64) 0 < 18446744073709551616 := by
    rw [List.getD_eq_getElem?_getD, List.getElem?_eq_getElem h1]
    exact hW _ (List.getElem_mem h1)
  have hq : W.getD (a / 64) 0 / 2 ^ (a % 64) ≤ W.getD (a / 64) 0 := Nat.div_le_self _ _
  have h64 : a % 64 < 64 := Nat.mod_lt _ (by omega)
  have hb : decide (eN (W.getD (a / 64) 0 / 2 ^ (a % 64) % 2) = .i 1) = bitW W a := by
    unfold bitW
    rw [Nat.testBit_eq_decide_div_mod_eq]
    unfold eN
    congr 1
    simp only [D.i.injEq, eq_iff_iff]
    omega
  have hadiv : a / 64 ≤ a := Nat.div_le_self _ _
  have hlen : (W.length : Int) > ((a / 64 : Nat) : Int) := by omega
  simp only [q22, q00, go_br, q01, q02, allSay, X.says, X.ev, X.evs, evl, tblS, List.getD_cons_zero, List.getD_cons_succ, List.getElem?_cons_zero, List.getElem?_cons_succ, tt_b, int_i, str_s, rs_r, Option.isSome_some, Option.getD_some, decide_eq_true_eq, decide_eq_false_iff_not, dS_eS, dC_eC, dU_eU, dW_eW, dY_eY, eC_0, eC_1, eU_0, eU_1, eW_0, eW_1, eW_2, eY_0, eY_1, eS_0, eS_1, eS_2, eS_3, eS_4, eS_5, List.length_map, i_inj, b_inj, s_inj, eC_eq, eU_eq, eW_eq, eY_eq, eS_eq, rng64, List.take_succ_cons, List.take_zero, List.nil_append, List.cons_append, decide_true, decide_false, Bool.or_true, true_and, and_true, f8_6, f13_63, hget, f8, f13_1, hb]
  simp only [rngB, Bool.and_eq_true, decide_eq_true_eq]
  simp only [i_inj] at hb
  generalize W.getD (a / 64) 0 / 2 ^ (a % 64) = q at *
  refine ⟨⟨by omega, by omega, by omega, by omega, by omega, by omega, by omega, by omega⟩, by rw [hb]⟩

def gVis : List D → Option (List D)
  | [.i at', .r w, .r t, s, m] => if decide (0 ≤ at') && (decide (at' < (dS s).cs.length) && (decide (at'.toNat / 64 < w.length) && decide (t.length + 1 + ((mfind (.i at') m.ms).getD (.r [])).rs.length ≤ 8796093021952))) then
      some (if bitW (w.map dN) at'.toNat then [.r w, .r t] else [.r ((setW (w.map dN) at'.toNat).map eN), .r (t ++ [eC (cellAt (dS s) at')] ++ ((mfind (.i at') m.ms).getD (.r [])).rs)]) else none
  | _ => none
theorem ok_gc_mark_1 : FOk q0g gVis := fok_gc_mark_1 ok_gc_marks_has fun ds outs hw hg => by
  obtain ⟨d, r, rfl, hd, dw, r, rfl, hdw, dt, r, rfl, hdt, dss, r, rfl, hds, dm, r, rfl, hdm, rfl⟩ := hw
  obtain ⟨i, rfl, hi⟩ := wfI hd
  obtain ⟨W, rfl, hl, hW⟩ := wf64s hdw
  obtain ⟨T, rfl, hT, hTc⟩ := wfCs hdt
  obtain ⟨s, rfl, hs⟩ := wfS hds
  simp only [gVis, mN, dS_eS, Bool.and_eq_true, decide_eq_true_eq, Option.ite_none_right_eq_some, Option.some.injEq, List.length_map] at hg
  obtain ⟨⟨h0, h1, h2, h3⟩, rfl⟩ := hg
  obtain ⟨a, rfl⟩ := Int.eq_ofNat_of_zero_le h0
  rw [Int.toNat_natCast] at h2
  rw [Int.toNat_natCast]
  have hin : inS s (a : Nat) = true := inS_iff.2 ⟨by omega, h1⟩
  have hhas : gHas [.r (W.map eN), .i (a : Int)] = some [.b (bitW W a)] := by
    simp only [gHas, mN, h2, Int.toNat_natCast, List.length_map, decide_true, Bool.and_true, show decide ((0 : Int) ≤ (a : Int)) = true from decide_eq_true (by omega), if_true]
  have hget : (D.r (W.map eN)).get (((a / 64 : Nat)) : Int) = eN (W.getD (a / 64) 0) := get_n eN h2
  have hw : W.getD (a / 64) 0 < 18446744073709551616 := by
    rw [List.getD_eq_getElem?_getD, List.getElem?_eq_getElem h2]
    exact hW _ (List.getElem_mem h2)
  have h64 : a % 64 < 64 := Nat.mod_lt _ (by omega)
  have hp : 0 < 2 ^ (a % 64) := Nat.pow_pos (by omega)
  have hset : ∀ v : Nat, (W.map eN).set (a / 64) (eN v) = (W.set (a / 64) v).map eN := fun v => by rw [List.map_set]
  have hcell := cell_get hin
  rw [q2d, q00]
  refine ⟨by simp only [allSay, X.says, X.ev, X.evs, evl, tblS, List.getD_cons_zero, List.getD_cons_succ, List.getElem?_cons_zero, hhas, tt_b, Option.isSome_some]; trivial, ?_⟩
  rw [go_br]
  simp only [X.ev, X.evs, evl, tblS, List.getD_cons_zero, List.getD_cons_succ, List.getElem?_cons_zero, hhas, tt_b, Option.getD_some]
  refine ⟨fun hb => ?_, fun hb => ?_⟩
  · have hb : bitW W a = false := by simpa using hb
    simp only [hb, Bool.false_eq_true, if_false]
    have hset' := hset (W.getD (a / 64) 0 ||| 2 ^ (a % 64))
    simp only [q00, go_br, q01, q02, allSay, X.says, X.ev, X.evs, evl, tblS, List.getD_cons_zero, List.getD_cons_succ, List.getElem?_cons_zero, List.getElem?_cons_succ, tt_b, int_i, str_s, rs_r, Option.isSome_some, Option.getD_some, decide_eq_true_eq, decide_eq_false_iff_not, dS_eS, dC_eC, dU_eU, dW_eW, dY_eY, eC_0, eC_1, eU_0, eU_1, eW_0, eW_1, eW_2, eY_0, eY_1, eS_0, eS_1, eS_2, eS_3, eS_4, eS_5, List.length_map, i_inj, b_inj, s_inj, eC_eq, eU_eq, eW_eq, eY_eq, eS_eq, rng64, List.take_succ_cons, List.take_zero, List.nil_append, List.cons_append, decide_true, decide_false, Bool.or_true, true_and, and_true, f8_6, f13_63, hget, f15 h64, f14, f0, hcell, Int.toNat_natCast, hset', rs_r, List.length_append, List.length_cons, List.length_nil]
    refine ⟨⟨by omega, by omega, by omega, by omega, by omega, by omega, by omega, by omega, by omega, by omega⟩, ⟨by omega, by omega, by omega, by omega⟩, ?_⟩
    rfl
  · have hb : bitW W a = true := by simpa using hb
    simp only [hb, if_true, q01, X.evs, X.ev, evl, List.getD_cons_zero, List.getD_cons_succ]
end Go.Proofs.Ytmebmpgffhajbaa


namespace Go.Proofs.Ytmebmpgffhajbaa
open Go.RowKit
set_option linter.unusedVariables false
set_option linter.unusedSimpArgs false

def cntS (s : So) (c : Ce) : Nat := if c.t = 0 then 1 else if c.t = 3 then (s.ys.getD (cellAt s c.n).n.toNat default).ar.toNat + 1 else if c.t = 5 then 3 else 0
def tgS (s : So) (c : Ce) : List Nat := (List.range (cntS s c)).map (c.n.toNat + ·)
def oldsS (s : So) (a : Nat) : List Ce := (s.tr.filter fun u => decide (u.at' = (a : Int))).map (·.old)
def rootsC (s : So) (r : Ro) : List Ce := r.cs ++ s.wk.flatMap fun w => [w.att, w.val]
structure Gce (s : So) (c : Ce) : Prop where
  b : c.t = 0 ∨ c.t = 3 ∨ c.t = 5 → 0 ≤ c.n ∧ c.n + cntS s c ≤ s.cs.length
  y : c.t = 3 → 0 ≤ (cellAt s c.n).n ∧ (cellAt s c.n).n < s.ys.length ∧ 0 ≤ (s.ys.getD (cellAt s c.n).n.toNat default).ar
structure VG (s : So) (r : Ro) : Prop where
  cell : ∀ i : Nat, i < s.cs.length → Gce s (cellAt s (i : Nat))
  old : ∀ u ∈ s.tr, 0 ≤ u.at' ∧ u.at' < s.cs.length ∧ Gce s u.old
  root : ∀ c ∈ rootsC s r, Gce s c

theorem tg_lt {s : So} {c : Ce} (h : Gce s c) {x : Nat} (hx : x ∈ tgS s c) : x < s.cs.length := by
  unfold tgS at hx
  obtain ⟨i, hi, rfl⟩ := List.mem_map.1 hx
  have hi := List.mem_range.1 hi
  have ht : c.t = 0 ∨ c.t = 3 ∨ c.t = 5 := by
    unfold cntS at hi
    split at hi
    · exact .inl ‹_›
    · split at hi
      · exact .inr (.inl ‹_›)
      · split at hi
        · exact .inr (.inr ‹_›)
        · omega
  obtain ⟨h1, h2⟩ := h.b ht
  omega
theorem tg_mem {s : So} {c : Ce} {x : Nat} : x ∈ tgS s c ↔ ∃ j, j < cntS s c ∧ x = c.n.toNat + j := by
  unfold tgS
  rw [List.mem_map]
  exact ⟨fun ⟨j, h, e⟩ => ⟨j, List.mem_range.1 h, e.symm⟩, fun ⟨j, h, e⟩ => ⟨j, List.mem_range.2 h, e.symm⟩⟩

inductive Rch (s : So) (r : Ro) : Nat → Prop
  | root {c : Ce} {x : Nat} : c ∈ rootsC s r → x ∈ tgS s c → Rch s r x
  | cell {y x : Nat} : Rch s r y → x ∈ tgS s (cellAt s (y : Nat)) → Rch s r x
  | old {y x : Nat} {c : Ce} : Rch s r y → c ∈ oldsS s y → x ∈ tgS s c → Rch s r x

theorem olds_good {s : So} {r : Ro} (h : VG s r) {y : Nat} {c : Ce} (hc : c ∈ oldsS s y) : Gce s c := by
  obtain ⟨u, hu, rfl⟩ := List.mem_map.1 hc
  exact (h.old u (List.mem_filter.1 hu).1).2.2
theorem Rch.lt {s : So} {r : Ro} (h : VG s r) {x : Nat} (hx : Rch s r x) : x < s.cs.length := by
  induction hx with
  | root hc hx => exact tg_lt (h.root _ hc) hx
  | cell _ hx ih => exact tg_lt (h.cell _ ih) hx
  | old _ hc hx ih => exact tg_lt (olds_good h hc) hx
theorem Rch.of_closed {s : So} {r : Ro} {P : Nat → Prop} (h0 : ∀ c ∈ rootsC s r, ∀ x ∈ tgS s c, P x) (h1 : ∀ y, P y → ∀ x ∈ tgS s (cellAt s (y : Nat)), P x) (h2 : ∀ y, P y → ∀ c ∈ oldsS s y, ∀ x ∈ tgS s c, P x) {x : Nat} (hx : Rch s r x) : P x := by
  induction hx with
  | root hc hx => exact h0 _ hc _ hx
  | cell _ hx ih => exact h1 _ ih _ hx
  | old _ hc hx ih => exact h2 _ ih _ hc _ hx

noncomputable def Mk (s : So) (r : Ro) (i : Nat) : Bool := @decide (Rch s r i) (Classical.propDecidable _)
theorem Mk_iff {s : So} {r : Ro} {i : Nat} : Mk s r i = true ↔ Rch s r i := by
  unfold Mk
  exact @decide_eq_true_iff _ (Classical.propDecidable _)

def wbits (f : Nat → Bool) (k : Nat) : Nat → Nat
  | 0 => 0
  | j + 1 => wbits f k j + if f (k * 64 + j) then 2 ^ j else 0
def wordsOf (len : Nat) (f : Nat → Bool) : List Nat := (List.range len).map fun k => wbits f k 64
theorem wbits_lt (f : Nat → Bool) (k m : Nat) : wbits f k m < 2 ^ m := by
  induction m with
  | zero => simp [wbits]
  | succ m ih =>
    unfold wbits
    rw [Nat.pow_succ]
    split <;> omega
theorem wbits_bit (f : Nat → Bool) (k m j : Nat) : (wbits f k m).testBit j = (decide (j < m) && f (k * 64 + j)) := by
  induction m with
  | zero => simp [wbits]
  | succ m ih =>
    unfold wbits
    have hlt := wbits_lt f k m
    cases hf : f (k * 64 + m) with
    | false =>
      simp only [Bool.false_eq_true, if_false, Nat.add_zero, ih]
      by_cases h : j = m
      · subst h
        simp [hf]
      · by_cases h2 : j < m
        · simp [h2, Nat.lt_succ_of_lt h2]
        · have : ¬ j < m + 1 := by omega
          simp [h2, this]
    | true =>
      simp only [if_true]
      rw [Nat.add_comm]
      by_cases h : j = m
      · subst h
        rw [Nat.testBit_two_pow_add_eq, Nat.testBit_lt_two_pow hlt]
        simp [hf]
      · by_cases h2 : j < m
        · rw [Nat.testBit_two_pow_add_gt h2, ih]
          simp [h2, Nat.lt_succ_of_lt h2]
        · have h3 : ¬ j < m + 1 := by omega
          have h4 : 2 ^ m + wbits f k m < 2 ^ j := by
            have h5 : 2 ^ (m + 1) ≤ 2 ^ j := Nat.pow_le_pow_right (by omega) (by omega)
            rw [Nat.pow_succ] at h5
            omega
          rw [Nat.testBit_lt_two_pow h4]
          simp [h3]
theorem words_len (len : Nat) (f : Nat → Bool) : (wordsOf len f).length = len := by simp [wordsOf]
theorem words_bit {len : Nat} {f : Nat → Bool} {i : Nat} (h : i / 64 < len) : bitW (wordsOf len f) i = f i := by
  unfold bitW wordsOf
  have e : ((List.range len).map fun k => wbits f k 64).getD (i / 64) 0 = wbits f (i / 64) 64 := by
    rw [List.getD_eq_getElem?_getD, List.getElem?_map, List.getElem?_range h]
    rfl
  rw [e, wbits_bit]
  have h1 : i % 64 < 64 := Nat.mod_lt _ (by omega)
  have h2 : i / 64 * 64 + i % 64 = i := by omega
  simp [h1, h2]
theorem words_eq {W : List Nat} {len : Nat} {f : Nat → Bool} (hl : W.length = len) (hW : ∀ x ∈ W, x < 18446744073709551616) (h : ∀ i, i / 64 < len → bitW W i = f i) : W = wordsOf len f := by
  refine List.ext_getElem (by rw [hl, words_len]) fun k h1 h2 => ?_
  have hk : k < len := by omega
  have e : (wordsOf len f)[k] = wbits f k 64 := by simp [wordsOf]
  rw [e]
  refine Nat.eq_of_testBit_eq fun j => ?_
  rw [wbits_bit]
  by_cases hj : j < 64
  · have := h (k * 64 + j) (by omega)
    unfold bitW at this
    rw [show (k * 64 + j) / 64 = k by omega, show (k * 64 + j) % 64 = j by omega, List.getD_eq_getElem?_getD, List.getElem?_eq_getElem h1] at this
    simp only [Option.getD_some] at this
    rw [this]
    simp [hj]
  · have h3 := hW _ (List.getElem_mem h1)
    have h4 : W[k] < 2 ^ j := Nat.lt_of_lt_of_le h3 (Nat.pow_le_pow_right (n := 2) (by omega) (by omega) : 2 ^ 64 ≤ 2 ^ j)
    rw [Nat.testBit_lt_two_pow h4]
    simp [hj]
theorem set_bit {W : List Nat} {a i : Nat} (ha : a / 64 < W.length) : bitW (setW W a) i = (bitW W i || decide (i = a)) := by
  unfold bitW setW
  by_cases h : i / 64 = a / 64
  · rw [h]
    have e : (W.set (a / 64) (W.getD (a / 64) 0 ||| 2 ^ (a % 64))).getD (a / 64) 0 = W.getD (a / 64) 0 ||| 2 ^ (a % 64) := by
      rw [List.getD_eq_getElem?_getD, List.getElem?_set_self ha]
      rfl
    rw [e, Nat.testBit_or, Nat.testBit_two_pow]
    congr 1
    simp only [decide_eq_decide]
    omega
  · have e : (W.set (a / 64) (W.getD (a / 64) 0 ||| 2 ^ (a % 64))).getD (i / 64) 0 = W.getD (i / 64) 0 := by
      rw [List.getD_eq_getElem?_getD, List.getElem?_set_ne (fun e => h e.symm), ← List.getD_eq_getElem?_getD]
    have : ¬ i = a := fun e => h (by rw [e])
    rw [e]
    simp [this]
theorem set_len (W : List Nat) (a : Nat) : (setW W a).length = W.length := by simp [setW]
theorem set_lt {W : List Nat} {a : Nat} (hW : ∀ x ∈ W, x < 18446744073709551616) : ∀ x ∈ setW W a, x < 18446744073709551616 := by
  intro x hx
  rcases List.mem_or_eq_of_mem_set hx with h | rfl
  · exact hW x h
  · have h1 : W.getD (a / 64) 0 < 2 ^ 64 := by
      rw [List.getD_eq_getElem?_getD]
      cases h : W[a / 64]? with
      | none => simp
      | some y => exact hW y (List.mem_of_getElem? h)
    have h2 : 2 ^ (a % 64) < 2 ^ 64 := Nat.pow_lt_pow_right (by omega) (Nat.mod_lt _ (by omega))
    exact Nat.or_lt_two_pow h1 h2
theorem bit_zero {n i : Nat} : bitW (List.replicate n 0) i = false := by
  unfold bitW
  have : (List.replicate n 0).getD (i / 64) 0 = 0 := by
    rw [List.getD_eq_getElem?_getD, List.getElem?_replicate]
    split <;> rfl
  rw [this]
  simp

theorem addK_get {k k' x : D} : ∀ {m : List D}, (((mfind k' (addK k x m)).getD (.r [])).rs) = ((mfind k' m).getD (.r [])).rs ++ if k' = k then [x] else []
  | [] => by
    by_cases h : k' = k
    · subst h
      simp [addK, mfind, D.fld, D.fs, D.rs]
    · have : ¬ D.fld (.a [k, .r [x]]) 0 = k' := fun e => h e.symm
      simp only [addK, mfind, if_neg this, if_neg h]
      simp
  | p :: m => by
    unfold addK
    split
    · rename_i hp
      by_cases h : k' = k
      · subst h
        have h1 : D.fld (.a [k', .r ((p.fld 1).rs ++ [x])]) 0 = k' := rfl
        simp only [mfind, if_pos h1, if_pos hp, if_true, Option.getD_some]
        rfl
      · have h1 : ¬ D.fld (.a [k, .r ((p.fld 1).rs ++ [x])]) 0 = k' := fun e => h e.symm
        have h2 : ¬ p.fld 0 = k' := fun e => h (e.symm.trans hp)
        simp only [mfind, if_neg h1, if_neg h2, if_neg h]
        simp
    · by_cases h : p.fld 0 = k'
      · have : ¬ k' = k := fun e => by subst e; exact absurd h ‹_›
        simp only [mfind, if_pos h, if_neg this]
        simp
      · simp only [mfind, if_neg h]
        exact addK_get
theorem grp_get (k : D) : ∀ (l m : List D), ((mfind k (l.foldl (fun m y => addK (y.fld 0) (y.fld 1) m) m)).getD (.r [])).rs = ((mfind k m).getD (.r [])).rs ++ (l.filter fun y => decide (k = y.fld 0)).map (·.fld 1)
  | [], m => by simp
  | y :: l, m => by
    rw [List.foldl_cons, grp_get k l, addK_get, List.append_assoc]
    congr 1
    by_cases h : k = y.fld 0
    · simp [h]
    · simp [h]
theorem grp_olds (s : So) (a : Nat) : ((mfind (.i (a : Int)) (fnD 16 [(eS s).fld 2]).ms).getD (.r [])).rs = (oldsS s a).map eC := by
  have e : (fnD 16 [(eS s).fld 2]).ms = (s.tr.map eU).foldl (fun m y => addK (y.fld 0) (y.fld 1) m) [] := rfl
  rw [e, grp_get]
  have h0 : ((mfind (.i (a : Int)) []).getD (.r [])).rs = [] := rfl
  rw [h0, List.nil_append]
  unfold oldsS
  induction s.tr with
  | nil => rfl
  | cons u l ih =>
    simp only [List.map_cons, List.filter_cons, eU_0, i_inj]
    by_cases h : u.at' = (a : Int)
    · simp only [h, decide_true, if_true, List.map_cons, eU_1, ih]
    · have h' : ¬ (a : Int) = u.at' := fun e => h e.symm
      simp only [h, h', decide_false, Bool.false_eq_true, if_false, ih]

def potW (s : So) (W : List Nat) : Nat := ((List.range s.cs.length).map fun i => if bitW W i then 0 else 1 + (oldsS s i).length).sum
theorem sum_upd {f g : Nat → Nat} {a d : Nat} : ∀ {n : Nat}, (∀ i, i < n → i ≠ a → f i = g i) → f a = g a + d → ((List.range n).map f).sum = ((List.range n).map g).sum + if a < n then d else 0
  | 0, _, _ => by simp
  | n + 1, h, ha => by
    rw [List.range_succ, List.map_append, List.map_append, List.sum_append, List.sum_append, sum_upd (n := n) (fun i hi hne => h i (by omega) hne) ha]
    by_cases hn : n = a
    · have e1 : (if a < n then d else 0) = 0 := if_neg (by omega)
      have e2 : (if a < n + 1 then d else 0) = d := if_pos (by omega)
      rw [e1, e2, hn]
      simp only [List.map_cons, List.map_nil, List.sum_cons, List.sum_nil, ha]
      omega
    · have := h n (by omega) hn
      simp only [List.map_cons, List.map_nil, List.sum_cons, List.sum_nil, this]
      by_cases h2 : a < n
      · rw [if_pos h2, if_pos (by omega)]
        omega
      · rw [if_neg h2, if_neg (by omega)]
        omega
theorem pot_set {s : So} {W : List Nat} {a : Nat} (ha : a < s.cs.length) (hl : a / 64 < W.length) (hb : bitW W a = false) : potW s W = potW s (setW W a) + (1 + (oldsS s a).length) := by
  unfold potW
  rw [sum_upd (a := a) (d := 1 + (oldsS s a).length) (g := fun i => if bitW (setW W a) i then 0 else 1 + (oldsS s i).length), if_pos ha]
  · intro i hi hne
    simp only [set_bit hl]
    simp [hne]
  · simp only [set_bit hl, hb]
    simp
theorem olds_le (s : So) (a : Nat) : (oldsS s a).length ≤ s.tr.length := by
  unfold oldsS
  rw [List.length_map]
  exact List.length_filter_le _ _
theorem pot_le (s : So) (W : List Nat) : potW s W ≤ s.cs.length * (1 + s.tr.length) := by
  unfold potW
  generalize s.cs.length = n
  induction n with
  | zero => simp
  | succ n ih =>
    rw [List.range_succ, List.map_append, List.sum_append, Nat.add_mul]
    simp only [List.map_cons, List.map_nil, List.sum_cons, List.sum_nil]
    have := olds_le s n
    split <;> omega

def Due (s : So) (r : Ro) (W : List Nat) (c : Ce) : Prop := c ∈ rootsC s r ∨ ∃ y : Nat, bitW W y = true ∧ (c = cellAt s (y : Nat) ∨ c ∈ oldsS s y)
structure PJ (s : So) (r : Ro) (E : Ce → Prop) (W : List Nat) (T : List Ce) (m : Nat) : Prop where
  len : W.length = s.cs.length / 64 + 1
  lt : ∀ x ∈ W, x < 18446744073709551616
  sound : ∀ i, bitW W i = true → Rch s r i
  good : ∀ c ∈ T, Gce s c ∧ ∀ x ∈ tgS s c, Rch s r x
  due : ∀ c, Due s r W c → E c ∨ c ∈ T ∨ ∀ x ∈ tgS s c, bitW W x = true
  wt : T.length + potW s W = m

theorem PJ.bound {s : So} {r : Ro} (hv : VG s r) {E : Ce → Prop} {W : List Nat} {T : List Ce} {m : Nat} (h : PJ s r E W T m) {i : Nat} (hi : i < s.cs.length) : i / 64 < W.length := by
  rw [h.len]
  omega

theorem PJ.visit {s : So} {r : Ro} (hv : VG s r) {E : Ce → Prop} {W : List Nat} {T : List Ce} {m a : Nat} (h : PJ s r E W T m) (ha : Rch s r a) (hb : bitW W a = false) :
    PJ s r E (setW W a) (T ++ [cellAt s (a : Nat)] ++ oldsS s a) m := by
  have hal := ha.lt hv
  have hl := h.bound hv hal
  refine ⟨by rw [set_len]; exact h.len, set_lt h.lt, fun i hi => ?_, fun c hc => ?_, fun c hc => ?_, ?_⟩
  · rw [set_bit hl, Bool.or_eq_true, decide_eq_true_eq] at hi
    rcases hi with hi | rfl
    · exact h.sound i hi
    · exact ha
  · rcases List.mem_append.1 hc with hc | hc
    · rcases List.mem_append.1 hc with hc | hc
      · exact h.good c hc
      · rw [List.mem_singleton] at hc
        subst hc
        exact ⟨hv.cell a hal, fun x hx => .cell ha hx⟩
    · exact ⟨olds_good hv hc, fun x hx => .old ha hc hx⟩
  · have mono : ∀ x, bitW W x = true → bitW (setW W a) x = true := fun x hx => by rw [set_bit hl, hx]; rfl
    have keep : Due s r W c → E c ∨ c ∈ T ++ [cellAt s (a : Nat)] ++ oldsS s a ∨ ∀ x ∈ tgS s c, bitW (setW W a) x = true := fun hd => by
      rcases h.due c hd with h1 | h1 | h1
      · exact .inl h1
      · exact .inr (.inl (by simp [h1]))
      · exact .inr (.inr fun x hx => mono x (h1 x hx))
    rcases hc with hc | ⟨y, hy, hc⟩
    · exact keep (.inl hc)
    · rw [set_bit hl, Bool.or_eq_true, decide_eq_true_eq] at hy
      rcases hy with hy | rfl
      · exact keep (.inr ⟨y, hy, hc⟩)
      · rcases hc with rfl | hc
        · exact .inr (.inl (by simp))
        · exact .inr (.inl (by simp [hc]))
  · have h1 := pot_set hal hl hb
    have h2 := h.wt
    simp only [List.length_append, List.length_singleton]
    omega

theorem PJ.done {s : So} {r : Ro} (hv : VG s r) {W : List Nat} {m : Nat} (h : PJ s r (fun _ => False) W [] m) : W = wordsOf (s.cs.length / 64 + 1) (Mk s r) := by
  refine words_eq h.len h.lt fun i hi => ?_
  have hdue : ∀ c, Due s r W c → ∀ x ∈ tgS s c, bitW W x = true := fun c hc => by
    rcases h.due c hc with h1 | h1 | h1
    · exact h1.elim
    · cases h1
    · exact h1
  rw [Bool.eq_iff_iff, Mk_iff]
  exact ⟨h.sound i, fun hr => Rch.of_closed (P := fun x => bitW W x = true) (fun c hc => hdue c (.inl hc)) (fun y hy => hdue _ (.inr ⟨y, hy, .inl rfl⟩)) (fun y hy c hc => hdue c (.inr ⟨y, hy, .inr hc⟩)) hr⟩
end Go.Proofs.Ytmebmpgffhajbaa


namespace Go.Proofs.Ytmebmpgffhajbaa
open Go.RowKit
set_option linter.unusedVariables false
set_option linter.unusedSimpArgs false

theorem gce_vc {s : So} (h : validR s = true) {c : Ce} (hc : vcR s c = true) : Gce s c := by
  unfold vcR at hc
  by_cases h0 : c.t = 0
  · rw [if_pos h0] at hc
    simp only [Bool.and_eq_true] at hc
    have := inS_iff.1 hc.1
    refine ⟨fun _ => ⟨this.1, ?_⟩, fun h3 => by omega⟩
    rw [cntS, if_pos h0]
    omega
  · rw [if_neg h0] at hc
    by_cases h1 : c.t = 1
    · exact ⟨fun h => by omega, fun h => by omega⟩
    · rw [if_neg h1] at hc
      by_cases h2 : c.t = 2
      · exact ⟨fun h => by omega, fun h => by omega⟩
      · rw [if_neg h2] at hc
        by_cases h3 : c.t = 3
        · rw [if_pos h3, decide_eq_true_eq] at hc
          have hi := tag_in' (by omega) hc
          rw [tagS_in hi] at hc
          obtain ⟨a1, a2, a3⟩ := vr_fun h hi hc
          have hi' := inS_iff.1 hi
          have ha : 0 ≤ (cellAt s c.n).n ∧ (cellAt s c.n).n < s.ys.length ∧ arS s (cellAt s c.n).n = (s.ys.getD (cellAt s c.n).n.toNat default).ar := by
            unfold arS at a1 ⊢
            split at a1
            · rename_i hq
              exact ⟨hq.1, hq.2, by rw [if_pos hq]⟩
            · omega
          have h4 := inS_iff.1 (a3 ((arS s (cellAt s c.n).n).toNat - 1) (by omega)).1
          refine ⟨fun _ => ⟨hi'.1, ?_⟩, fun _ => ⟨ha.1, ha.2.1, by rw [← ha.2.2]; omega⟩⟩
          rw [cntS, if_neg h0, if_pos h3, ← ha.2.2]
          omega
        · rw [if_neg h3] at hc
          by_cases h5 : c.t = 5
          · rw [if_pos h5, decide_eq_true_eq] at hc
            have hi := tag_in' (by omega) hc
            rw [tagS_in hi] at hc
            have hcell := vr_cell h hi
            unfold cellR at hcell
            rw [if_neg (by omega)] at hcell
            simp only [Bool.and_eq_true, hc, decide_true, Bool.not_true, Bool.false_or, groupS, decide_eq_true_eq] at hcell
            have h6 := inS_iff.1 (tag_nn hcell.2.2.2.2.2.2.1)
            have hi' := inS_iff.1 hi
            refine ⟨fun _ => ⟨hi'.1, ?_⟩, fun h => by omega⟩
            rw [cntS, if_neg h0, if_neg h3, if_pos h5]
            omega
          · rw [if_neg h5] at hc
            cases hc
theorem gce_cell {s : So} (h : validR s = true) {i : Int} (hi : inS s i = true) : Gce s (cellAt s i) := by
  by_cases ht : (cellAt s i).t = 4
  · exact ⟨fun h => by omega, fun h => by omega⟩
  · exact gce_vc h (vr_vc h hi ht)
theorem vr_old {s : So} (h : validR s = true) {u : Un} (hu : u ∈ s.tr) : oldR s u = true := by
  simp only [validR, Bool.and_eq_true] at h
  obtain ⟨i, hi, rfl⟩ := List.mem_iff_getElem.1 hu
  have := all_of h.2.2.1 (k := i) hi
  simpa [List.getD_eq_getElem?_getD, hi] using this
theorem vr_wk {s : So} (h : validR s = true) {w : Wk} (hw : w ∈ s.wk) : wkB vcR s w = true := by
  simp only [validR, Bool.and_eq_true] at h
  obtain ⟨i, hi, rfl⟩ := List.mem_iff_getElem.1 hw
  have := all_of h.2.2.2 (k := i) hi
  simpa [List.getD_eq_getElem?_getD, hi] using this
theorem gce_old {s : So} (h : validR s = true) {u : Un} (hu : oldR s u = true) : inS s u.at' = true ∧ Gce s u.old := by
  unfold oldR oldB at hu
  rw [Bool.and_eq_true] at hu
  obtain ⟨hi, hu⟩ := hu
  have hi' := inS_iff.1 hi
  refine ⟨hi, ?_⟩
  by_cases h0 : u.old.t = 0
  · rw [if_pos h0, decide_eq_true_eq] at hu
    refine ⟨fun _ => ⟨by omega, ?_⟩, fun h => by omega⟩
    rw [cntS, if_pos h0]
    omega
  · rw [if_neg h0] at hu
    by_cases h5 : u.old.t = 5
    · rw [if_pos h5] at hu
      simp only [Bool.and_eq_true, groupS, decide_eq_true_eq] at hu
      have h6 := inS_iff.1 (tag_nn hu.2.1.2.2.2.1)
      refine ⟨fun _ => ⟨by omega, ?_⟩, fun h => by omega⟩
      rw [cntS, if_neg h0, if_neg (by omega), if_pos h5]
      omega
    · rw [if_neg h5] at hu
      by_cases h1 : u.old.t = 1 ∨ u.old.t = 2 ∨ u.old.t = 3
      · rw [if_pos h1] at hu
        exact gce_vc h hu
      · rw [if_neg h1] at hu
        cases hu
theorem okR_parts {s : So} {r : Ro} (h : okR validR vcR s r = true) : validR s = true ∧ (∀ c ∈ r.cs, vcR s c = true) ∧ (∀ x ∈ r.tp, 0 ≤ x ∧ x ≤ s.cs.length) ∧ ∀ x ∈ r.ms, 0 ≤ x ∧ x ≤ s.tr.length := by
  simp only [okR, Bool.and_eq_true] at h
  refine ⟨h.1, fun c hc => ?_, fun x hx => ?_, fun x hx => ?_⟩
  · obtain ⟨i, hi, rfl⟩ := List.mem_iff_getElem.1 hc
    have := all_of h.2.1 (k := i) hi
    simpa [List.getD_eq_getElem?_getD, hi] using this
  · obtain ⟨i, hi, rfl⟩ := List.mem_iff_getElem.1 hx
    have := all_of h.2.2.1 (k := i) hi
    simpa [List.getD_eq_getElem?_getD, hi, inN] using this
  · obtain ⟨i, hi, rfl⟩ := List.mem_iff_getElem.1 hx
    have := all_of h.2.2.2 (k := i) hi
    simpa [List.getD_eq_getElem?_getD, hi, inN] using this
theorem roots_mem {s : So} {r : Ro} {c : Ce} (h : c ∈ rootsC s r) : c ∈ r.cs ∨ ∃ w ∈ s.wk, c = w.att ∨ c = w.val := by
  rcases List.mem_append.1 h with h | h
  · exact .inl h
  · obtain ⟨w, hw, hc⟩ := List.mem_flatMap.1 h
    exact .inr ⟨w, hw, by simpa using hc⟩
theorem vc_root {s : So} {r : Ro} (h : okR validR vcR s r = true) {c : Ce} (hc : c ∈ rootsC s r) : vcR s c = true := by
  obtain ⟨h1, h2, -, -⟩ := okR_parts h
  rcases roots_mem hc with hc | ⟨w, hw, hc⟩
  · exact h2 c hc
  · have := vr_wk h1 hw
    simp only [wkB, Bool.and_eq_true] at this
    rcases hc with rfl | rfl
    · exact this.2.2.1
    · exact this.2.2.2
theorem vg_of {s : So} {r : Ro} (h : okR validR vcR s r = true) : VG s r := by
  obtain ⟨h1, h2, -, -⟩ := okR_parts h
  refine ⟨fun i hi => gce_cell h1 (inS_iff.2 ⟨by omega, by omega⟩), fun u hu => ?_, fun c hc => gce_vc h1 (vc_root h hc)⟩
  obtain ⟨a, b⟩ := gce_old h1 (vr_old h1 hu)
  exact ⟨(inS_iff.1 a).1, (inS_iff.1 a).2, b⟩

theorem roots_len (s : So) (r : Ro) : (rootsC s r).length = r.cs.length + 2 * s.wk.length := by
  unfold rootsC
  rw [List.length_append]
  congr 1
  induction s.wk with
  | nil => rfl
  | cons w l ih => simp only [List.flatMap_cons, List.length_append, List.length_cons, List.length_nil, ih]; omega

abbrev xPop : X := (.get (.tok 5) (.sub (.len (.tok 5)) (.lit (.i 1))))
def inT (bnd : X) : Tree := (.loop 27 6 [(.lit (.i 0)), (.tok 4), (.cut (.tok 5) (.lit (.i 0)) (.sub (.len (.tok 5)) (.lit (.i 1))))] (.br (.lt (.tok 6) bnd) (.need [(.rng .i64 (.add (.fld (.get (.tok 5) (.sub (.len (.tok 5)) (.lit (.i 1)))) 1) (.tok 6))), (.ok 0 [(.add (.fld (.get (.tok 5) (.sub (.len (.tok 5)) (.lit (.i 1)))) 1) (.tok 6)), (.tok 7), (.tok 8), (.tok 0), (.fn 16 [(.fld (.tok 0) 2)])])] (.need [(.rng .i64 (.add (.tok 6) (.lit (.i 1))))] (.back 27 [(.add (.tok 6) (.lit (.i 1))), (.call 0 0 [(.add (.fld (.get (.tok 5) (.sub (.len (.tok 5)) (.lit (.i 1)))) 1) (.tok 6)), (.tok 7), (.tok 8), (.tok 0), (.fn 16 [(.fld (.tok 0) 2)])]), (.call 0 1 [(.add (.fld (.get (.tok 5) (.sub (.len (.tok 5)) (.lit (.i 1)))) 1) (.tok 6)), (.tok 7), (.tok 8), (.tok 0), (.fn 16 [(.fld (.tok 0) 2)])])]))) (.back 16 [(.tok 7), (.tok 8)])))
theorem in_ok {s : So} {r : Ro} (hv : VG s r) {W : List Nat} {T : List Ce} {c : Ce} {m : Nat} {bnd : X} {k : Int} {R0 : List D} {R : List D → Prop} {B : Nat → List D → Prop} (hcs : s.cs.length ≤ 300) (htr : s.tr.length ≤ 300) (hm : m ≤ 1000000)
    (hP : PJ s r (fun x => x = c) W T m) (hc : Gce s c) (hcr : ∀ x ∈ tgS s c, Rch s r x) (hbnd : ∀ st : List D, bnd.ev (evl (tblS [(q0g, gVis)]) ([eS s, eR r, .i k, .r R0, .r (W.map eN), .r ((T ++ [c]).map eC)] ++ st)) = .i (cntS s c : Nat))
    (hB : ∀ W' T', PJ s r (fun _ => False) W' T' m → B 16 [.r (W'.map eN), .r (T'.map eC)]) :
    (inT bnd).go (tblS [(q0g, gVis)]) R [eS s, eR r, .i k, .r R0, .r (W.map eN), .r ((T ++ [c]).map eC)] B := by
  have hTl : ((T.map eC ++ [eC c]).length : Int) - 1 = (T.length : Nat) := by simp
  have hpop : (D.r (T.map eC ++ [eC c])).get ((T.length : Nat) : Int) = eC c := by
    show (T.map eC ++ [eC c]).getD ((T.length : Nat) : Int).toNat .u = eC c
    rw [Int.toNat_natCast, List.getD_eq_getElem?_getD, List.getElem?_append_right (by simp)]
    simp
  unfold inT
  rw [q1b]
  refine ⟨fun st => ∃ (j : Nat) (W' : List Nat) (T' : List Ce), j ≤ cntS s c ∧ st = [.i j, .r (W'.map eN), .r (T'.map eC)] ∧ PJ s r (fun x => x = c) W' T' m ∧ ∀ i, i < j → bitW W' (c.n.toNat + i) = true, fun st => cntS s c - (st.getD 0 .u).int.toNat, ⟨0, W, T, Nat.zero_le _, ?_, hP, fun i hi => absurd hi (Nat.not_lt_zero _)⟩, ?_⟩
  · simp only [q00, go_br, q01, q02, allSay, X.says, X.ev, X.evs, evl, tblS, List.getD_cons_zero, List.getD_cons_succ, List.getElem?_cons_zero, List.getElem?_cons_succ, tt_b, int_i, str_s, rs_r, Option.isSome_some, Option.getD_some, decide_eq_true_eq, decide_eq_false_iff_not, dS_eS, dC_eC, dU_eU, dW_eW, dY_eY, eC_0, eC_1, eU_0, eU_1, eW_0, eW_1, eW_2, eY_0, eY_1, eS_0, eS_1, eS_2, eS_3, eS_4, eS_5, List.length_map, i_inj, b_inj, s_inj, eC_eq, eU_eq, eW_eq, eY_eq, eS_eq, rng64, List.take_succ_cons, List.take_zero, List.nil_append, List.cons_append, decide_true, decide_false, Bool.or_true, true_and, and_true, List.map_append, List.map_cons, List.map_nil, hTl, Int.toNat_natCast]
    have : ((T.map eC ++ [eC c]).take T.length).drop 0 = T.map eC := by
      rw [List.drop_zero, ← List.length_map (f := eC), List.take_left]
    simp [this]
  rintro st - ⟨j, W', T', hj, rfl, hP', hpre⟩
  have hb := hbnd [.i j, .r (W'.map eN), .r (T'.map eC)]
  simp only [List.map_append, List.map_cons, List.map_nil, List.cons_append, List.nil_append] at hb
  have hTlen : T'.length ≤ m := by have := hP'.wt; omega
  rw [go_br]
  simp only [X.ev, evl, List.take_succ_cons, List.take_zero, List.map_append, List.map_cons, List.map_nil, List.cons_append, List.nil_append, List.getD_cons_succ, List.getD_cons_zero, tt_b, decide_eq_true_eq, decide_eq_false_iff_not]
  simp only [evl] at hb
  rw [hb]
  simp only [int_i]
  refine ⟨fun hlt => ?_, fun hlt => ?_⟩
  · have hlt : j < cntS s c := by omega
    have hxm : c.n.toNat + j ∈ tgS s c := tg_mem.2 ⟨j, hlt, rfl⟩
    have hr := hcr _ hxm
    have ha := hr.lt hv
    have hl := hP'.bound hv ha
    have hcn : 0 ≤ c.n := by
      have ht : c.t = 0 ∨ c.t = 3 ∨ c.t = 5 := by
        unfold cntS at hlt
        split at hlt
        · exact .inl ‹_›
        · split at hlt
          · exact .inr (.inl ‹_›)
          · split at hlt
            · exact .inr (.inr ‹_›)
            · omega
      exact (hc.b ht).1
    have hadd : c.n + (j : Int) = ((c.n.toNat + j : Nat) : Int) := by omega
    have hol := olds_le s (c.n.toNat + j)
    have hgr := grp_olds s (c.n.toNat + j)
    rw [eS_2] at hgr
    have hvis : gVis [.i ((c.n.toNat + j : Nat) : Int), .r (W'.map eN), .r (T'.map eC), eS s, fnD 16 [.r (s.tr.map eU)]] = some (if bitW W' (c.n.toNat + j) then [.r (W'.map eN), .r (T'.map eC)] else [.r ((setW W' (c.n.toNat + j)).map eN), .r ((T' ++ [cellAt s ((c.n.toNat + j : Nat) : Int)] ++ oldsS s (c.n.toNat + j)).map eC)]) := by
      simp only [gVis, mN, dS_eS, hgr, List.length_map, Int.toNat_natCast]
      rw [if_pos]
      · simp only [List.map_append, List.map_cons, List.map_nil]
      · simp only [Bool.and_eq_true, decide_eq_true_eq]
        exact ⟨by omega, by omega, hl, by omega⟩
    simp only [q00, go_br, q01, q02, allSay, X.says, X.ev, X.evs, evl, tblS, List.getD_cons_zero, List.getD_cons_succ, List.getElem?_cons_zero, List.getElem?_cons_succ, tt_b, int_i, str_s, rs_r, Option.isSome_some, Option.getD_some, decide_eq_true_eq, decide_eq_false_iff_not, dS_eS, dC_eC, dU_eU, dW_eW, dY_eY, eC_0, eC_1, eU_0, eU_1, eW_0, eW_1, eW_2, eY_0, eY_1, eS_0, eS_1, eS_2, eS_3, eS_4, eS_5, List.length_map, i_inj, b_inj, s_inj, eC_eq, eU_eq, eW_eq, eY_eq, eS_eq, rng64, List.take_succ_cons, List.take_zero, List.nil_append, List.cons_append, decide_true, decide_false, Bool.or_true, true_and, and_true, List.map_append, List.map_cons, List.map_nil, hTl, hpop, hadd, hvis]
    have hi1 := hj
    have hcnt : cntS s c ≤ 300 := by
      have := tg_lt hc (tg_mem.2 ⟨cntS s c - 1, by omega, rfl⟩)
      omega
    refine ⟨⟨by omega, by omega⟩, ⟨by omega, by omega⟩, ?_⟩
    rw [updB, if_pos rfl]
    cases hbit : bitW W' (c.n.toNat + j) with
    | true =>
      simp only [if_true, Option.getD_some, List.getD_cons_zero, List.getD_cons_succ]
      refine ⟨⟨j + 1, W', T', hlt, by simp, hP', fun i hi => ?_⟩, by simp [D.int]; omega⟩
      by_cases h : i < j
      · exact hpre i h
      · obtain rfl : i = j := by omega
        exact hbit
    | false =>
      simp only [Bool.false_eq_true, if_false, Option.getD_some, List.getD_cons_zero, List.getD_cons_succ]
      refine ⟨⟨j + 1, setW W' (c.n.toNat + j), T' ++ [cellAt s ((c.n.toNat + j : Nat) : Int)] ++ oldsS s (c.n.toNat + j), hlt, by simp, hP'.visit hv hr hbit, fun i hi => ?_⟩, by simp [D.int]; omega⟩
      rw [set_bit hl]
      by_cases h : i < j
      · rw [hpre i h]; rfl
      · obtain rfl : i = j := by omega
        simp
  · have hjc : j = cntS s c := by omega
    subst hjc
    simp only [q00, go_br, q01, q02, allSay, X.says, X.ev, X.evs, evl, tblS, List.getD_cons_zero, List.getD_cons_succ, List.getElem?_cons_zero, List.getElem?_cons_succ, tt_b, int_i, str_s, rs_r, Option.isSome_some, Option.getD_some, decide_eq_true_eq, decide_eq_false_iff_not, dS_eS, dC_eC, dU_eU, dW_eW, dY_eY, eC_0, eC_1, eU_0, eU_1, eW_0, eW_1, eW_2, eY_0, eY_1, eS_0, eS_1, eS_2, eS_3, eS_4, eS_5, List.length_map, i_inj, b_inj, s_inj, eC_eq, eU_eq, eW_eq, eY_eq, eS_eq, rng64, List.take_succ_cons, List.take_zero, List.nil_append, List.cons_append, decide_true, decide_false, Bool.or_true, true_and, and_true]
    rw [updB, if_neg (by decide)]
    refine hB W' T' ⟨hP'.len, hP'.lt, hP'.sound, hP'.good, fun c' hc' => ?_, hP'.wt⟩
    rcases hP'.due c' hc' with rfl | h | h
    · refine .inr (.inr fun x hx => ?_)
      obtain ⟨i, hi, rfl⟩ := tg_mem.1 hx
      exact hpre i hi
    · exact .inr (.inl h)
    · exact .inr (.inr h)
end Go.Proofs.Ytmebmpgffhajbaa


namespace Go.Proofs.Ytmebmpgffhajbaa
open Go.RowKit
set_option linter.unusedVariables false
set_option linter.unusedSimpArgs false

noncomputable def gMark : List D → Option (List D)
  | [s, r] => if okR validR vcR (dS s) (dR r) && smallB (dS s) (dR r) then some [.r ((wordsOf ((dS s).cs.length / 64 + 1) (Mk (dS s) (dR r))).map eN)] else none
  | _ => none
theorem small_parts {s : So} {r : Ro} (h : smallB s r = true) : s.cs.length ≤ 300 ∧ s.ys.length ≤ 100 ∧ s.tr.length ≤ 300 ∧ s.wk.length ≤ 50 ∧ r.cs.length ≤ 50 ∧ r.tp.length ≤ 50 ∧ r.ms.length ≤ 50 := by
  simpa only [smallB, Bool.and_eq_true, decide_eq_true_eq] using h
def wkCs (s : So) (k : Nat) : List Ce := (s.wk.take k).flatMap fun w => [w.att, w.val]
theorem wkCs_len (s : So) (k : Nat) : (wkCs s k).length ≤ 2 * s.wk.length := by
  unfold wkCs
  have h1 : ∀ l : List Wk, (l.flatMap fun w => [w.att, w.val]).length = 2 * l.length := by
    intro l
    induction l with
    | nil => rfl
    | cons w l ih => simp only [List.flatMap_cons, List.length_append, List.length_cons, List.length_nil, ih]; omega
  rw [h1]
  have := List.length_take_le' k s.wk
  omega
theorem wkCs_succ {s : So} {k : Nat} (h : k < s.wk.length) : wkCs s (k + 1) = wkCs s k ++ [(s.wk.getD k default).att, (s.wk.getD k default).val] := by
  unfold wkCs
  rw [take_snoc h, List.flatMap_append]
  simp
theorem start_pj {s : So} {r : Ro} (hv : VG s r) : PJ s r (fun _ => False) (List.replicate (s.cs.length / 64 + 1) 0) (rootsC s r) ((rootsC s r).length + potW s (List.replicate (s.cs.length / 64 + 1) 0)) := by
  refine ⟨by simp, fun x hx => ?_, fun i hi => ?_, fun c hc => ⟨hv.root c hc, fun x hx => .root hc hx⟩, fun c hc => ?_, rfl⟩
  · rw [(List.mem_replicate.1 hx).2]; decide
  · rw [bit_zero] at hi; cases hi
  · rcases hc with hc | ⟨y, hy, -⟩
    · exact .inr (.inl hc)
    · rw [bit_zero] at hy; cases hy
theorem PJ.pop {s : So} {r : Ro} {W : List Nat} {T : List Ce} {c : Ce} {m : Nat} (h : PJ s r (fun _ => False) W (T ++ [c]) m) : PJ s r (fun x => x = c) W T (m - 1) ∧ 0 < m := by
  have hw := h.wt
  rw [List.length_append, List.length_singleton] at hw
  refine ⟨⟨h.len, h.lt, h.sound, fun x hx => h.good x (by simp [hx]), fun x hx => ?_, by omega⟩, by omega⟩
  rcases h.due x hx with h1 | h1 | h1
  · exact h1.elim
  · rcases List.mem_append.1 h1 with h1 | h1
    · exact .inr (.inl h1)
    · exact .inl (by simpa using h1)
  · exact .inr (.inr h1)
theorem PJ.drop {s : So} {r : Ro} {W : List Nat} {T : List Ce} {c : Ce} {m : Nat} (h : PJ s r (fun x => x = c) W T m) (hc : cntS s c = 0) : PJ s r (fun _ => False) W T m := by
  refine ⟨h.len, h.lt, h.sound, h.good, fun x hx => ?_, h.wt⟩
  rcases h.due x hx with rfl | h1 | h1
  · refine .inr (.inr fun y hy => ?_)
    obtain ⟨j, hj, -⟩ := tg_mem.1 hy
    omega
  · exact .inr (.inl h1)
  · exact .inr (.inr h1)

theorem ok_gc_mark : FOk q17 gMark := fok_gc_mark ok_gc_mark_1 fun ds outs hw hg => by
  obtain ⟨s, r, rfl, hs, hr⟩ := sr_of hw
  simp only [gMark, dS_eS, dR_eR, Bool.and_eq_true, Option.ite_none_right_eq_some, Option.some.injEq] at hg
  obtain ⟨⟨hok, hsm⟩, rfl⟩ := hg
  have hv := vg_of hok
  obtain ⟨z1, z2, z3, z4, z5, z6, z7⟩ := small_parts hsm
  have hdiv : s.cs.length / 64 ≤ s.cs.length := Nat.div_le_self _ _
  have hrep : ∀ n : Nat, List.replicate n (D.i 0) = (List.replicate n 0).map eN := fun n => by rw [List.map_replicate]; rfl
  have hn1 : ((s.cs.length / 64 : Nat) : Int) + 1 = ((s.cs.length / 64 + 1 : Nat) : Int) := by omega
  rw [q3d, q00]
  refine ⟨by simp only [q00, go_br, q01, q02, allSay, X.says, X.ev, X.evs, evl, tblS, List.getD_cons_zero, List.getD_cons_succ, List.getElem?_cons_zero, List.getElem?_cons_succ, tt_b, int_i, str_s, rs_r, Option.isSome_some, Option.getD_some, decide_eq_true_eq, decide_eq_false_iff_not, dS_eS, dC_eC, dU_eU, dW_eW, dY_eY, eC_0, eC_1, eU_0, eU_1, eW_0, eW_1, eW_2, eY_0, eY_1, eS_0, eS_1, eS_2, eS_3, eS_4, eS_5, List.length_map, i_inj, b_inj, s_inj, eC_eq, eU_eq, eW_eq, eY_eq, eS_eq, rng64, List.take_succ_cons, List.take_zero, List.nil_append, List.cons_append, decide_true, decide_false, Bool.or_true, true_and, and_true, f8_6]; omega, ?_⟩
  rw [q00]
  refine ⟨by simp only [q00, go_br, q01, q02, allSay, X.says, X.ev, X.evs, evl, tblS, List.getD_cons_zero, List.getD_cons_succ, List.getElem?_cons_zero, List.getElem?_cons_succ, tt_b, int_i, str_s, rs_r, Option.isSome_some, Option.getD_some, decide_eq_true_eq, decide_eq_false_iff_not, dS_eS, dC_eC, dU_eU, dW_eW, dY_eY, eC_0, eC_1, eU_0, eU_1, eW_0, eW_1, eW_2, eY_0, eY_1, eS_0, eS_1, eS_2, eS_3, eS_4, eS_5, List.length_map, i_inj, b_inj, s_inj, eC_eq, eU_eq, eW_eq, eY_eq, eS_eq, rng64, List.take_succ_cons, List.take_zero, List.nil_append, List.cons_append, decide_true, decide_false, Bool.or_true, true_and, and_true], ?_⟩
  rw [q00]
  refine ⟨by simp only [q00, go_br, q01, q02, allSay, X.says, X.ev, X.evs, evl, tblS, List.getD_cons_zero, List.getD_cons_succ, List.getElem?_cons_zero, List.getElem?_cons_succ, tt_b, int_i, str_s, rs_r, Option.isSome_some, Option.getD_some, decide_eq_true_eq, decide_eq_false_iff_not, dS_eS, dC_eC, dU_eU, dW_eW, dY_eY, eC_0, eC_1, eU_0, eU_1, eW_0, eW_1, eW_2, eY_0, eY_1, eS_0, eS_1, eS_2, eS_3, eS_4, eS_5, List.length_map, i_inj, b_inj, s_inj, eC_eq, eU_eq, eW_eq, eY_eq, eS_eq, rng64, List.take_succ_cons, List.take_zero, List.nil_append, List.cons_append, decide_true, decide_false, Bool.or_true, true_and, and_true, eR_0]; omega, ?_⟩
  -- the wakes
  rw [q1b]
  refine ⟨fun st => ∃ k : Nat, k ≤ s.wk.length ∧ st = [.i k, .r ((r.cs ++ wkCs s k).map eC)], fun st => s.wk.length - (st.getD 0 .u).int.toNat, ⟨0, Nat.zero_le _, ?_⟩, ?_⟩
  · simp [X.evs, X.ev, evl, eR_0, D.rs, wkCs]
  rintro st - ⟨k, hk, rfl⟩
  have hwl := wkCs_len s k
  rw [go_br]
  refine ⟨fun hlt => ?_, fun hlt => ?_⟩
  · have hkl : k < s.wk.length := by simpa [X.ev, evl, eS_3, D.int, D.rs, D.tt] using hlt
    simp only [q00, go_br, q01, q02, allSay, X.says, X.ev, X.evs, evl, tblS, List.getD_cons_zero, List.getD_cons_succ, List.getElem?_cons_zero, List.getElem?_cons_succ, tt_b, int_i, str_s, rs_r, Option.isSome_some, Option.getD_some, decide_eq_true_eq, decide_eq_false_iff_not, dS_eS, dC_eC, dU_eU, dW_eW, dY_eY, eC_0, eC_1, eU_0, eU_1, eW_0, eW_1, eW_2, eY_0, eY_1, eS_0, eS_1, eS_2, eS_3, eS_4, eS_5, List.length_map, i_inj, b_inj, s_inj, eC_eq, eU_eq, eW_eq, eY_eq, eS_eq, rng64, List.take_succ_cons, List.take_zero, List.nil_append, List.cons_append, decide_true, decide_false, Bool.or_true, true_and, and_true, get_n eW hkl, List.length_append, List.map_append]
    refine ⟨⟨by omega, by omega⟩, by omega, ⟨by omega, by omega⟩, ?_⟩
    rw [updB, if_pos rfl]
    refine ⟨⟨k + 1, hkl, ?_⟩, by simp [D.int]; omega⟩
    rw [wkCs_succ hkl]
    simp
  have hkk : k = s.wk.length := by
    have : ¬ (k < s.wk.length) := by simpa [X.ev, evl, eS_3, D.int, D.rs, D.tt] using hlt
    omega
  subst hkk
  have hroots : r.cs ++ wkCs s s.wk.length = rootsC s r := by unfold wkCs rootsC; rw [List.take_length]
  rw [hroots]
  -- the stack
  rw [q1b]
  refine ⟨fun st => ∃ (W : List Nat) (T : List Ce) (m : Nat), m ≤ 200000 ∧ st = [.r (W.map eN), .r (T.map eC)] ∧ PJ s r (fun _ => False) W T m, fun st => (st.getD 1 .u).rs.length + potW s ((st.getD 0 .u).rs.map dN), ⟨_, _, _, ?_, ?_, start_pj hv⟩, ?_⟩
  · have h1 := pot_le s (List.replicate (s.cs.length / 64 + 1) 0)
    have h2 := roots_len s r
    have h3 : s.cs.length * (1 + s.tr.length) ≤ 300 * 301 := Nat.mul_le_mul z1 (by omega)
    omega
  · simp only [q00, go_br, q01, q02, allSay, X.says, X.ev, X.evs, evl, tblS, List.getD_cons_zero, List.getD_cons_succ, List.getElem?_cons_zero, List.getElem?_cons_succ, tt_b, int_i, str_s, rs_r, Option.isSome_some, Option.getD_some, decide_eq_true_eq, decide_eq_false_iff_not, dS_eS, dC_eC, dU_eU, dW_eW, dY_eY, eC_0, eC_1, eU_0, eU_1, eW_0, eW_1, eW_2, eY_0, eY_1, eS_0, eS_1, eS_2, eS_3, eS_4, eS_5, List.length_map, i_inj, b_inj, s_inj, eC_eq, eU_eq, eW_eq, eY_eq, eS_eq, rng64, List.take_succ_cons, List.take_zero, List.nil_append, List.cons_append, decide_true, decide_false, Bool.or_true, true_and, and_true, f8_6, hn1, Int.toNat_natCast, hrep]
  rintro st - ⟨W, T, m, hm, rfl, hP⟩
  have hmu : ∀ (W' : List Nat) (T' : List Ce) (m' : Nat), PJ s r (fun _ => False) W' T' m' → m' < m → (([.r (W'.map eN), .r (T'.map eC)] : List D).getD 1 .u).rs.length + potW s ((([.r (W'.map eN), .r (T'.map eC)] : List D).getD 0 .u).rs.map dN) < (([.r (W.map eN), .r (T.map eC)] : List D).getD 1 .u).rs.length + potW s ((([.r (W.map eN), .r (T.map eC)] : List D).getD 0 .u).rs.map dN) := fun W' T' m' h' hlt => by
    simp only [List.getD_cons_zero, List.getD_cons_succ, rs_r, List.length_map, mN]
    have := h'.wt
    have := hP.wt
    omega
  rw [go_br]
  refine ⟨fun hlt => ?_, fun hlt => ?_⟩
  · have hT : 0 < T.length := by
      simp only [q00, go_br, q01, q02, allSay, X.says, X.ev, X.evs, evl, tblS, List.getD_cons_zero, List.getD_cons_succ, List.getElem?_cons_zero, List.getElem?_cons_succ, tt_b, int_i, str_s, rs_r, Option.isSome_some, Option.getD_some, decide_eq_true_eq, decide_eq_false_iff_not, dS_eS, dC_eC, dU_eU, dW_eW, dY_eY, eC_0, eC_1, eU_0, eU_1, eW_0, eW_1, eW_2, eY_0, eY_1, eS_0, eS_1, eS_2, eS_3, eS_4, eS_5, List.length_map, i_inj, b_inj, s_inj, eC_eq, eU_eq, eW_eq, eY_eq, eS_eq, rng64, List.take_succ_cons, List.take_zero, List.nil_append, List.cons_append, decide_true, decide_false, Bool.or_true, true_and, and_true] at hlt
      omega
    obtain ⟨T0, c, rfl⟩ : ∃ T0 c, T = T0 ++ [c] := ⟨T.dropLast, T.getLast (fun e => by rw [e] at hT; simp at hT), (List.dropLast_concat_getLast _).symm⟩
    obtain ⟨hP', hm0⟩ := hP.pop
    obtain ⟨hcg, hcr⟩ := hP.good c (by simp)
    have hTm : T0.length ≤ m := by have := hP'.wt; omega
    have hTl : ((T0.map eC ++ [eC c]).length : Int) - 1 = (T0.length : Nat) := by simp
    have hpop : (D.r (T0.map eC ++ [eC c])).get ((T0.length : Nat) : Int) = eC c := by
      show (T0.map eC ++ [eC c]).getD ((T0.length : Nat) : Int).toNat .u = eC c
      rw [Int.toNat_natCast, List.getD_eq_getElem?_getD, List.getElem?_append_right (by simp)]
      simp
    have hcut : ((T0.map eC ++ [eC c]).take T0.length).drop 0 = T0.map eC := by
      rw [List.drop_zero, ← List.length_map (f := eC), List.take_left]
    have hBk : ∀ (B0 : Nat → List D → Prop) W' T', PJ s r (fun _ => False) W' T' (m - 1) → updB B0 16 (fun st' => (∃ (W : List Nat) (T : List Ce) (m : Nat), m ≤ 200000 ∧ st' = [.r (W.map eN), .r (T.map eC)] ∧ PJ s r (fun _ => False) W T m) ∧ (st'.getD 1 .u).rs.length + potW s ((st'.getD 0 .u).rs.map dN) < (([.r (W.map eN), .r ((T0 ++ [c]).map eC)] : List D).getD 1 .u).rs.length + potW s ((([.r (W.map eN), .r ((T0 ++ [c]).map eC)] : List D).getD 0 .u).rs.map dN)) 16 [.r (W'.map eN), .r (T'.map eC)] := fun B0 W' T' h' => by
      rw [updB, if_pos rfl]
      exact ⟨⟨W', T', m - 1, by omega, rfl, h'⟩, hmu W' T' (m - 1) h' (by omega)⟩
    have hlen1 : (T0 ++ [c]).length = T0.length + 1 := by simp
    rw [q00]
    refine ⟨by simp only [q00, go_br, q01, q02, allSay, X.says, X.ev, X.evs, evl, tblS, List.getD_cons_zero, List.getD_cons_succ, List.getElem?_cons_zero, List.getElem?_cons_succ, tt_b, int_i, str_s, rs_r, Option.isSome_some, Option.getD_some, decide_eq_true_eq, decide_eq_false_iff_not, dS_eS, dC_eC, dU_eU, dW_eW, dY_eY, eC_0, eC_1, eU_0, eU_1, eW_0, eW_1, eW_2, eY_0, eY_1, eS_0, eS_1, eS_2, eS_3, eS_4, eS_5, List.length_map, i_inj, b_inj, s_inj, eC_eq, eU_eq, eW_eq, eY_eq, eS_eq, rng64, List.take_succ_cons, List.take_zero, List.nil_append, List.cons_append, decide_true, decide_false, Bool.or_true, true_and, and_true, List.map_append, List.map_cons, List.map_nil, hTl]; simp only [List.length_append, List.length_map, List.length_singleton]; omega, ?_⟩
    rw [q00]
    refine ⟨by simp only [q00, go_br, q01, q02, allSay, X.says, X.ev, X.evs, evl, tblS, List.getD_cons_zero, List.getD_cons_succ, List.getElem?_cons_zero, List.getElem?_cons_succ, tt_b, int_i, str_s, rs_r, Option.isSome_some, Option.getD_some, decide_eq_true_eq, decide_eq_false_iff_not, dS_eS, dC_eC, dU_eU, dW_eW, dY_eY, eC_0, eC_1, eU_0, eU_1, eW_0, eW_1, eW_2, eY_0, eY_1, eS_0, eS_1, eS_2, eS_3, eS_4, eS_5, List.length_map, i_inj, b_inj, s_inj, eC_eq, eU_eq, eW_eq, eY_eq, eS_eq, rng64, List.take_succ_cons, List.take_zero, List.nil_append, List.cons_append, decide_true, decide_false, Bool.or_true, true_and, and_true, List.map_append, List.map_cons, List.map_nil, hTl]; simp only [List.length_append, List.length_map, List.length_singleton]; omega, ?_⟩
    have hxp : ∀ rest : List D, (xPop.ev (evl (tblS [(q0g, gVis)]) ([eS s, eR r, .i ((s.wk.length : Nat) : Int), .r ((rootsC s r).map eC), .r (W.map eN), .r ((T0 ++ [c]).map eC)] ++ rest))) = eC c := fun rest => by
      simp only [q00, go_br, q01, q02, allSay, X.says, X.ev, X.evs, evl, tblS, List.getD_cons_zero, List.getD_cons_succ, List.getElem?_cons_zero, List.getElem?_cons_succ, tt_b, int_i, str_s, rs_r, Option.isSome_some, Option.getD_some, decide_eq_true_eq, decide_eq_false_iff_not, dS_eS, dC_eC, dU_eU, dW_eW, dY_eY, eC_0, eC_1, eU_0, eU_1, eW_0, eW_1, eW_2, eY_0, eY_1, eS_0, eS_1, eS_2, eS_3, eS_4, eS_5, List.length_map, i_inj, b_inj, s_inj, eC_eq, eU_eq, eW_eq, eY_eq, eS_eq, rng64, List.take_succ_cons, List.take_zero, List.nil_append, List.cons_append, decide_true, decide_false, Bool.or_true, true_and, and_true, List.map_append, List.map_cons, List.map_nil, hTl, hpop]
    have hxp0 := hxp []
    simp only [List.append_nil] at hxp0
    have key : ∀ (q : Nat) (x0 : X), x0 = .fld xPop q → x0.ev (evl (tblS [(q0g, gVis)]) [eS s, eR r, .i ((s.wk.length : Nat) : Int), .r ((rootsC s r).map eC), .r (W.map eN), .r ((T0 ++ [c]).map eC)]) = (eC c).fld q := fun q x0 h => by
      subst h
      show (xPop.ev _).fld q = _
      rw [hxp0]
    have htag : (X.ev (evl (tblS [(q0g, gVis)]) [eS s, eR r, .i ((s.wk.length : Nat) : Int), .r ((rootsC s r).map eC), .r (W.map eN), .r ((T0 ++ [c]).map eC)]) (.fld xPop 0)) = .i c.t := key 0 _ rfl
    have hbr : ∀ n : Int, (X.ev (evl (tblS [(q0g, gVis)]) [eS s, eR r, .i ((s.wk.length : Nat) : Int), .r ((rootsC s r).map eC), .r (W.map eN), .r ((T0 ++ [c]).map eC)]) (.eq (.fld xPop 0) (.lit (.i n)))).tt = decide (c.t = n) := fun n => by
      show (D.b (decide ((X.ev _ (.fld xPop 0)) = D.i n))).tt = _
      rw [htag, tt_b]
      simp
    have hinT : ∀ (bnd : X) (B0 : Nat → List D → Prop), cntS s c ≤ 300 → (∀ st : List D, bnd.ev (evl (tblS [(q0g, gVis)]) ([eS s, eR r, .i ((s.wk.length : Nat) : Int), .r ((rootsC s r).map eC), .r (W.map eN), .r ((T0 ++ [c]).map eC)] ++ st)) = .i (cntS s c : Nat)) → (∀ W' T', PJ s r (fun _ => False) W' T' (m - 1) → B0 16 [.r (W'.map eN), .r (T'.map eC)]) → (inT bnd).go (tblS [(q0g, gVis)]) (fun o => o = [.r ((wordsOf (s.cs.length / 64 + 1) (Mk s r)).map eN)]) [eS s, eR r, .i ((s.wk.length : Nat) : Int), .r ((rootsC s r).map eC), .r (W.map eN), .r ((T0 ++ [c]).map eC)] B0 := fun bnd B0 _ hb hB => in_ok hv z1 z3 (by omega) hP' hcg hcr hb hB
    simp only [List.take_succ_cons, List.take_zero, List.cons_append, List.nil_append]
    rw [go_br]
    refine ⟨fun h0 => ?_, fun h0 => ?_⟩
    · have h0 : c.t = 0 := of_decide_eq_true ((hbr 0).symm.trans h0)
      have hcnt : cntS s c = 1 := if_pos h0
      rw [q00]
      refine ⟨by simp only [q00, go_br, q01, q02, allSay, X.says, X.ev, X.evs, evl, tblS, List.getD_cons_zero, List.getD_cons_succ, List.getElem?_cons_zero, List.getElem?_cons_succ, tt_b, int_i, str_s, rs_r, Option.isSome_some, Option.getD_some, decide_eq_true_eq, decide_eq_false_iff_not, dS_eS, dC_eC, dU_eU, dW_eW, dY_eY, eC_0, eC_1, eU_0, eU_1, eW_0, eW_1, eW_2, eY_0, eY_1, eS_0, eS_1, eS_2, eS_3, eS_4, eS_5, List.length_map, i_inj, b_inj, s_inj, eC_eq, eU_eq, eW_eq, eY_eq, eS_eq, rng64, List.take_succ_cons, List.take_zero, List.nil_append, List.cons_append, decide_true, decide_false, Bool.or_true, true_and, and_true]; omega, ?_⟩
      exact hinT (.lit (.i 1)) _ (by omega) (fun st => by rw [hcnt]; rfl) (hBk _)
    · have h0 : ¬ c.t = 0 := of_decide_eq_false ((hbr 0).symm.trans h0)
      rw [go_br]
      refine ⟨fun h3 => ?_, fun h3 => ?_⟩
      · have h3 : c.t = 3 := of_decide_eq_true ((hbr 3).symm.trans h3)
        obtain ⟨b1, b2⟩ := hcg.b (.inr (.inl h3))
        obtain ⟨y1, y2, y3⟩ := hcg.y h3
        have hcnt : cntS s c = (s.ys.getD (cellAt s c.n).n.toNat default).ar.toNat + 1 := by rw [cntS, if_neg h0, if_pos h3]
        have hin : inS s c.n = true := inS_iff.2 ⟨b1, by omega⟩
        have hcell := cell_get hin
        have hsy := ar_get (s := s) ⟨y1, y2⟩
        rw [q00]
        refine ⟨?_, ?_⟩
        · simp only [q00, go_br, q01, q02, allSay, X.says, X.ev, X.evs, evl, tblS, List.getD_cons_zero, List.getD_cons_succ, List.getElem?_cons_zero, List.getElem?_cons_succ, tt_b, int_i, str_s, rs_r, Option.isSome_some, Option.getD_some, decide_eq_true_eq, decide_eq_false_iff_not, dS_eS, dC_eC, dU_eU, dW_eW, dY_eY, eC_0, eC_1, eU_0, eU_1, eW_0, eW_1, eW_2, eY_0, eY_1, eS_0, eS_1, eS_2, eS_3, eS_4, eS_5, List.length_map, i_inj, b_inj, s_inj, eC_eq, eU_eq, eW_eq, eY_eq, eS_eq, rng64, List.take_succ_cons, List.take_zero, List.nil_append, List.cons_append, decide_true, decide_false, Bool.or_true, true_and, and_true, List.map_append, List.map_cons, List.map_nil, hTl, hpop, hcell]
          omega
        rw [q00]
        refine ⟨?_, ?_⟩
        · simp only [q00, go_br, q01, q02, allSay, X.says, X.ev, X.evs, evl, tblS, List.getD_cons_zero, List.getD_cons_succ, List.getElem?_cons_zero, List.getElem?_cons_succ, tt_b, int_i, str_s, rs_r, Option.isSome_some, Option.getD_some, decide_eq_true_eq, decide_eq_false_iff_not, dS_eS, dC_eC, dU_eU, dW_eW, dY_eY, eC_0, eC_1, eU_0, eU_1, eW_0, eW_1, eW_2, eY_0, eY_1, eS_0, eS_1, eS_2, eS_3, eS_4, eS_5, List.length_map, i_inj, b_inj, s_inj, eC_eq, eU_eq, eW_eq, eY_eq, eS_eq, rng64, List.take_succ_cons, List.take_zero, List.nil_append, List.cons_append, decide_true, decide_false, Bool.or_true, true_and, and_true, List.map_append, List.map_cons, List.map_nil, hTl, hpop, hcell, hsy]
          omega
        refine hinT _ _ (by omega) (fun st => ?_) (hBk _)
        simp only [q00, go_br, q01, q02, allSay, X.says, X.ev, X.evs, evl, tblS, List.getD_cons_zero, List.getD_cons_succ, List.getElem?_cons_zero, List.getElem?_cons_succ, tt_b, int_i, str_s, rs_r, Option.isSome_some, Option.getD_some, decide_eq_true_eq, decide_eq_false_iff_not, dS_eS, dC_eC, dU_eU, dW_eW, dY_eY, eC_0, eC_1, eU_0, eU_1, eW_0, eW_1, eW_2, eY_0, eY_1, eS_0, eS_1, eS_2, eS_3, eS_4, eS_5, List.length_map, i_inj, b_inj, s_inj, eC_eq, eU_eq, eW_eq, eY_eq, eS_eq, rng64, List.take_succ_cons, List.take_zero, List.nil_append, List.cons_append, decide_true, decide_false, Bool.or_true, true_and, and_true, List.map_append, List.map_cons, List.map_nil, hTl, hpop, hcell, hsy, hcnt]
        congr 1
        omega
      · have h3 : ¬ c.t = 3 := of_decide_eq_false ((hbr 3).symm.trans h3)
        rw [go_br]
        refine ⟨fun h5 => ?_, fun h5 => ?_⟩
        · have h5 : c.t = 5 := of_decide_eq_true ((hbr 5).symm.trans h5)
          have hcnt : cntS s c = 3 := by rw [cntS, if_neg h0, if_neg h3, if_pos h5]
          rw [q00]
          refine ⟨by simp only [q00, go_br, q01, q02, allSay, X.says, X.ev, X.evs, evl, tblS, List.getD_cons_zero, List.getD_cons_succ, List.getElem?_cons_zero, List.getElem?_cons_succ, tt_b, int_i, str_s, rs_r, Option.isSome_some, Option.getD_some, decide_eq_true_eq, decide_eq_false_iff_not, dS_eS, dC_eC, dU_eU, dW_eW, dY_eY, eC_0, eC_1, eU_0, eU_1, eW_0, eW_1, eW_2, eY_0, eY_1, eS_0, eS_1, eS_2, eS_3, eS_4, eS_5, List.length_map, i_inj, b_inj, s_inj, eC_eq, eU_eq, eW_eq, eY_eq, eS_eq, rng64, List.take_succ_cons, List.take_zero, List.nil_append, List.cons_append, decide_true, decide_false, Bool.or_true, true_and, and_true]; omega, ?_⟩
          exact hinT (.lit (.i 3)) _ (by omega) (fun st => by rw [hcnt]; rfl) (hBk _)
        · have h5 : ¬ c.t = 5 := of_decide_eq_false ((hbr 5).symm.trans h5)
          have hcnt : cntS s c = 0 := by rw [cntS, if_neg h0, if_neg h3, if_neg h5]
          rw [q02]
          have he : X.evs (evl (tblS [(q0g, gVis)]) [eS s, eR r, .i ((s.wk.length : Nat) : Int), .r ((rootsC s r).map eC), .r (W.map eN), .r ((T0 ++ [c]).map eC)]) [(.tok 4), (.cut (.tok 5) (.lit (.i 0)) (.sub (.len (.tok 5)) (.lit (.i 1))))] = [.r (W.map eN), .r (T0.map eC)] := by
            simp only [q00, go_br, q01, q02, allSay, X.says, X.ev, X.evs, evl, tblS, List.getD_cons_zero, List.getD_cons_succ, List.getElem?_cons_zero, List.getElem?_cons_succ, tt_b, int_i, str_s, rs_r, Option.isSome_some, Option.getD_some, decide_eq_true_eq, decide_eq_false_iff_not, dS_eS, dC_eC, dU_eU, dW_eW, dY_eY, eC_0, eC_1, eU_0, eU_1, eW_0, eW_1, eW_2, eY_0, eY_1, eS_0, eS_1, eS_2, eS_3, eS_4, eS_5, List.length_map, i_inj, b_inj, s_inj, eC_eq, eU_eq, eW_eq, eY_eq, eS_eq, rng64, List.take_succ_cons, List.take_zero, List.nil_append, List.cons_append, decide_true, decide_false, Bool.or_true, true_and, and_true, List.map_append, List.map_cons, List.map_nil, hTl, Int.toNat_natCast, Int.toNat_zero, hcut]
          rw [he]
          exact hBk _ W T0 (hP'.drop hcnt)
  · have hT : T = [] := by
      simp only [q00, go_br, q01, q02, allSay, X.says, X.ev, X.evs, evl, tblS, List.getD_cons_zero, List.getD_cons_succ, List.getElem?_cons_zero, List.getElem?_cons_succ, tt_b, int_i, str_s, rs_r, Option.isSome_some, Option.getD_some, decide_eq_true_eq, decide_eq_false_iff_not, dS_eS, dC_eC, dU_eU, dW_eW, dY_eY, eC_0, eC_1, eU_0, eU_1, eW_0, eW_1, eW_2, eY_0, eY_1, eS_0, eS_1, eS_2, eS_3, eS_4, eS_5, List.length_map, i_inj, b_inj, s_inj, eC_eq, eU_eq, eW_eq, eY_eq, eS_eq, rng64, List.take_succ_cons, List.take_zero, List.nil_append, List.cons_append, decide_true, decide_false, Bool.or_true, true_and, and_true] at hlt
      exact List.eq_nil_of_length_eq_zero (by omega)
    subst hT
    simp only [q00, go_br, q01, q02, allSay, X.says, X.ev, X.evs, evl, tblS, List.getD_cons_zero, List.getD_cons_succ, List.getElem?_cons_zero, List.getElem?_cons_succ, tt_b, int_i, str_s, rs_r, Option.isSome_some, Option.getD_some, decide_eq_true_eq, decide_eq_false_iff_not, dS_eS, dC_eC, dU_eU, dW_eW, dY_eY, eC_0, eC_1, eU_0, eU_1, eW_0, eW_1, eW_2, eY_0, eY_1, eS_0, eS_1, eS_2, eS_3, eS_4, eS_5, List.length_map, i_inj, b_inj, s_inj, eC_eq, eU_eq, eW_eq, eY_eq, eS_eq, rng64, List.take_succ_cons, List.take_zero, List.nil_append, List.cons_append, decide_true, decide_false, Bool.or_true, true_and, and_true]
    rw [hP.done hv]
end Go.Proofs.Ytmebmpgffhajbaa


namespace Go.Proofs.Ytmebmpgffhajbaa
open Go.RowKit
set_option linter.unusedVariables false
set_option linter.unusedSimpArgs false

def bq (on : List Bool) (x : Nat) : Bool := on.getD x false
def cntF (on : List Bool) : Nat := (on.filter fun b => !b).length
def markF (s : So) : Nat → List Bool → Nat → Option (List Bool)
  | 0, on, a => if bq on a then some on else none
  | f + 1, on, a => if bq on a then some on else (List.range (cntS s (cellAt s (a : Nat)))).foldlM (fun on j => markF s f on ((cellAt s (a : Nat)).n.toNat + j)) (on.set a true)
def reachF (s : So) (f : Nat) (on : List Bool) (c : Ce) : Option (List Bool) := (List.range (cntS s c)).foldlM (fun on j => markF s f on (c.n.toNat + j)) on

structure Ext (s : So) (on on' : List Bool) : Prop where
  len : on'.length = on.length
  mono : ∀ x, bq on x = true → bq on' x = true
  clo : ∀ y, bq on' y = true → bq on y = false → ∀ x ∈ tgS s (cellAt s (y : Nat)), bq on' x = true
theorem Ext.refl (s : So) (on : List Bool) : Ext s on on := ⟨rfl, fun _ h => h, fun y h h' => by rw [h] at h'; cases h'⟩
theorem Ext.trans {s : So} {a b c : List Bool} (h : Ext s a b) (k : Ext s b c) : Ext s a c :=
  ⟨k.len.trans h.len, fun x hx => k.mono x (h.mono x hx), fun y hy hn x hx => by
    cases hb : bq b y with
    | true => exact k.mono x (h.clo y hb hn x hx)
    | false => exact k.clo y hy hb x hx⟩
def Snd (s : So) (on on' : List Bool) (l : List Nat) : Prop := ∀ G : Nat → Prop, (∀ y, G y → ∀ x ∈ tgS s (cellAt s (y : Nat)), G x) → (∀ a ∈ l, G a) → (∀ x, bq on x = true → G x) → ∀ x, bq on' x = true → G x

theorem bq_set {on : List Bool} {a x : Nat} (ha : a < on.length) : bq (on.set a true) x = (bq on x || decide (x = a)) := by
  unfold bq
  by_cases h : x = a
  · subst h
    simp [List.getD_eq_getElem?_getD, ha]
  · simp only [List.getD_eq_getElem?_getD, List.getElem?_set_ne (fun e => h e.symm)]
    simp [h]
theorem cntF_cons (b : Bool) (l : List Bool) : cntF (b :: l) = (if b then 0 else 1) + cntF l := by
  cases b <;> simp [cntF]
  omega
theorem cntF_set : ∀ {on : List Bool} {a : Nat}, a < on.length → bq on a = false → cntF on = cntF (on.set a true) + 1
  | [], a, h, _ => by simp at h
  | b :: l, 0, h, hb => by
    have hb : b = false := hb
    subst hb
    simp [cntF_cons]
    omega
  | b :: l, a + 1, h, hb => by
    have := cntF_set (on := l) (a := a) (by simpa using h) hb
    simp only [List.set_cons_succ, cntF_cons]
    omega
theorem cntF_mono : ∀ {a b : List Bool}, b.length = a.length → (∀ x, bq a x = true → bq b x = true) → cntF b ≤ cntF a
  | [], [], _, _ => Nat.le_refl _
  | x :: a, y :: b, hl, h => by
    have h1 := cntF_mono (a := a) (b := b) (by simpa using hl) fun z hz => h (z + 1) hz
    have h0 : x = true → y = true := h 0
    simp only [cntF_cons]
    cases x with
    | true => rw [h0 rfl]; simpa using h1
    | false => cases y <;> simp <;> omega
  | [], _ :: _, hl, _ => by simp at hl
  | _ :: _, [], hl, _ => by simp at hl
theorem Ext.cnt {s : So} {a b : List Bool} (h : Ext s a b) : cntF b ≤ cntF a := cntF_mono h.len h.mono

theorem foldM_snoc {f : List Bool → Nat → Option (List Bool)} {j : Nat} {on : List Bool} : (List.range (j + 1)).foldlM f on = ((List.range j).foldlM f on).bind fun on => f on j := by
  rw [List.range_succ, List.foldlM_append]
  simp only [List.foldlM_cons, List.foldlM_nil, bind, Option.bind]
  cases (List.range j).foldlM f on with
  | none => rfl
  | some x => simp [Option.bind]; cases f x j <;> rfl

theorem markF_ok {s : So} (hv : ∀ i : Nat, i < s.cs.length → Gce s (cellAt s (i : Nat))) : ∀ (f : Nat) {on : List Bool} {a : Nat}, on.length = s.cs.length → cntF on ≤ f → a < s.cs.length → ∃ on', markF s f on a = some on' ∧ Ext s on on' ∧ bq on' a = true ∧ Snd s on on' [a] := by
  intro f
  induction f with
  | zero =>
    intro on a hl hf ha
    cases hb : bq on a with
    | true => exact ⟨on, by unfold markF; rw [if_pos hb], .refl s on, hb, fun G _ _ h => h⟩
    | false =>
      have := cntF_set (by omega) hb
      omega
  | succ f ih =>
    intro on a hl hf ha
    unfold markF
    cases hb : bq on a with
    | true => exact ⟨on, by simp, .refl s on, hb, fun G _ _ h => h⟩
    | false =>
      simp only [Bool.false_eq_true, if_false]
      have hal : a < on.length := by omega
      have hc := cntF_set hal hb
      have hcell := hv a ha
      have hset : ∀ x, bq (on.set a true) x = (bq on x || decide (x = a)) := fun x => bq_set hal
      -- the addresses in turn
      have key : ∀ m, m ≤ cntS s (cellAt s (a : Nat)) → ∃ on', (List.range m).foldlM (fun on j => markF s f on ((cellAt s (a : Nat)).n.toNat + j)) (on.set a true) = some on' ∧ Ext s (on.set a true) on' ∧ (∀ i, i < m → bq on' ((cellAt s (a : Nat)).n.toNat + i) = true) ∧ Snd s (on.set a true) on' ((List.range m).map ((cellAt s (a : Nat)).n.toNat + ·)) := by
        intro m
        induction m with
        | zero => intro _; exact ⟨_, rfl, .refl s _, fun i hi => absurd hi (Nat.not_lt_zero _), fun G _ _ h => h⟩
        | succ m ihm =>
          intro hm
          obtain ⟨on1, h1, h2, h3, h4⟩ := ihm (by omega)
          have hlt := tg_lt hcell (tg_mem.2 ⟨m, by omega, rfl⟩)
          obtain ⟨on2, k1, k2, k3, k4⟩ := ih (on := on1) (a := (cellAt s (a : Nat)).n.toNat + m) (by rw [h2.len, List.length_set]; exact hl) (by have := h2.cnt; omega) hlt
          refine ⟨on2, by rw [foldM_snoc, h1]; exact k1, h2.trans k2, fun i hi => ?_, fun G hG hl hx => k4 G hG (fun z hz => ?_) (h4 G hG (fun z hz => hl z ?_) hx)⟩
          · by_cases h : i < m
            · exact k2.mono _ (h3 i h)
            · obtain rfl : i = m := by omega
              exact k3
          · rw [List.mem_singleton] at hz
            subst hz
            exact hl _ (List.mem_map.2 ⟨m, List.mem_range.2 (by omega), rfl⟩)
          · obtain ⟨i, hi, rfl⟩ := List.mem_map.1 hz
            exact List.mem_map.2 ⟨i, List.mem_range.2 (by have := List.mem_range.1 hi; omega), rfl⟩
      obtain ⟨on', h1, h2, h3, h4⟩ := key _ (Nat.le_refl _)
      refine ⟨on', h1, ⟨by rw [h2.len, List.length_set], fun x hx => h2.mono x (by rw [hset, hx]; rfl), fun y hy hn x hx => ?_⟩, h2.mono a (by rw [hset]; simp), fun G hG hl hx => h4 G hG (fun z hz => ?_) fun x hx' => ?_⟩
      · by_cases hya : y = a
        · subst hya
          obtain ⟨i, hi, rfl⟩ := tg_mem.1 hx
          exact h3 i hi
        · exact h2.clo y hy (by rw [hset, hn]; simp [hya]) x hx
      · obtain ⟨i, hi, rfl⟩ := List.mem_map.1 hz
        exact hG a (hl a (by simp)) _ (tg_mem.2 ⟨i, List.mem_range.1 hi, rfl⟩)
      · rw [hset, Bool.or_eq_true, decide_eq_true_eq] at hx'
        rcases hx' with h | rfl
        · exact hx x h
        · exact hl _ (by simp)

theorem reachF_ok {s : So} (hv : ∀ i : Nat, i < s.cs.length → Gce s (cellAt s (i : Nat))) {f : Nat} {on : List Bool} {c : Ce} (hl : on.length = s.cs.length) (hf : cntF on ≤ f) (hc : Gce s c) : ∀ m, m ≤ cntS s c → ∃ on', (List.range m).foldlM (fun on j => markF s f on (c.n.toNat + j)) on = some on' ∧ Ext s on on' ∧ (∀ i, i < m → bq on' (c.n.toNat + i) = true) ∧ Snd s on on' (tgS s c) := by
  intro m
  induction m with
  | zero => intro _; exact ⟨_, rfl, .refl s _, fun i hi => absurd hi (Nat.not_lt_zero _), fun G _ _ h => h⟩
  | succ m ihm =>
    intro hm
    obtain ⟨on1, h1, h2, h3, h4⟩ := ihm (by omega)
    have hlt := tg_lt hc (tg_mem.2 ⟨m, by omega, rfl⟩)
    obtain ⟨on2, k1, k2, k3, k4⟩ := markF_ok hv f (on := on1) (a := c.n.toNat + m) (by rw [h2.len]; exact hl) (by have := h2.cnt; omega) hlt
    refine ⟨on2, by rw [foldM_snoc, h1]; exact k1, h2.trans k2, fun i hi => ?_, fun G hG hl hx => k4 G hG (fun z hz => ?_) (h4 G hG hl hx)⟩
    · by_cases h : i < m
      · exact k2.mono _ (h3 i h)
      · obtain rfl : i = m := by omega
        exact k3
    · rw [List.mem_singleton] at hz
      subst hz
      exact hl _ (tg_mem.2 ⟨m, by omega, rfl⟩)

def eM (s : So) (on : List Bool) : D := .a [eS s, .r (on.map D.b)]
def dOn (d : D) : List Bool := (d.fld 1).rs.map D.tt
theorem dOn_eM (s : So) (on : List Bool) : dOn (eM s on) = on := by
  show (on.map D.b).map D.tt = on
  exact map_id' (fun _ => tt_b _) on
theorem eM_0 (s : So) (on : List Bool) : (eM s on).fld 0 = eS s := rfl
def Gc5 (s : So) (c : Ce) : Prop := Gce s c ∧ 0 ≤ c.t ∧ c.t ≤ 5
def VC (s : So) : Prop := ∀ i : Nat, i < s.cs.length → Gc5 s (cellAt s (i : Nat))
def QM (s : So) (on : List Bool) : Prop := VC s ∧ s.cs.length ≤ 300 ∧ on.length = s.cs.length
open Classical in
noncomputable def gMR : List D → Option (List D)
  | [d, c] => if QM (dS (d.fld 0)) (dOn d) ∧ Gc5 (dS (d.fld 0)) (dC c) then (reachF (dS (d.fld 0)) (cntF (dOn d)) (dOn d) (dC c)).map fun on => [eM (dS (d.fld 0)) on] else none
  | _ => none
theorem gMR_at {s : So} {on on' : List Bool} {c : Ce} (hv : QM s on) (hc : Gc5 s c) (h : reachF s (cntF on) on c = some on') : gMR [eM s on, eC c] = some [eM s on'] := by
  have hQ : QM (dS ((eM s on).fld 0)) (dOn (eM s on)) ∧ Gc5 (dS ((eM s on).fld 0)) (dC (eC c)) := by
    rw [eM_0, dS_eS, dOn_eM]
    exact ⟨hv, hc⟩
  simp only [gMR]
  rw [if_pos hQ, eM_0, dS_eS, dOn_eM, dC_eC, h]
  rfl
end Go.Proofs.Ytmebmpgffhajbaa


namespace Go.Proofs.Ytmebmpgffhajbaa
open Go.RowKit
set_option linter.unusedVariables false
set_option linter.unusedSimpArgs false

end Go.Proofs.Ytmebmpgffhajbaa


namespace Go.Proofs.Ytmebmpgffhajbaa
open Go.RowKit
set_option linter.unusedVariables false
set_option linter.unusedSimpArgs false

noncomputable def onOf (s : So) (r : Ro) : List Bool := (List.range s.cs.length).map (Mk s r)
theorem VC.of {s : So} (h : validR s = true) : VC s := fun i hi => by
  have hin : inS s (i : Nat) = true := inS_iff.2 ⟨by omega, by omega⟩
  exact ⟨gce_cell h hin, (validR_vs h).tag _ hin⟩
structure JS (s : So) (r : Ro) (on : List Bool) : Prop where
  len : on.length = s.cs.length
  sound : ∀ x, bq on x = true → Rch s r x
  clo : ∀ y, bq on y = true → ∀ x ∈ tgS s (cellAt s (y : Nat)), bq on x = true
theorem JS.step {s : So} {r : Ro} {on : List Bool} (hv : VC s) (h : JS s r on) {c : Ce} (hc : Gc5 s c) (hr : ∀ x ∈ tgS s c, Rch s r x) :
    ∃ on', reachF s (cntF on) on c = some on' ∧ JS s r on' ∧ (∀ x, bq on x = true → bq on' x = true) ∧ ∀ x ∈ tgS s c, bq on' x = true := by
  obtain ⟨on', h1, h2, h3, h4⟩ := reachF_ok (fun i hi => (hv i hi).1) h.len (Nat.le_refl _) hc.1 (cntS s c) (Nat.le_refl _)
  refine ⟨on', h1, ⟨h2.len.trans h.len, h4 _ (fun y hy x hx => .cell hy hx) hr h.sound, fun y hy x hx => ?_⟩, h2.mono, fun x hx => ?_⟩
  · cases hb : bq on y with
    | true => exact h2.mono x (h.clo y hb x hx)
    | false => exact h2.clo y hy hb x hx
  · obtain ⟨i, hi, rfl⟩ := tg_mem.1 hx
    exact h3 i hi
theorem JS.call {s : So} {r : Ro} {on on' : List Bool} {c : Ce} (hv : VC s) (hs : s.cs.length ≤ 300) (h : JS s r on) (hc : Gc5 s c) (hr : reachF s (cntF on) on c = some on') : gMR [eM s on, eC c] = some [eM s on'] := gMR_at ⟨hv, hs, h.len⟩ hc hr

theorem oldsS_mem {s : So} {y : Nat} {c : Ce} (h : c ∈ oldsS s y) : ∃ i, i < s.tr.length ∧ (s.tr.getD i default).at' = (y : Int) ∧ c = (s.tr.getD i default).old := by
  obtain ⟨u, hu, rfl⟩ := List.mem_map.1 h
  obtain ⟨h1, h2⟩ := List.mem_filter.1 hu
  obtain ⟨i, hi, rfl⟩ := List.mem_iff_getElem.1 h1
  have e : s.tr.getD i default = s.tr[i] := by simp [List.getD_eq_getElem?_getD, hi]
  exact ⟨i, hi, by rw [e]; simpa using h2, by rw [e]⟩

structure JD (s : So) (r : Ro) (done on : List Bool) : Prop where
  js : JS s r on
  root : ∀ c ∈ rootsC s r, ∀ x ∈ tgS s c, bq on x = true
  dl : done.length = s.tr.length
  ds : ∀ i, bq done i = true → ∀ x ∈ tgS s (s.tr.getD i default).old, bq on x = true
def Rest (s : So) (done on : List Bool) (k : Nat) : Prop := ∀ i, i < k → bq done i = true ∨ bq on (s.tr.getD i default).at'.toNat = false

theorem JD.done {s : So} {r : Ro} (hv : VG s r) {done on : List Bool} (h : JD s r done on) (hr : Rest s done on s.tr.length) : on = onOf s r := by
  refine List.ext_getElem (by rw [h.js.len, onOf, List.length_map, List.length_range]) fun i h1 h2 => ?_
  have e : (onOf s r)[i] = Mk s r i := by simp [onOf]
  have e1 : bq on i = on[i] := by simp [bq, List.getD_eq_getElem?_getD, h1]
  rw [e, ← e1, Bool.eq_iff_iff, Mk_iff]
  refine ⟨h.js.sound i, fun hi => Rch.of_closed (P := fun x => bq on x = true) h.root h.js.clo (fun y hy c hc x hx => ?_) hi⟩
  obtain ⟨j, hj, hat, rfl⟩ := oldsS_mem hc
  rcases hr j hj with hd | hd
  · exact h.ds j hd x hx
  · rw [hat, Int.toNat_natCast, hy] at hd
    cases hd

end Go.Proofs.Ytmebmpgffhajbaa


namespace Go.Proofs.Ytmebmpgffhajbaa
open Go.RowKit
set_option linter.unusedVariables false
set_option linter.unusedSimpArgs false

theorem acc1_ok {S : Nat → List D → Option (List D)} {R : List D → Prop} {id n : Nat} {x1 : X} {body : Tree} {l : List D} {B : Nat → List D → Prop} (N : Nat) (F : Nat → D) (h0 : x1.ev (evl S l) = F 0)
    (h : ∀ (k : Nat) (B' : Nat → List D → Prop), k ≤ N → (k < N → B' id [F (k + 1), .i ((k : Int) + 1)]) → (∀ j, j ≠ id → B' j = B j) → body.go S R (l.take n ++ [F k, .i k]) B') : (Tree.loop id n [x1, .lit (.i 0)] body).go S R l B := by
  rw [q1b]
  refine ⟨fun st => ∃ k : Nat, k ≤ N ∧ st = [F k, .i k], fun st => N - (st.getD 1 .u).int.toNat, ⟨0, Nat.zero_le _, by simp [X.evs, X.ev, h0]⟩, ?_⟩
  rintro st - ⟨k, hk, rfl⟩
  refine h k _ hk (fun hlt => ?_) fun j hj => by rw [updB, if_neg hj]
  rw [updB, if_pos rfl]
  refine ⟨⟨k + 1, hlt, by simp⟩, ?_⟩
  simp [D.int]
  omega
theorem acc2_ok {S : Nat → List D → Option (List D)} {R : List D → Prop} {id n : Nat} {x1 : X} {body : Tree} {l : List D} {B : Nat → List D → Prop} (N : Nat) (F : Nat → D) (h0 : x1.ev (evl S l) = F 0)
    (h : ∀ (k : Nat) (B' : Nat → List D → Prop), k ≤ N → (k < N → B' id [.i ((k : Int) + 1), F (k + 1)]) → (∀ j, j ≠ id → B' j = B j) → body.go S R (l.take n ++ [.i k, F k]) B') : (Tree.loop id n [.lit (.i 0), x1] body).go S R l B := by
  rw [q1b]
  refine ⟨fun st => ∃ k : Nat, k ≤ N ∧ st = [.i k, F k], fun st => N - (st.getD 0 .u).int.toNat, ⟨0, Nat.zero_le _, by simp [X.evs, X.ev, h0]⟩, ?_⟩
  rintro st - ⟨k, hk, rfl⟩
  refine h k _ hk (fun hlt => ?_) fun j hj => by rw [updB, if_neg hj]
  rw [updB, if_pos rfl]
  refine ⟨⟨k + 1, hlt, by simp⟩, ?_⟩
  simp [D.int]
  omega

def bef (f : Nat → Bool) : Nat → Nat
  | 0 => 0
  | a + 1 => bef f a + if f a then 1 else 0
theorem bef_le (f : Nat → Bool) (a : Nat) : bef f a ≤ a := by
  induction a with
  | zero => exact Nat.le_refl _
  | succ a ih => unfold bef; split <;> omega
def mvC (f : Nat → Bool) (c : Ce) : Ce := if c.t = 0 ∨ c.t = 3 ∨ c.t = 5 then ⟨c.t, (bef f c.n.toNat : Nat)⟩ else c
def mvQ (n : Nat) (c : Ce) : Prop := c.t = 0 ∨ c.t = 3 ∨ c.t = 5 → 0 ≤ c.n ∧ c.n ≤ n
def heapF (f : Nat → Bool) (s : So) (k : Nat) : List Ce := ((List.range k).filter f).map fun i => mvC f (cellAt s (i : Nat))
def onTr (f : Nat → Bool) (u : Un) : Bool := f u.at'.toNat
def mvU (f : Nat → Bool) (u : Un) : Un := ⟨(bef f u.at'.toNat : Nat), mvC f u.old⟩
def trailF (f : Nat → Bool) (s : So) (k : Nat) : List Un := ((s.tr.take k).filter (onTr f)).map (mvU f)
def mvW (f : Nat → Bool) (w : Wk) : Wk := ⟨w.ser, mvC f w.att, mvC f w.val⟩
def keptF (f : Nat → Bool) (s : So) (k : Nat) : Nat := ((s.tr.take k).filter (onTr f)).length
def colS (f : Nat → Bool) (s : So) : So := { s with cs := heapF f s s.cs.length, tr := trailF f s s.tr.length, wk := s.wk.map (mvW f) }
def colR (f : Nat → Bool) (s : So) (r : Ro) : Ro := ⟨r.cs.map (mvC f), r.tp.map fun t => ((bef f t.toNat : Nat) : Int), r.ms.map fun t => ((keptF f s t.toNat : Nat) : Int)⟩

theorem heapF_succ (f : Nat → Bool) (s : So) (k : Nat) : heapF f s (k + 1) = heapF f s k ++ if f k then [mvC f (cellAt s (k : Nat))] else [] := by
  unfold heapF
  rw [List.range_succ, List.filter_append, List.map_append]
  congr 1
  cases h : f k <;> simp [h]
theorem heapF_len (f : Nat → Bool) (s : So) (k : Nat) : (heapF f s k).length = bef f k := by
  induction k with
  | zero => rfl
  | succ k ih =>
    rw [heapF_succ, List.length_append, ih, bef]
    split <;> simp
theorem keptF_succ {f : Nat → Bool} {s : So} {k : Nat} (h : k < s.tr.length) : keptF f s (k + 1) = keptF f s k + if onTr f (s.tr.getD k default) then 1 else 0 := by
  unfold keptF
  rw [take_snoc h, List.filter_append, List.length_append]
  congr 1
  generalize s.tr.getD k default = u
  cases h : onTr f u <;> simp [h]
theorem keptF_le (f : Nat → Bool) (s : So) (k : Nat) : keptF f s k ≤ k := by
  unfold keptF
  refine Nat.le_trans (List.length_filter_le _ _) ?_
  exact List.length_take_le _ _
theorem trailF_succ {f : Nat → Bool} {s : So} {k : Nat} (h : k < s.tr.length) : trailF f s (k + 1) = trailF f s k ++ if onTr f (s.tr.getD k default) then [mvU f (s.tr.getD k default)] else [] := by
  unfold trailF
  rw [take_snoc h, List.filter_append, List.map_append]
  congr 1
  generalize s.tr.getD k default = u
  cases h : onTr f u <;> simp [h]
theorem trailF_len (f : Nat → Bool) (s : So) (k : Nat) : (trailF f s k).length = keptF f s k := by
  unfold trailF keptF
  rw [List.length_map]

def gBef : List D → Option (List D)
  | [.r on, .i a] => if decide (0 ≤ a) && (decide (a ≤ on.length) && decide (on.length ≤ 300)) then some [.i (bef (bq (on.map D.tt)) a.toNat : Nat)] else none
  | _ => none
theorem gBef_at {on : List Bool} {a : Nat} (h : a ≤ on.length) (h3 : on.length ≤ 300) : gBef [.r (on.map D.b), .i (a : Int)] = some [.i (bef (bq on) a : Nat)] := by
  simp only [gBef, List.length_map, map_id' (fun _ => tt_b _), Int.toNat_natCast]
  rw [if_pos (by simp only [Bool.and_eq_true, decide_eq_true_eq]; omega)]
theorem tag3 {c : Ce} : (decide (c.t = 0) || decide (c.t = 3) || decide (c.t = 5)) = decide (c.t = 0 ∨ c.t = 3 ∨ c.t = 5) := by
  by_cases h0 : c.t = 0 <;> by_cases h3 : c.t = 3 <;> by_cases h5 : c.t = 5 <;> simp [h0, h3, h5]
end Go.Proofs.Ytmebmpgffhajbaa


namespace Go.Proofs.Ytmebmpgffhajbaa
open Go.RowKit
set_option linter.unusedVariables false
set_option linter.unusedSimpArgs false

noncomputable def gCol : List D → Option (List D)
  | [s, r] => if smallB (dS s) (dR r) then some (if okR validR vcR (dS s) (dR r) then [.i 0, eS (colS (Mk (dS s) (dR r)) (dS s)), eR (colR (Mk (dS s) (dR r)) (dS s) (dR r))] else [.i 1, eS (dS s), eR (dR r)]) else none
  | _ => none
theorem Mk_lt {s : So} {r : Ro} (hv : VG s r) {i : Nat} (h : Mk s r i = true) : i < s.cs.length := (Mk_iff.1 h).lt hv
theorem bq_on {s : So} {r : Ro} (hv : VG s r) : bq (onOf s r) = Mk s r := by
  funext i
  unfold bq onOf
  rw [List.getD_eq_getElem?_getD, List.getElem?_map]
  rcases Nat.lt_or_ge i s.cs.length with h | h
  · rw [List.getElem?_range h]
    rfl
  · rw [List.getElem?_eq_none (by simpa using h)]
    cases hm : Mk s r i with
    | false => rfl
    | true => have := Mk_lt hv hm; omega
theorem on_len (s : So) (r : Ro) : (onOf s r).length = s.cs.length := by simp [onOf]
theorem Gce.mv {s : So} {c : Ce} (h : Gce s c) : mvQ s.cs.length c := fun ht => by
  have := h.b ht
  omega
structure GcQ (s : So) (r : Ro) : Prop where
  ok : okR validR vcR s r = true
  sm : smallB s r = true
theorem GcQ.vg {s : So} {r : Ro} (h : GcQ s r) : VG s r := vg_of h.ok
theorem GcQ.bef {s : So} {r : Ro} (h : GcQ s r) {a : Nat} (ha : a ≤ s.cs.length) : gBef [.r ((onOf s r).map D.b), .i (a : Int)] = some [.i (bef (Mk s r) a : Nat)] := by
  have := gBef_at (on := onOf s r) (a := a) (by rw [on_len]; exact ha) (by rw [on_len]; exact (small_parts h.sm).1)
  rw [bq_on h.vg] at this
  exact this

theorem take_map_succ {α β : Type} [Inhabited α] (g : α → β) {l : List α} {k : Nat} (h : k < l.length) : (l.take (k + 1)).map g = (l.take k).map g ++ [g (l.getD k default)] := by
  rw [take_snoc h, List.map_append]
  rfl
theorem app_if {α : Type} (l : List α) (e : α → D) (b : Bool) (x : α) (hb : b = true) : (l ++ if b then [x] else []).map e = l.map e ++ [e x] := by
  rw [hb, if_pos rfl, List.map_append]
  rfl
theorem app_if0 {α : Type} (l : List α) (e : α → D) (b : Bool) (x : α) (hb : b = false) : (l ++ if b then [x] else []).map e = l.map e := by
  rw [hb, if_neg (by decide), List.append_nil]

end Go.Proofs.Ytmebmpgffhajbaa


namespace Go.Proofs.Ytmebmpgffhajbaa
open Go.RowKit
set_option linter.unusedVariables false
set_option linter.unusedSimpArgs false

theorem acc3_ok {S : Nat → List D → Option (List D)} {R : List D → Prop} {id n : Nat} {x1 x2 : X} {body : Tree} {l : List D} {B : Nat → List D → Prop} (N : Nat) (F G : Nat → D) (h0 : x1.ev (evl S l) = F 0) (h1 : x2.ev (evl S l) = G 0)
    (h : ∀ (k : Nat) (B' : Nat → List D → Prop), k ≤ N → (k < N → B' id [F (k + 1), .i ((k : Int) + 1), G (k + 1)]) → (∀ j, j ≠ id → B' j = B j) → body.go S R (l.take n ++ [F k, .i k, G k]) B') : (Tree.loop id n [x1, .lit (.i 0), x2] body).go S R l B := by
  rw [q1b]
  refine ⟨fun st => ∃ k : Nat, k ≤ N ∧ st = [F k, .i k, G k], fun st => N - (st.getD 1 .u).int.toNat, ⟨0, Nat.zero_le _, by simp [X.evs, X.ev, h0, h1]⟩, ?_⟩
  rintro st - ⟨k, hk, rfl⟩
  refine h k _ hk (fun hlt => ?_) fun j hj => by rw [updB, if_neg hj]
  rw [updB, if_pos rfl]
  refine ⟨⟨k + 1, hlt, by simp⟩, ?_⟩
  simp [D.int]
  omega

noncomputable def wdOf (s : So) (r : Ro) : List Nat := wordsOf (s.cs.length / 64 + 1) (Mk s r)
theorem GcQ.mark {s : So} {r : Ro} (h : GcQ s r) : gMark [eS s, eR r] = some [.r ((wdOf s r).map eN)] := by
  simp only [gMark, dS_eS, dR_eR, h.ok, h.sm, Bool.and_self, if_true]
  rfl
theorem GcQ.has {s : So} {r : Ro} (h : GcQ s r) {a : Nat} (ha : a < s.cs.length) : gHas [.r ((wdOf s r).map eN), .i (a : Int)] = some [.b (Mk s r a)] := by
  have hl : (wdOf s r).length = s.cs.length / 64 + 1 := words_len _ _
  have h2 : a / 64 < s.cs.length / 64 + 1 := by omega
  simp only [gHas, mN, List.length_map, hl, Int.toNat_natCast, h2, decide_true, Bool.and_true, show decide ((0 : Int) ≤ (a : Int)) = true from decide_eq_true (by omega), if_true]
  rw [wdOf, words_bit h2]

def toL (f : Nat → Nat) (n k : Nat) : List Int := (List.range (n + 1)).map fun i => if i ≤ k then (f i : Int) else 0
theorem toL_len (f : Nat → Nat) (n k : Nat) : (toL f n k).length = n + 1 := by simp [toL]
theorem toL_get {f : Nat → Nat} {n k i : Nat} (h : i < n + 1) : (toL f n k).getD i default = if i ≤ k then (f i : Int) else 0 := by
  unfold toL
  rw [List.getD_eq_getElem?_getD, List.getElem?_map, List.getElem?_range h]
  rfl
theorem toL_zero (f : Nat → Nat) (n : Nat) (h : f 0 = 0) : (toL f n 0).map D.i = List.replicate (n + 1) (.i 0) := by
  refine List.ext_getElem (by simp [toL]) fun i h1 h2 => ?_
  simp only [toL, List.map_map, List.getElem_map, List.getElem_range, Function.comp_def, List.getElem_replicate]
  congr 1
  split
  · obtain rfl : i = 0 := by omega
    rw [h]; rfl
  · rfl
theorem toL_set {f : Nat → Nat} {n k : Nat} (h : k < n) {v : Int} (hv : v = f (k + 1)) : (toL f n k).set (k + 1) v = toL f n (k + 1) := by
  subst hv
  refine List.ext_getElem (by simp [toL]) fun i h1 h2 => ?_
  simp only [toL, List.getElem_set, List.getElem_map, List.getElem_range]
  by_cases hi : k + 1 = i
  · subst hi
    simp
  · rw [if_neg hi]
    by_cases h3 : i ≤ k
    · rw [if_pos h3, if_pos (by omega)]
    · rw [if_neg h3, if_neg (by omega)]

def gMove : List D → Option (List D)
  | [c, .r to] => if (if (dC c).t = 0 ∨ (dC c).t = 3 ∨ (dC c).t = 5 then decide (0 ≤ (dC c).n) && decide ((dC c).n < to.length) else true) then some [eC (if (dC c).t = 0 ∨ (dC c).t = 3 ∨ (dC c).t = 5 then ⟨(dC c).t, (to.map D.int).getD (dC c).n.toNat default⟩ else dC c)] else none
  | _ => none
theorem ok_gc_Collect_1 : FOk q10 gMove := fok_gc_Collect_1 fun ds outs hw hg => by
  obtain ⟨d, r, rfl, hd, e, r', rfl, he, rfl⟩ := hw
  obtain ⟨c, rfl, hc⟩ := wfC hd
  obtain ⟨l, rfl, hl, hlc⟩ := wfIsR he
  simp only [gMove, List.length_map, map_id' (fun _ => int_i _), dC_eC, Option.ite_none_right_eq_some, Option.some.injEq] at hg
  obtain ⟨hq, rfl⟩ := hg
  rw [q21, go_br]
  simp only [q00, go_br, q01, q02, allSay, X.says, X.ev, X.evs, evl, tblS, List.getD_cons_zero, List.getD_cons_succ, List.getElem?_cons_zero, List.getElem?_cons_succ, tt_b, int_i, str_s, rs_r, Option.isSome_some, Option.getD_some, decide_eq_true_eq, decide_eq_false_iff_not, dS_eS, dC_eC, dU_eU, dW_eW, dY_eY, eC_0, eC_1, eU_0, eU_1, eW_0, eW_1, eW_2, eY_0, eY_1, eS_0, eS_1, eS_2, eS_3, eS_4, eS_5, List.length_map, i_inj, b_inj, s_inj, eC_eq, eU_eq, eW_eq, eY_eq, eS_eq, rng64, List.take_succ_cons, List.take_zero, List.nil_append, List.cons_append, decide_true, decide_false, Bool.or_true, true_and, and_true, tag3]
  refine ⟨fun ht => ?_, fun ht => ?_⟩
  · rw [if_pos ht, Bool.and_eq_true] at hq
    have hq : 0 ≤ c.n ∧ c.n < l.length := ⟨of_decide_eq_true hq.1, of_decide_eq_true hq.2⟩
    obtain ⟨a, ha⟩ := Int.eq_ofNat_of_zero_le hq.1
    have hg := get_i (l := l) (k := a) (by omega)
    rw [if_pos ht]
    rw [ha] at hq ⊢
    simp only [q00, go_br, q01, q02, allSay, X.says, X.ev, X.evs, evl, tblS, List.getD_cons_zero, List.getD_cons_succ, List.getElem?_cons_zero, List.getElem?_cons_succ, tt_b, int_i, str_s, rs_r, Option.isSome_some, Option.getD_some, decide_eq_true_eq, decide_eq_false_iff_not, dS_eS, dC_eC, dU_eU, dW_eW, dY_eY, eC_0, eC_1, eU_0, eU_1, eW_0, eW_1, eW_2, eY_0, eY_1, eS_0, eS_1, eS_2, eS_3, eS_4, eS_5, List.length_map, i_inj, b_inj, s_inj, eC_eq, eU_eq, eW_eq, eY_eq, eS_eq, rng64, List.take_succ_cons, List.take_zero, List.nil_append, List.cons_append, decide_true, decide_false, Bool.or_true, true_and, and_true, hg, Int.toNat_natCast]
    exact ⟨⟨by omega, by omega⟩, rfl⟩
  · rw [if_neg ht]
theorem gMove_at {f : Nat → Bool} {n : Nat} {c : Ce} (h : c.t = 0 ∨ c.t = 3 ∨ c.t = 5 → 0 ≤ c.n ∧ c.n ≤ n) : gMove [eC c, .r ((toL (bef f) n n).map D.i)] = some [eC (mvC f c)] := by
  simp only [gMove, List.length_map, map_id' (fun _ => int_i _), dC_eC, toL_len]
  by_cases ht : c.t = 0 ∨ c.t = 3 ∨ c.t = 5
  · obtain ⟨h0, h1⟩ := h ht
    rw [if_pos, if_pos ht, mvC, if_pos ht, toL_get (by omega), if_pos (by omega)]
    rw [if_pos ht, Bool.and_eq_true]
    exact ⟨decide_eq_true h0, decide_eq_true (by omega)⟩
  · rw [if_pos, if_neg ht, mvC, if_neg ht]
    rw [if_neg ht]

theorem eR_s0 (r : Ro) (l : List Ce) : D.a ((eR r).fs.set 0 (.r (l.map eC))) = eR { r with cs := l } := rfl
theorem eR_s1 (r : Ro) (l : List Int) : D.a ((eR r).fs.set 1 (.r (l.map D.i))) = eR { r with tp := l } := rfl
theorem eR_s2 (r : Ro) (l : List Int) : D.a ((eR r).fs.set 2 (.r (l.map D.i))) = eR { r with ms := l } := rfl

theorem ok_gc_Collect : FOk q0u gCol := fok_gc_Collect ok_gc_Collect_1 ok_gc_Valid ok_gc_mark ok_gc_marks_has fun ds outs hw hg => by
  obtain ⟨s, r, rfl, hs, hr⟩ := sr_of hw
  simp only [gCol, dS_eS, dR_eR, Option.ite_none_right_eq_some, Option.some.injEq] at hg
  obtain ⟨hsm, rfl⟩ := hg
  rw [q29, q00]
  refine ⟨by simp only [q00, go_br, q01, q02, allSay, X.says, X.ev, X.evs, evl, tblS, List.getD_cons_zero, List.getD_cons_succ, List.getElem?_cons_zero, List.getElem?_cons_succ, tt_b, int_i, str_s, rs_r, Option.isSome_some, Option.getD_some, decide_eq_true_eq, decide_eq_false_iff_not, dS_eS, dC_eC, dU_eU, dW_eW, dY_eY, eC_0, eC_1, eU_0, eU_1, eW_0, eW_1, eW_2, eY_0, eY_1, eS_0, eS_1, eS_2, eS_3, eS_4, eS_5, List.length_map, i_inj, b_inj, s_inj, eC_eq, eU_eq, eW_eq, eY_eq, eS_eq, rng64, List.take_succ_cons, List.take_zero, List.nil_append, List.cons_append, decide_true, decide_false, Bool.or_true, true_and, and_true, gSRb], ?_⟩
  rw [go_br]
  simp only [X.ev, X.evs, evl, tblS, List.getD_cons_zero, List.getElem?_cons_zero, List.getElem?_cons_succ, gSRb, dS_eS, dR_eR, tt_b, Option.getD_some, List.getD_cons_succ, okR_eq]
  refine ⟨fun hb => ?_, fun hb => ?_⟩
  · have hok : okR validR vcR s r = false := by simpa using hb
    simp only [q00, go_br, q01, q02, allSay, X.says, X.ev, X.evs, evl, tblS, List.getD_cons_zero, List.getD_cons_succ, List.getElem?_cons_zero, List.getElem?_cons_succ, tt_b, int_i, str_s, rs_r, Option.isSome_some, Option.getD_some, decide_eq_true_eq, decide_eq_false_iff_not, dS_eS, dC_eC, dU_eU, dW_eW, dY_eY, eC_0, eC_1, eU_0, eU_1, eW_0, eW_1, eW_2, eY_0, eY_1, eS_0, eS_1, eS_2, eS_3, eS_4, eS_5, List.length_map, i_inj, b_inj, s_inj, eC_eq, eU_eq, eW_eq, eY_eq, eS_eq, rng64, List.take_succ_cons, List.take_zero, List.nil_append, List.cons_append, decide_true, decide_false, Bool.or_true, true_and, and_true, hok, Bool.false_eq_true, if_false]
  have hok : okR validR vcR s r = true := by simpa using hb
  have hc : GcQ s r := ⟨hok, hsm⟩
  have hv := hc.vg
  obtain ⟨z1, z2, z3, z4, z5, z6, z7⟩ := small_parts hsm
  obtain ⟨hval, hvr, htp, hms⟩ := okR_parts hok
  have hmk := hc.mark
  have hhas : ∀ a, a < s.cs.length → gHas [.r ((wdOf s r).map eN), .i ((a : Nat) : Int)] = some [.b (Mk s r a)] := fun a h => hc.has h
  simp only [hok, if_true]
  generalize hf : Mk s r = f at *
  have hmov : ∀ c, Gce s c → gMove [eC c, .r ((toL (bef f) s.cs.length s.cs.length).map D.i)] = some [eC (mvC f c)] := fun c h => gMove_at fun ht => h.mv ht
  have hold : ∀ i, i < s.tr.length → Gce s (s.tr.getD i default).old ∧ 0 ≤ (s.tr.getD i default).at' ∧ (s.tr.getD i default).at' < s.cs.length := fun i hi => by
    have := hv.old _ (getD_mem hi)
    exact ⟨this.2.2, this.1, this.2.1⟩
  have hrep : ∀ n : Nat, ((n : Int) + 1).toNat = n + 1 := fun n => by omega
  rw [q00]
  refine ⟨by simp only [q00, go_br, q01, q02, allSay, X.says, X.ev, X.evs, evl, tblS, List.getD_cons_zero, List.getD_cons_succ, List.getElem?_cons_zero, List.getElem?_cons_succ, tt_b, int_i, str_s, rs_r, Option.isSome_some, Option.getD_some, decide_eq_true_eq, decide_eq_false_iff_not, dS_eS, dC_eC, dU_eU, dW_eW, dY_eY, eC_0, eC_1, eU_0, eU_1, eW_0, eW_1, eW_2, eY_0, eY_1, eS_0, eS_1, eS_2, eS_3, eS_4, eS_5, List.length_map, i_inj, b_inj, s_inj, eC_eq, eU_eq, eW_eq, eY_eq, eS_eq, rng64, List.take_succ_cons, List.take_zero, List.nil_append, List.cons_append, decide_true, decide_false, Bool.or_true, true_and, and_true, hmk], ?_⟩
  rw [q00]
  refine ⟨by simp only [q00, go_br, q01, q02, allSay, X.says, X.ev, X.evs, evl, tblS, List.getD_cons_zero, List.getD_cons_succ, List.getElem?_cons_zero, List.getElem?_cons_succ, tt_b, int_i, str_s, rs_r, Option.isSome_some, Option.getD_some, decide_eq_true_eq, decide_eq_false_iff_not, dS_eS, dC_eC, dU_eU, dW_eW, dY_eY, eC_0, eC_1, eU_0, eU_1, eW_0, eW_1, eW_2, eY_0, eY_1, eS_0, eS_1, eS_2, eS_3, eS_4, eS_5, List.length_map, i_inj, b_inj, s_inj, eC_eq, eU_eq, eW_eq, eY_eq, eS_eq, rng64, List.take_succ_cons, List.take_zero, List.nil_append, List.cons_append, decide_true, decide_false, Bool.or_true, true_and, and_true]; omega, ?_⟩
  -- the new addresses
  refine acc2_ok s.cs.length (fun k => .r ((toL (bef f) s.cs.length k).map D.i)) ?_ fun k B' hk hB _ => ?_
  · simp only [q00, go_br, q01, q02, allSay, X.says, X.ev, X.evs, evl, tblS, List.getD_cons_zero, List.getD_cons_succ, List.getElem?_cons_zero, List.getElem?_cons_succ, tt_b, int_i, str_s, rs_r, Option.isSome_some, Option.getD_some, decide_eq_true_eq, decide_eq_false_iff_not, dS_eS, dC_eC, dU_eU, dW_eW, dY_eY, eC_0, eC_1, eU_0, eU_1, eW_0, eW_1, eW_2, eY_0, eY_1, eS_0, eS_1, eS_2, eS_3, eS_4, eS_5, List.length_map, i_inj, b_inj, s_inj, eC_eq, eU_eq, eW_eq, eY_eq, eS_eq, rng64, List.take_succ_cons, List.take_zero, List.nil_append, List.cons_append, decide_true, decide_false, Bool.or_true, true_and, and_true, hrep]
    rw [toL_zero _ _ rfl]
  have htl := toL_len (bef f) s.cs.length k
  rw [go_br]
  refine ⟨fun hlt => ?_, fun hlt => ?_⟩
  · have hkl : k < s.cs.length := by simpa [X.ev, evl, eS_0, D.int, D.rs, D.tt] using hlt
    have hget := get_i (l := toL (bef f) s.cs.length k) (k := k) (by omega)
    rw [toL_get (by omega), if_pos (Nat.le_refl _)] at hget
    have hs2 := hB hkl
    have hadd : (k : Int) + 1 = ((k + 1 : Nat) : Int) := by omega
    have hset : ∀ (l : List Int) (v : Int), (l.map D.i).set (k + 1) (D.i v) = (l.set (k + 1) v).map D.i := fun l v => by rw [List.map_set]
    have hg2 := get_i (l := (toL (bef f) s.cs.length k).set (k + 1) (bef f k : Nat)) (k := k + 1) (by rw [List.length_set]; omega)
    have hgs : ((toL (bef f) s.cs.length k).set (k + 1) (bef f k : Nat)).getD (k + 1) default = ((bef f k : Nat) : Int) := by
      rw [List.getD_eq_getElem?_getD, List.getElem?_set_self (by omega)]
      rfl
    rw [hgs] at hg2
    have hbl := bef_le f k
    have hh := hhas k hkl
    simp only [List.take_succ_cons, List.take_zero, List.cons_append, List.nil_append]
    rw [q00]
    refine ⟨by simp only [q00, go_br, q01, q02, allSay, X.says, X.ev, X.evs, evl, tblS, List.getD_cons_zero, List.getD_cons_succ, List.getElem?_cons_zero, List.getElem?_cons_succ, tt_b, int_i, str_s, rs_r, Option.isSome_some, Option.getD_some, decide_eq_true_eq, decide_eq_false_iff_not, dS_eS, dC_eC, dU_eU, dW_eW, dY_eY, eC_0, eC_1, eU_0, eU_1, eW_0, eW_1, eW_2, eY_0, eY_1, eS_0, eS_1, eS_2, eS_3, eS_4, eS_5, List.length_map, i_inj, b_inj, s_inj, eC_eq, eU_eq, eW_eq, eY_eq, eS_eq, rng64, List.take_succ_cons, List.take_zero, List.nil_append, List.cons_append, decide_true, decide_false, Bool.or_true, true_and, and_true]; omega, ?_⟩
    rw [q00]
    refine ⟨by simp only [q00, go_br, q01, q02, allSay, X.says, X.ev, X.evs, evl, tblS, List.getD_cons_zero, List.getD_cons_succ, List.getElem?_cons_zero, List.getElem?_cons_succ, tt_b, int_i, str_s, rs_r, Option.isSome_some, Option.getD_some, decide_eq_true_eq, decide_eq_false_iff_not, dS_eS, dC_eC, dU_eU, dW_eW, dY_eY, eC_0, eC_1, eU_0, eU_1, eW_0, eW_1, eW_2, eY_0, eY_1, eS_0, eS_1, eS_2, eS_3, eS_4, eS_5, List.length_map, i_inj, b_inj, s_inj, eC_eq, eU_eq, eW_eq, eY_eq, eS_eq, rng64, List.take_succ_cons, List.take_zero, List.nil_append, List.cons_append, decide_true, decide_false, Bool.or_true, true_and, and_true, hmk, hh], ?_⟩
    rw [go_br]
    simp only [X.ev, X.evs, evl, tblS, List.getD_cons_succ, List.getD_cons_zero, List.getElem?_cons_zero, List.getElem?_cons_succ, hmk, Option.getD_some, hh, tt_b]
    refine ⟨fun hf1 => ?_, fun hf1 => ?_⟩
    · have hbs : ((bef f k : Nat) : Int) + 1 = (bef f (k + 1) : Nat) := by rw [bef, hf1, if_pos rfl]; omega
      have hb2 := bef_le f (k + 1)
      have e2 : ((toL (bef f) s.cs.length k).set (k + 1) (bef f k : Nat)).set (k + 1) (bef f (k + 1) : Nat) = toL (bef f) s.cs.length (k + 1) := by rw [List.set_set]; exact toL_set hkl rfl
      rw [hadd] at hs2
      simp only [q00, go_br, q01, q02, allSay, X.says, X.ev, X.evs, evl, tblS, List.getD_cons_zero, List.getD_cons_succ, List.getElem?_cons_zero, List.getElem?_cons_succ, tt_b, int_i, str_s, rs_r, Option.isSome_some, Option.getD_some, decide_eq_true_eq, decide_eq_false_iff_not, dS_eS, dC_eC, dU_eU, dW_eW, dY_eY, eC_0, eC_1, eU_0, eU_1, eW_0, eW_1, eW_2, eY_0, eY_1, eS_0, eS_1, eS_2, eS_3, eS_4, eS_5, List.length_map, i_inj, b_inj, s_inj, eC_eq, eU_eq, eW_eq, eY_eq, eS_eq, rng64, List.take_succ_cons, List.take_zero, List.nil_append, List.cons_append, decide_true, decide_false, Bool.or_true, true_and, and_true, hadd, Int.toNat_natCast, hget, hset, hg2, hbs, e2, List.length_set]
      and_intros <;> first | omega | exact hs2
    · have hbs : bef f (k + 1) = bef f k := by rw [bef, hf1]; rfl
      have e2 : (toL (bef f) s.cs.length k).set (k + 1) (bef f k : Nat) = toL (bef f) s.cs.length (k + 1) := toL_set hkl (by rw [hbs])
      rw [hadd] at hs2
      simp only [q00, go_br, q01, q02, allSay, X.says, X.ev, X.evs, evl, tblS, List.getD_cons_zero, List.getD_cons_succ, List.getElem?_cons_zero, List.getElem?_cons_succ, tt_b, int_i, str_s, rs_r, Option.isSome_some, Option.getD_some, decide_eq_true_eq, decide_eq_false_iff_not, dS_eS, dC_eC, dU_eU, dW_eW, dY_eY, eC_0, eC_1, eU_0, eU_1, eW_0, eW_1, eW_2, eY_0, eY_1, eS_0, eS_1, eS_2, eS_3, eS_4, eS_5, List.length_map, i_inj, b_inj, s_inj, eC_eq, eU_eq, eW_eq, eY_eq, eS_eq, rng64, List.take_succ_cons, List.take_zero, List.nil_append, List.cons_append, decide_true, decide_false, Bool.or_true, true_and, and_true, hadd, Int.toNat_natCast, hget, hset, e2]
      and_intros <;> first | omega | exact hs2
  have hkk : k = s.cs.length := by
    have : ¬ (k < s.cs.length) := by simpa [X.ev, evl, eS_0, D.int, D.rs, D.tt] using hlt
    omega
  subst hkk
  simp only [List.take_succ_cons, List.take_zero, List.cons_append, List.nil_append]
  -- the cells
  refine acc1_ok s.cs.length (fun k => .r ((heapF f s k).map eC)) rfl fun k B' hk hB _ => ?_
  have hhl := heapF_len f s k
  have hbl := bef_le f k
  rw [go_br]
  refine ⟨fun hlt => ?_, fun hlt => ?_⟩
  · have hkl : k < s.cs.length := by simpa [X.ev, evl, eS_0, D.int, D.rs, D.tt] using hlt
    have hin : inS s (k : Nat) = true := inS_iff.2 ⟨by omega, by omega⟩
    have hcell := cell_get hin
    have hh := hhas k hkl
    have hs := hB hkl
    rw [heapF_succ] at hs
    simp only [List.take_succ_cons, List.take_zero, List.cons_append, List.nil_append]
    rw [q00]
    refine ⟨by simp only [q00, go_br, q01, q02, allSay, X.says, X.ev, X.evs, evl, tblS, List.getD_cons_zero, List.getD_cons_succ, List.getElem?_cons_zero, List.getElem?_cons_succ, tt_b, int_i, str_s, rs_r, Option.isSome_some, Option.getD_some, decide_eq_true_eq, decide_eq_false_iff_not, dS_eS, dC_eC, dU_eU, dW_eW, dY_eY, eC_0, eC_1, eU_0, eU_1, eW_0, eW_1, eW_2, eY_0, eY_1, eS_0, eS_1, eS_2, eS_3, eS_4, eS_5, List.length_map, i_inj, b_inj, s_inj, eC_eq, eU_eq, eW_eq, eY_eq, eS_eq, rng64, List.take_succ_cons, List.take_zero, List.nil_append, List.cons_append, decide_true, decide_false, Bool.or_true, true_and, and_true]; omega, ?_⟩
    rw [q00]
    refine ⟨by simp only [q00, go_br, q01, q02, allSay, X.says, X.ev, X.evs, evl, tblS, List.getD_cons_zero, List.getD_cons_succ, List.getElem?_cons_zero, List.getElem?_cons_succ, tt_b, int_i, str_s, rs_r, Option.isSome_some, Option.getD_some, decide_eq_true_eq, decide_eq_false_iff_not, dS_eS, dC_eC, dU_eU, dW_eW, dY_eY, eC_0, eC_1, eU_0, eU_1, eW_0, eW_1, eW_2, eY_0, eY_1, eS_0, eS_1, eS_2, eS_3, eS_4, eS_5, List.length_map, i_inj, b_inj, s_inj, eC_eq, eU_eq, eW_eq, eY_eq, eS_eq, rng64, List.take_succ_cons, List.take_zero, List.nil_append, List.cons_append, decide_true, decide_false, Bool.or_true, true_and, and_true, hmk, hh], ?_⟩
    rw [go_br]
    simp only [X.ev, X.evs, evl, tblS, List.getD_cons_succ, List.getD_cons_zero, List.getElem?_cons_zero, List.getElem?_cons_succ, hmk, Option.getD_some, hh, tt_b]
    refine ⟨fun hb => ?_, fun hb => ?_⟩
    · rw [app_if _ _ _ _ hb] at hs
      have := hmov _ (hv.cell k hkl)
      simp only [q00, go_br, q01, q02, allSay, X.says, X.ev, X.evs, evl, tblS, List.getD_cons_zero, List.getD_cons_succ, List.getElem?_cons_zero, List.getElem?_cons_succ, tt_b, int_i, str_s, rs_r, Option.isSome_some, Option.getD_some, decide_eq_true_eq, decide_eq_false_iff_not, dS_eS, dC_eC, dU_eU, dW_eW, dY_eY, eC_0, eC_1, eU_0, eU_1, eW_0, eW_1, eW_2, eY_0, eY_1, eS_0, eS_1, eS_2, eS_3, eS_4, eS_5, List.length_map, i_inj, b_inj, s_inj, eC_eq, eU_eq, eW_eq, eY_eq, eS_eq, rng64, List.take_succ_cons, List.take_zero, List.nil_append, List.cons_append, decide_true, decide_false, Bool.or_true, true_and, and_true, hmk, hcell, this]
      and_intros <;> first | omega | exact hs
    · rw [app_if0 _ _ _ _ hb] at hs
      simp only [q00, go_br, q01, q02, allSay, X.says, X.ev, X.evs, evl, tblS, List.getD_cons_zero, List.getD_cons_succ, List.getElem?_cons_zero, List.getElem?_cons_succ, tt_b, int_i, str_s, rs_r, Option.isSome_some, Option.getD_some, decide_eq_true_eq, decide_eq_false_iff_not, dS_eS, dC_eC, dU_eU, dW_eW, dY_eY, eC_0, eC_1, eU_0, eU_1, eW_0, eW_1, eW_2, eY_0, eY_1, eS_0, eS_1, eS_2, eS_3, eS_4, eS_5, List.length_map, i_inj, b_inj, s_inj, eC_eq, eU_eq, eW_eq, eY_eq, eS_eq, rng64, List.take_succ_cons, List.take_zero, List.nil_append, List.cons_append, decide_true, decide_false, Bool.or_true, true_and, and_true]
      and_intros <;> first | omega | exact hs
  have hkk : k = s.cs.length := by
    have : ¬ (k < s.cs.length) := by simpa [X.ev, evl, eS_0, D.int, D.rs, D.tt] using hlt
    omega
  subst hkk
  simp only [List.take_succ_cons, List.take_zero, List.cons_append, List.nil_append]
  rw [q00]
  refine ⟨by simp only [q00, go_br, q01, q02, allSay, X.says, X.ev, X.evs, evl, tblS, List.getD_cons_zero, List.getD_cons_succ, List.getElem?_cons_zero, List.getElem?_cons_succ, tt_b, int_i, str_s, rs_r, Option.isSome_some, Option.getD_some, decide_eq_true_eq, decide_eq_false_iff_not, dS_eS, dC_eC, dU_eU, dW_eW, dY_eY, eC_0, eC_1, eU_0, eU_1, eW_0, eW_1, eW_2, eY_0, eY_1, eS_0, eS_1, eS_2, eS_3, eS_4, eS_5, List.length_map, i_inj, b_inj, s_inj, eC_eq, eU_eq, eW_eq, eY_eq, eS_eq, rng64, List.take_succ_cons, List.take_zero, List.nil_append, List.cons_append, decide_true, decide_false, Bool.or_true, true_and, and_true]; omega, ?_⟩
  -- the trail
  refine acc3_ok s.tr.length (fun k => .r ((trailF f s k).map eU)) (fun k => .r ((toL (keptF f s) s.tr.length k).map D.i)) rfl ?_ fun k B' hk hB _ => ?_
  · simp only [q00, go_br, q01, q02, allSay, X.says, X.ev, X.evs, evl, tblS, List.getD_cons_zero, List.getD_cons_succ, List.getElem?_cons_zero, List.getElem?_cons_succ, tt_b, int_i, str_s, rs_r, Option.isSome_some, Option.getD_some, decide_eq_true_eq, decide_eq_false_iff_not, dS_eS, dC_eC, dU_eU, dW_eW, dY_eY, eC_0, eC_1, eU_0, eU_1, eW_0, eW_1, eW_2, eY_0, eY_1, eS_0, eS_1, eS_2, eS_3, eS_4, eS_5, List.length_map, i_inj, b_inj, s_inj, eC_eq, eU_eq, eW_eq, eY_eq, eS_eq, rng64, List.take_succ_cons, List.take_zero, List.nil_append, List.cons_append, decide_true, decide_false, Bool.or_true, true_and, and_true, hrep]
    rw [toL_zero _ _ rfl]
  have htl := toL_len (keptF f s) s.tr.length k
  have htrl := trailF_len f s k
  have hkl2 := keptF_le f s k
  have htl0 := toL_len (bef f) s.cs.length s.cs.length
  rw [go_br]
  refine ⟨fun hlt => ?_, fun hlt => ?_⟩
  · have hkl : k < s.tr.length := by simpa [X.ev, evl, eS_2, D.int, D.rs, D.tt] using hlt
    obtain ⟨ho, ha0, ha1⟩ := hold k hkl
    obtain ⟨b, hb⟩ := Int.eq_ofNat_of_zero_le ha0
    have hh := hhas b (by omega)
    have hs := hB hkl
    have hadd : (k : Int) + 1 = ((k + 1 : Nat) : Int) := by omega
    have hset : ∀ (l : List Int) (v : Int), (l.map D.i).set (k + 1) (D.i v) = (l.set (k + 1) v).map D.i := fun l v => by rw [List.map_set]
    have hks := keptF_succ (f := f) hkl
    rw [onTr, hb, Int.toNat_natCast] at hks
    rw [trailF_succ hkl, onTr, hb, Int.toNat_natCast] at hs
    have hgb := get_i (l := toL (bef f) s.cs.length s.cs.length) (k := b) (by omega)
    rw [toL_get (by omega), if_pos (by omega)] at hgb
    simp only [List.take_succ_cons, List.take_zero, List.cons_append, List.nil_append]
    rw [q00]
    refine ⟨by simp only [q00, go_br, q01, q02, allSay, X.says, X.ev, X.evs, evl, tblS, List.getD_cons_zero, List.getD_cons_succ, List.getElem?_cons_zero, List.getElem?_cons_succ, tt_b, int_i, str_s, rs_r, Option.isSome_some, Option.getD_some, decide_eq_true_eq, decide_eq_false_iff_not, dS_eS, dC_eC, dU_eU, dW_eW, dY_eY, eC_0, eC_1, eU_0, eU_1, eW_0, eW_1, eW_2, eY_0, eY_1, eS_0, eS_1, eS_2, eS_3, eS_4, eS_5, List.length_map, i_inj, b_inj, s_inj, eC_eq, eU_eq, eW_eq, eY_eq, eS_eq, rng64, List.take_succ_cons, List.take_zero, List.nil_append, List.cons_append, decide_true, decide_false, Bool.or_true, true_and, and_true, get_n eU hkl]; omega, ?_⟩
    rw [q00]
    refine ⟨by simp only [q00, go_br, q01, q02, allSay, X.says, X.ev, X.evs, evl, tblS, List.getD_cons_zero, List.getD_cons_succ, List.getElem?_cons_zero, List.getElem?_cons_succ, tt_b, int_i, str_s, rs_r, Option.isSome_some, Option.getD_some, decide_eq_true_eq, decide_eq_false_iff_not, dS_eS, dC_eC, dU_eU, dW_eW, dY_eY, eC_0, eC_1, eU_0, eU_1, eW_0, eW_1, eW_2, eY_0, eY_1, eS_0, eS_1, eS_2, eS_3, eS_4, eS_5, List.length_map, i_inj, b_inj, s_inj, eC_eq, eU_eq, eW_eq, eY_eq, eS_eq, rng64, List.take_succ_cons, List.take_zero, List.nil_append, List.cons_append, decide_true, decide_false, Bool.or_true, true_and, and_true, get_n eU hkl, hmk, hb, hh], ?_⟩
    rw [go_br]
    simp only [X.ev, X.evs, evl, tblS, List.getD_cons_succ, List.getD_cons_zero, List.getElem?_cons_zero, List.getElem?_cons_succ, hmk, Option.getD_some, eS_2, int_i, get_n eU hkl, eU_0, hb, hh, tt_b]
    refine ⟨fun hf1 => ?_, fun hf1 => ?_⟩
    · rw [app_if _ _ _ _ hf1, mvU, hb, Int.toNat_natCast, hadd] at hs
      rw [hf1, if_pos rfl] at hks
      have h1 := hmov _ ho
      have e1 : (((List.map eU (trailF f s k) ++ [eU ⟨(bef f b : Nat), mvC f (s.tr.getD k default).old⟩]).length : Nat) : Int) = (keptF f s (k + 1) : Nat) := by
        rw [List.length_append, List.length_map, htrl, hks]
        rfl
      have e2 := toL_set (f := keptF f s) hkl (v := ((keptF f s (k + 1) : Nat) : Int)) rfl
      simp only [q00, go_br, q01, q02, allSay, X.says, X.ev, X.evs, evl, tblS, List.getD_cons_zero, List.getD_cons_succ, List.getElem?_cons_zero, List.getElem?_cons_succ, tt_b, int_i, str_s, rs_r, Option.isSome_some, Option.getD_some, decide_eq_true_eq, decide_eq_false_iff_not, dS_eS, dC_eC, dU_eU, dW_eW, dY_eY, eC_0, eC_1, eU_0, eU_1, eW_0, eW_1, eW_2, eY_0, eY_1, eS_0, eS_1, eS_2, eS_3, eS_4, eS_5, List.length_map, i_inj, b_inj, s_inj, eC_eq, eU_eq, eW_eq, eY_eq, eS_eq, rng64, List.take_succ_cons, List.take_zero, List.nil_append, List.cons_append, decide_true, decide_false, Bool.or_true, true_and, and_true, hmk, get_n eU hkl, hb, h1, hgb, hadd, Int.toNat_natCast, eU_mk]
      simp only [e1, hset, e2]
      and_intros <;> first | omega | exact hs
    · rw [app_if0 _ _ _ _ hf1, hadd] at hs
      rw [hf1] at hks
      have hks : keptF f s (k + 1) = keptF f s k := hks
      have e2 := toL_set (f := keptF f s) hkl (v := ((keptF f s k : Nat) : Int)) (by rw [hks])
      simp only [q00, go_br, q01, q02, allSay, X.says, X.ev, X.evs, evl, tblS, List.getD_cons_zero, List.getD_cons_succ, List.getElem?_cons_zero, List.getElem?_cons_succ, tt_b, int_i, str_s, rs_r, Option.isSome_some, Option.getD_some, decide_eq_true_eq, decide_eq_false_iff_not, dS_eS, dC_eC, dU_eU, dW_eW, dY_eY, eC_0, eC_1, eU_0, eU_1, eW_0, eW_1, eW_2, eY_0, eY_1, eS_0, eS_1, eS_2, eS_3, eS_4, eS_5, List.length_map, i_inj, b_inj, s_inj, eC_eq, eU_eq, eW_eq, eY_eq, eS_eq, rng64, List.take_succ_cons, List.take_zero, List.nil_append, List.cons_append, decide_true, decide_false, Bool.or_true, true_and, and_true, htrl, hadd, Int.toNat_natCast, hset, e2]
      and_intros <;> first | omega | exact hs
  have hkk : k = s.tr.length := by
    have : ¬ (k < s.tr.length) := by simpa [X.ev, evl, eS_2, D.int, D.rs, D.tt] using hlt
    omega
  subst hkk
  simp only [List.take_succ_cons, List.take_zero, List.cons_append, List.nil_append]
  -- the wakes
  refine acc1_ok s.wk.length (fun k => .r (((s.wk.take k).map (mvW f)).map eW)) rfl fun k B' hk hB _ => ?_
  rw [go_br]
  refine ⟨fun hlt => ?_, fun hlt => ?_⟩
  · have hkl : k < s.wk.length := by simpa [X.ev, evl, eS_3, D.int, D.rs, D.tt] using hlt
    have hm1 : (s.wk.getD k default).att ∈ rootsC s r := List.mem_append_right _ (List.mem_flatMap.2 ⟨_, getD_mem hkl, by simp⟩)
    have hm2 : (s.wk.getD k default).val ∈ rootsC s r := List.mem_append_right _ (List.mem_flatMap.2 ⟨_, getD_mem hkl, by simp⟩)
    have h1 := hmov _ (hv.root _ hm1)
    have h2 := hmov _ (hv.root _ hm2)
    have hs := hB hkl
    rw [take_map_succ _ hkl, List.map_append] at hs
    have htl := List.length_take_le k s.wk
    simp only [q00, go_br, q01, q02, allSay, X.says, X.ev, X.evs, evl, tblS, List.getD_cons_zero, List.getD_cons_succ, List.getElem?_cons_zero, List.getElem?_cons_succ, tt_b, int_i, str_s, rs_r, Option.isSome_some, Option.getD_some, decide_eq_true_eq, decide_eq_false_iff_not, dS_eS, dC_eC, dU_eU, dW_eW, dY_eY, eC_0, eC_1, eU_0, eU_1, eW_0, eW_1, eW_2, eY_0, eY_1, eS_0, eS_1, eS_2, eS_3, eS_4, eS_5, List.length_map, i_inj, b_inj, s_inj, eC_eq, eU_eq, eW_eq, eY_eq, eS_eq, rng64, List.take_succ_cons, List.take_zero, List.nil_append, List.cons_append, decide_true, decide_false, Bool.or_true, true_and, and_true, get_n eW hkl, h1, h2]
    and_intros <;> first | omega | exact hs
  have hkk : k = s.wk.length := by
    have : ¬ (k < s.wk.length) := by simpa [X.ev, evl, eS_3, D.int, D.rs, D.tt] using hlt
    omega
  subst hkk
  simp only [List.take_succ_cons, List.take_zero, List.cons_append, List.nil_append, List.take_length]
  -- the roots' cells
  refine acc2_ok r.cs.length (fun k => eR ⟨(r.cs.take k).map (mvC f), [], []⟩) rfl fun k B' hk hB _ => ?_
  rw [go_br]
  refine ⟨fun hlt => ?_, fun hlt => ?_⟩
  · have hkl : k < r.cs.length := by simpa [X.ev, evl, eR_0, D.int, D.rs, D.tt] using hlt
    have h1 := hmov _ (hv.root _ (List.mem_append_left _ (getD_mem hkl)))
    have hs := hB hkl
    rw [take_map_succ _ hkl] at hs
    have htl := List.length_take_le k r.cs
    have hap : ∀ (l : List Ce) (c : Ce), l.map eC ++ [eC c] = (l ++ [c]).map eC := fun l c => by simp
    simp only [q00, go_br, q01, q02, allSay, X.says, X.ev, X.evs, evl, tblS, List.getD_cons_zero, List.getD_cons_succ, List.getElem?_cons_zero, List.getElem?_cons_succ, tt_b, int_i, str_s, rs_r, Option.isSome_some, Option.getD_some, decide_eq_true_eq, decide_eq_false_iff_not, dS_eS, dC_eC, dU_eU, dW_eW, dY_eY, eC_0, eC_1, eU_0, eU_1, eW_0, eW_1, eW_2, eY_0, eY_1, eS_0, eS_1, eS_2, eS_3, eS_4, eS_5, List.length_map, i_inj, b_inj, s_inj, eC_eq, eU_eq, eW_eq, eY_eq, eS_eq, rng64, List.take_succ_cons, List.take_zero, List.nil_append, List.cons_append, decide_true, decide_false, Bool.or_true, true_and, and_true, eR_0, get_n eC hkl, h1, hap, eR_s0]
    and_intros <;> first | omega | exact hs
  have hkk : k = r.cs.length := by
    have : ¬ (k < r.cs.length) := by simpa [X.ev, evl, eR_0, D.int, D.rs, D.tt] using hlt
    omega
  subst hkk
  simp only [List.take_succ_cons, List.take_zero, List.cons_append, List.nil_append, List.take_length]
  -- the tops
  refine acc2_ok r.tp.length (fun k => eR ⟨r.cs.map (mvC f), (r.tp.take k).map fun t => ((bef f t.toNat : Nat) : Int), []⟩) rfl fun k B' hk hB _ => ?_
  rw [go_br]
  refine ⟨fun hlt => ?_, fun hlt => ?_⟩
  · have hkl : k < r.tp.length := by simpa [X.ev, evl, eR_1, D.int, D.rs, D.tt] using hlt
    have hmk2 := htp _ (getD_mem hkl)
    obtain ⟨a, ha⟩ := Int.eq_ofNat_of_zero_le hmk2.1
    have hgb := get_i (l := toL (bef f) s.cs.length s.cs.length) (k := a) (by omega)
    rw [toL_get (by omega), if_pos (by omega)] at hgb
    have hs := hB hkl
    rw [take_map_succ _ hkl, ha, Int.toNat_natCast] at hs
    have htl := List.length_take_le k r.tp
    have hap : ∀ (l : List Int) (c : Int), l.map D.i ++ [D.i c] = (l ++ [c]).map D.i := fun l c => by simp
    simp only [q00, go_br, q01, q02, allSay, X.says, X.ev, X.evs, evl, tblS, List.getD_cons_zero, List.getD_cons_succ, List.getElem?_cons_zero, List.getElem?_cons_succ, tt_b, int_i, str_s, rs_r, Option.isSome_some, Option.getD_some, decide_eq_true_eq, decide_eq_false_iff_not, dS_eS, dC_eC, dU_eU, dW_eW, dY_eY, eC_0, eC_1, eU_0, eU_1, eW_0, eW_1, eW_2, eY_0, eY_1, eS_0, eS_1, eS_2, eS_3, eS_4, eS_5, List.length_map, i_inj, b_inj, s_inj, eC_eq, eU_eq, eW_eq, eY_eq, eS_eq, rng64, List.take_succ_cons, List.take_zero, List.nil_append, List.cons_append, decide_true, decide_false, Bool.or_true, true_and, and_true, eR_1, get_i hkl, ha, hgb, hap, eR_s1]
    and_intros <;> first | omega | exact hs
  have hkk : k = r.tp.length := by
    have : ¬ (k < r.tp.length) := by simpa [X.ev, evl, eR_1, D.int, D.rs, D.tt] using hlt
    omega
  subst hkk
  simp only [List.take_succ_cons, List.take_zero, List.cons_append, List.nil_append, List.take_length]
  -- the marks
  refine acc2_ok r.ms.length (fun k => eR ⟨r.cs.map (mvC f), r.tp.map fun t => ((bef f t.toNat : Nat) : Int), (r.ms.take k).map fun t => ((keptF f s t.toNat : Nat) : Int)⟩) rfl fun k B' hk hB _ => ?_
  rw [go_br]
  refine ⟨fun hlt => ?_, fun hlt => ?_⟩
  · have hkl : k < r.ms.length := by simpa [X.ev, evl, eR_2, D.int, D.rs, D.tt] using hlt
    have hmk2 := hms _ (getD_mem hkl)
    obtain ⟨a, ha⟩ := Int.eq_ofNat_of_zero_le hmk2.1
    have htl1 := toL_len (keptF f s) s.tr.length s.tr.length
    have hgb := get_i (l := toL (keptF f s) s.tr.length s.tr.length) (k := a) (by omega)
    rw [toL_get (by omega), if_pos (by omega)] at hgb
    have hs := hB hkl
    rw [take_map_succ _ hkl, ha, Int.toNat_natCast] at hs
    have htl := List.length_take_le k r.ms
    have hap : ∀ (l : List Int) (c : Int), l.map D.i ++ [D.i c] = (l ++ [c]).map D.i := fun l c => by simp
    simp only [q00, go_br, q01, q02, allSay, X.says, X.ev, X.evs, evl, tblS, List.getD_cons_zero, List.getD_cons_succ, List.getElem?_cons_zero, List.getElem?_cons_succ, tt_b, int_i, str_s, rs_r, Option.isSome_some, Option.getD_some, decide_eq_true_eq, decide_eq_false_iff_not, dS_eS, dC_eC, dU_eU, dW_eW, dY_eY, eC_0, eC_1, eU_0, eU_1, eW_0, eW_1, eW_2, eY_0, eY_1, eS_0, eS_1, eS_2, eS_3, eS_4, eS_5, List.length_map, i_inj, b_inj, s_inj, eC_eq, eU_eq, eW_eq, eY_eq, eS_eq, rng64, List.take_succ_cons, List.take_zero, List.nil_append, List.cons_append, decide_true, decide_false, Bool.or_true, true_and, and_true, eR_2, get_i hkl, ha, hgb, hap, eR_s2]
    and_intros <;> first | omega | exact hs
  have hkk : k = r.ms.length := by
    have : ¬ (k < r.ms.length) := by simpa [X.ev, evl, eR_2, D.int, D.rs, D.tt] using hlt
    omega
  subst hkk
  simp only [List.take_succ_cons, List.take_zero, List.cons_append, List.nil_append, List.take_length]
  rfl
end Go.Proofs.Ytmebmpgffhajbaa


namespace Go.Proofs.Ytmebmpgffhajbaa
open Go.RowKit
set_option linter.unusedVariables false
set_option maxRecDepth 100000

def gYesA : List D → Option (List D) := fun _ => some [.b true]
theorem ok_law34_awake : FOk q1g gYesA := fok_law34_awake ok_law34_cell_c ok_law34_six_c ok_law34_gives_c fun ds outs hw hg => by
  obtain rfl : ds = [] := hw
  simp only [gYesA, Option.some.injEq] at hg
  subst hg
  exact q16 (fuel := 60) (by kernel_rfl)
end Go.Proofs.Ytmebmpgffhajbaa


namespace Go.Proofs.Ytmebmpgffhajbaa
open Go.RowKit
set_option linter.unusedVariables false
set_option linter.unusedSimpArgs false

theorem clone_at {s : So} (hs : s.ok) : gClone [eS s] = some [eS s] := by
  simp only [gClone, dS_eS, clQ_of hs, if_true]
theorem rclone_at (r : Ro) : gRClone [eR r] = some [eR r] := by
  simp only [gRClone, dR_eR]
theorem col_at {s : So} {r : Ro} (h : GcQ s r) : gCol [eS s, eR r] = some [.i 0, eS (colS (Mk s r) s), eR (colR (Mk s r) s r)] := by
  simp only [gCol, dS_eS, dR_eR, h.ok, h.sm, if_true]
theorem valid_at (v : So → Bool) (vc : So → Ce → Bool) (s : So) (r : Ro) : gSRb (okR v vc) [eS s, eR r] = some [.b (okR v vc s r)] := by
  simp only [gSRb, dS_eS, dR_eR]
theorem small_at (s : So) (r : Ro) : gSRb smallB [eS s, eR r] = some [.b (smallB s r)] := by
  simp only [gSRb, dS_eS, dR_eR]

end Go.Proofs.Ytmebmpgffhajbaa


namespace Go.Proofs.Ytmebmpgffhajbaa
open Go.RowKit
set_option linter.unusedVariables false
set_option linter.unusedSimpArgs false

def idxF (f : Nat → Bool) (n : Nat) : List Nat := (List.range n).filter f
end Go.Proofs.Ytmebmpgffhajbaa

