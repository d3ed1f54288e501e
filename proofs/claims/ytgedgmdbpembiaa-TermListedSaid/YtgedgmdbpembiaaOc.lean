/-
  The reference's Occurrences: the walk. No condition.
-/
import Derived.Test.YtgedgmdbpembiaaRr
import Derived.Test.YtgedgmdbpembiaaPt
namespace Go.Proofs.Ytgedgmdbpembiaa
open Go.RowKit
set_option linter.unusedVariables false

theorem sub_vt {E E' : Env} {k : Nat} {n : Int} (h : E'.I k = n) : @Ab.pd E (.val (.int .i64 n)) = @Ab.pd E' (.vtok k) := by subst h; rfl
theorem sub_vv {E E' : Env} {k m : Nat} (h : E.I m = E'.I k) : @Ab.pd E (.vtok m) = @Ab.pd E' (.vtok k) := by
  show (fun (p : Nat → Option Nat) (w : World) (v : Value) => v = .int .i64 (E.I m)) = fun p w v => v = .int .i64 (E'.I k)
  rw [h]

/-- How often the number occurs. -/
def occN (v : Int) (l : List Int) : Int := (l.filter (· == v)).length

theorem occN_append (v : Int) (l m : List Int) : occN v (l ++ m) = occN v l + occN v m := by simp [occN]
theorem occN_nil (v : Int) : occN v [] = 0 := rfl
theorem occN_le (v : Int) (l : List Int) : 0 ≤ occN v l ∧ occN v l ≤ l.length := by
  unfold occN
  have := List.length_filter_le (· == v) l
  omega

abbrev EnvO (k n : Int) (s : ByteArray) (l : List Tm) (v : Int) (acc : Nat → Int) (j : Nat) : Env :=
  { T := fun i => match i with | 0 => .mk k n s l | _ => l.getD j zeroT
    I := fun i => match i with | 0 => v | 1 => k | 2 => n | 3 => (l.length : Int) | 4 => (j : Int) | 5 => ((j + 1 : Nat) : Int) | 6 => acc j | 7 => occN v (occT (l.getD j zeroT)) | 8 => acc (j + 1) | _ => acc l.length
    S := fun _ => s
    R := fun _ => l }

abbrev ocInv : List (Tmp × Ab) := [(1, .vtok 0), (2, .vcell 2 (.tok 0)), (5, .vtok 6), (6, .vtok 4)]
abbrev ocNext : List (Tmp × Ab) := [(1, .vtok 0), (2, .vcell 2 (.tok 0)), (5, .vtok 8), (6, .vtok 5)]

theorem occL_take {l : List Tm} {j : Nat} (hj : j < l.length) : occL (l.take (j + 1)) = occL (l.take j) ++ occT (l.getD j zeroT) := by
  induction l generalizing j with
  | nil => simp at hj
  | cons t l ih =>
    cases j with
    | zero => simp [occL]
    | succ j =>
      simp only [List.take_succ_cons, occL, List.length_cons] at hj ⊢
      rw [ih (by omega)]
      simp

theorem nodesL_take (l : List Tm) (j : Nat) : nodesL (l.take j) ≤ nodesL l := by
  induction l generalizing j with
  | nil => simp
  | cons t l ih =>
    cases j with
    | zero => simp [nodesL]
    | succ j =>
      have := ih j
      simp only [List.take_succ_cons, nodesL]
      omega

theorem occL_len : ∀ l : List Tm, (occL l).length ≤ nodesL l
  | [] => by simp [occL]
  | t :: l => by
    have h1 := occ_len t
    have h2 := occL_len l
    simp only [occL, nodesL, List.length_append]
    omega

def SaysO (v : Int) (t : Tm) : Prop := ∀ w y, TmAt w w.heap.size t y → Calls Try.prog 72 #[y, .int .i64 v] w fun e w' => e = .returned (.int .i64 (occN v (occT t))) ∧ But Nil w w'

theorem ent_occ [Env] {v : Int} {n i k : Nat} (h : SaysO v (Env.T n)) (hi : Env.I i = v) (hk : Env.I k = occN v (occT (Env.T n))) : Entry 72 [.tok n, .vtok i] (.vtok k) :=
  ⟨fun _ _ => by kernel_rfl, fun p w vs hv => by
    match vs, hv with
    | [y, z], ⟨h1, h2, _⟩ =>
      obtain rfl : z = .int .i64 (Env.I i) := h2
      rw [hi]
      exact (h w y (TmIn.at_w h1)).mono fun e w' ⟨he, hb⟩ => ⟨_, pin0 p w, he, Ext.plain hb, by show Value.int .i64 _ = .int .i64 (Env.I k); rw [hk]⟩⟩

theorem occs_any (v : Int) (t : Tm) : fitsT t = true → nodesT t ≤ 2000 → SaysO v t := by
  induction t using Tm.ind with
  | h k n s l ih =>
  intro hfit hnod w y hy
  obtain ⟨hnode, hfl⟩ := fits_mk.1 hfit
  have hll : nodesL l ≤ 2000 := by simp only [nodesT] at hnod; omega
  obtain ⟨a0, ha0⟩ : ∃ a0 : Int, a0 = if k = 0 ∧ n = v then 1 else 0 := ⟨_, rfl⟩
  obtain ⟨acc, hacc⟩ : ∃ acc : Nat → Int, acc = fun j => a0 + occN v (occL (l.take j)) := ⟨_, rfl⟩
  have hl8 : l.length ≤ 8 := node_args hnode
  have hb0 : 0 ≤ a0 ∧ a0 ≤ 1 := by rw [ha0]; split <;> omega
  have hbd : ∀ j, 0 ≤ acc j ∧ acc j ≤ 2001 := fun j => by
    have h1 := occN_le v (occL (l.take j))
    have h2 := occL_len (l.take j)
    have h3 := nodesL_take l j
    rw [hacc]
    show 0 ≤ a0 + _ ∧ a0 + _ ≤ 2001
    omega
  have hz : acc 0 = a0 := by rw [hacc]; simp [occL, occN]
  have hs : ∀ j, j < l.length → acc j + occN v (occT (l.getD j zeroT)) = acc (j + 1) := fun j hj => by rw [hacc]; show a0 + _ + _ = a0 + _; rw [occL_take hj, occN_append]; omega
  have htot : acc l.length = occN v (occT (.mk k n s l)) := by
    rw [hacc]
    show a0 + _ = _
    rw [List.take_length]
    simp only [occT]
    by_cases hk : k = 0
    · have : l = [] := var_leaf hk hnode
      subst this
      rw [if_pos hk, ha0]
      by_cases hn : n = v
      · simp [hk, hn, occL, occN]
      · simp [hk, hn, occL, occN]
    · rw [if_neg hk, ha0, if_neg (fun h => hk h.1)]; omega
  letI E : Env := EnvO k n s l v acc 0
  have okS : ∀ j (hj : j < l.length), AllHold (EnvO k n s l v acc j).T (EnvO k n s l v acc j).I (EnvO k n s l v acc j).L (EnvO k n s l v acc j).R (EnvO k n s l v acc j).S
      [.tm 0 1 2 0 0, .rlen 0 3, .rel .lt (.tok 4) (.tok 3) true, .rget 0 (.tok 4) 1, .ari .add (.tok 6) (.tok 7) 8, .ari .add (.tok 4) (.lit 1) 5] := fun j hj => by
    refine ⟨⟨rfl, rfl, rfl, rfl⟩, rfl, ?_, ⟨?_, ?_⟩, ⟨hs j hj, ?_⟩, ⟨?_, ?_⟩, trivial⟩
    · show decide ((j : Int) < (l.length : Int)) = true; simpa using hj
    · show (0 : Int) ≤ (j : Int); omega
    · show l[(j : Int).toNat]? = some (l.getD j zeroT); simp [hj]
    · show wf64 (acc (j + 1)); have := hbd (j + 1); unfold wf64; omega
    · show (j : Int) + 1 = ((j + 1 : Nat) : Int); omega
    · show wf64 ((j + 1 : Nat) : Int); unfold wf64; omega
  have run : @Entry E 72 [.tok 0, .vtok 0] (.vtok 9) := by
    obtain ⟨b, hb⟩ : ∃ b, (k == 0) = b := ⟨_, rfl⟩
    obtain ⟨c, hc⟩ : ∃ c, (n == v) = c := ⟨_, rfl⟩
    have hval : a0 = if b && c then 1 else 0 := by
      rw [ha0, ← hb, ← hc]
      simp
    refine entry_runs (E := E) [.tok 0, .vtok 0] (r := .ret) (σ' := [(4, .vtok 9)]) Try.func72 rfl (fun _ _ => by kernel_rfl) ?_ (.inl rfl) rfl rfl rfl (by simp [Try.ntmps72])
    refine LRun.parts (E := E) [.tm 0 1 2 0 0, .rel .eq (.tok 1) (.lit 0) b, .rel .eq (.tok 2) (.tok 0) c] ⟨⟨rfl, rfl, rfl, rfl⟩, hb, hc, trivial⟩ noCalls_ok [(1, .vtok 0), (2, .vcell 2 (.tok 0)), (5, .val (.int .i64 (if b && c then 1 else 0)))] [_, _, _] (by cases b <;> cases c <;> kernel_rfl) ?_
    have hst : SubL E [(1, .vtok 0), (2, .vcell 2 (.tok 0)), (5, .val (.int .i64 (if b && c then 1 else 0))), (6, .val (.int .i64 0))] E ocInv :=
      ⟨⟨_, rfl, idd⟩, ⟨_, rfl, idd⟩, ⟨_, rfl, ide (sub_vt (hz.trans hval))⟩, ⟨_, rfl, idd⟩, trivial⟩
    refine LRun.seq (E1 := E) (σ1 := [(5, .vtok 9)]) ?_ (LRun.code noCalls_ok _ (by kernel_rfl))
    refine LRun.seq (LRun.post (LRun.code noCalls_ok [(1, .vtok 0), (2, .vcell 2 (.tok 0)), (5, .val (.int .i64 (if b && c then 1 else 0))), (6, .val (.int .i64 0))] (by cases b <;> cases c <;> kernel_rfl)) hst) (LRun.block (LRun.loop (fun j => EnvO k n s l v acc j) (fun _ => ocInv) l.length (fun j hj => ?_) ?_ (by simp)))
    · have hmem : l.getD j zeroT = l[j] := by simp [List.getD_eq_getElem?_getD, hj]
      have hch : SaysO v (l.getD j zeroT) := by
        rw [hmem]
        exact ih _ (List.getElem_mem hj) (fitsL_get hfl j hj) (Nat.le_trans (nodes_get hj) hll)
      refine LRun.post (LRun.step (E := EnvO k n s l v acc j) _ (okS j hj) (C := tbl [(72, [.tok 1, .vtok 0], .vtok 7)]) (by letI : Env := EnvO k n s l v acc j; exact tbl_ok ⟨ent_occ hch rfl rfl, trivial⟩) ocNext (by kernel_rfl)) ?_
      exact ⟨⟨_, rfl, idd⟩, ⟨_, rfl, idd⟩, ⟨_, rfl, idd⟩, ⟨_, rfl, idd⟩, trivial⟩
    · refine LRun.post (E1 := EnvO k n s l v acc l.length) (LRun.step (E := EnvO k n s l v acc l.length) [.tm 0 1 2 0 0, .rlen 0 3, .rel .lt (.tok 4) (.tok 3) false] ⟨⟨rfl, rfl, rfl, rfl⟩, rfl, ?_, trivial⟩ noCalls_ok [(5, .vtok 6)] (by kernel_rfl)) ⟨⟨_, rfl, idd⟩, trivial⟩
      show decide ((l.length : Int) < (l.length : Int)) = false
      simp
  refine (run.call (fun _ => none) w [y, .int .i64 v] ⟨hy.fr, rfl, trivial⟩).mono fun e w' ⟨u, p', he, hx, hu⟩ => ⟨?_, hx.but⟩
  rw [he]
  have hu' : u = .int .i64 (acc l.length) := hu
  rw [hu', htot]

end Go.Proofs.Ytgedgmdbpembiaa
