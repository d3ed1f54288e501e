/-
  The reference's Rename: the walk. No condition.
-/
import Derived.Test.YtgedgmdbpembiaaPw
import Derived.Test.YtgedgmdbpembiaaLp
namespace Go.Proofs.Ytgedgmdbpembiaa
open Go.RowKit
set_option linter.unusedVariables false

abbrev EnvR (t : Tm) (n : Int) (l : List Int) (j : Nat) : Env :=
  { T := fun k => match k with | 0 => t | _ => (renameT t n).1
    I := fun k => match k with | 0 => n | 1 => (j : Int) | 2 => (l.length : Int) | 3 => ((j + 1 : Nat) : Int) | 4 => l.getD j 0 | 5 => l.getD j 0 + n | _ => (renameT t n).2
    L := fun _ => l }

abbrev rrInv : List (Tmp × Ab) := [(1, .vtok 0), (2, .vcell 2 (.tok 0)), (4, .vcell 4 (.term zeroT)), (5, .val (.int .i64 0)), (6, .itok 0), (7, .vtok 1)]
abbrev rrNext : List (Tmp × Ab) := [(1, .vtok 0), (2, .vcell 2 (.tok 0)), (4, .vcell 4 (.term zeroT)), (5, .val (.int .i64 0)), (6, .itok 0), (7, .vtok 3)]

theorem rr_next (t : Tm) (n : Int) (l : List Int) (j : Nat) : SubL (EnvR t n l j) rrNext (EnvR t n l (j + 1)) rrInv :=
  ⟨⟨_, rfl, idd⟩, ⟨_, rfl, idd⟩, ⟨_, rfl, idd⟩, ⟨_, rfl, idd⟩, ⟨_, rfl, idd⟩, ⟨_, rfl, idd⟩, trivial⟩

theorem rr_zero (t : Tm) (n : Int) (l : List Int) : SubL (EnvR t n l 0) [(1, .vtok 0), (2, .vcell 2 (.tok 0)), (4, .vcell 4 (.term zeroT)), (5, .val (.int .i64 0)), (6, .itok 0), (7, .val (.int .i64 0))] (EnvR t n l 0) rrInv :=
  ⟨⟨_, rfl, idd⟩, ⟨_, rfl, idd⟩, ⟨_, rfl, idd⟩, ⟨_, rfl, idd⟩, ⟨_, rfl, idd⟩, ⟨_, rfl, idd⟩, trivial⟩

theorem rrename_entry (t : Tm) (n : Int) : @Entry (EnvR t n (varsT t) 0) 32 [.tok 0, .vtok 0] (.pair (.tok 1) (.vtok 6)) := by
  letI E : Env := EnvR t n (varsT t) 0
  have early : ∀ b c d, validT t = b → decide (n < 0) = c → decide (1099511627776 < n) = d → (b && !c && !d) = false → @Entry (EnvR t n (varsT t) 0) 32 [.tok 0, .vtok 0] (.pair (.term zeroT) (.val (.int .i64 1))) := by
    intro b c d hb hc hd hcase
    have ents : @Entries E [(14, [.tok 0], .val (.bool b))] := ⟨ent_tv (fun _ _ => by kernel_rfl) fun w y h => hb ▸ rvalid_any t w y h, trivial⟩
    cases b <;> cases c <;> cases d <;> first
      | exact absurd hcase (by decide)
      | exact entry_facts (E := E) [.rel .lt (.tok 0) (.lit 0) _, .rel .lt (.lit 1099511627776) (.tok 0) _] ⟨hc, hd, trivial⟩ (tbl_ok ents) [.tok 0, .vtok 0] Try.func32 rfl (fun _ _ => by kernel_rfl) (by kernel_rfl) rfl rfl (by simp [Try.ntmps32])
  by_cases hbad : validT t = true ∧ 0 ≤ n ∧ n ≤ 1099511627776
  case neg =>
    have he := early _ _ _ rfl rfl rfl (by
      rw [Bool.eq_false_iff]
      intro h
      simp only [Bool.and_eq_true, Bool.not_eq_true', decide_eq_false_iff_not] at h
      exact hbad ⟨h.1.1, by omega, by omega⟩)
    have hz : renameT t n = (zeroT, 1) := by
      unfold renameT numB
      rw [if_neg]
      intro h
      simp only [Bool.and_eq_true, decide_eq_true_eq] at h
      exact hbad h
    exact entry_eq he (pair_eq (show (renameT t n).1 = zeroT by rw [hz]) (show (renameT t n).2 = 1 by rw [hz]))
  obtain ⟨hv, h0, h1⟩ := hbad
  have c1 : decide (n < 0) = false := by simp; omega
  have c2 : decide (1099511627776 < n) = false := by simp; omega
  have hl := vars_len hv
  have hfit := valid_fits hv
  have ents : @Entries E [(14, [.tok 0], .val (.bool true)), (64, [.val (.slice none 0 0), .tok 0], .itok 0)] :=
    ⟨ent_tv (fun _ _ => by kernel_rfl) fun w y h => hv ▸ rvalid_any t w y h, ent_vars hfit (by show varsT t = _; simp [varsT, hv]; rfl), trivial⟩
  have hget : ∀ j (hj : j < (varsT t).length), (varsT t).getD j 0 = (varsT t)[j] := fun j hj => by simp [List.getD_eq_getElem?_getD, hj]
  have hbd : ∀ j (hj : j < (varsT t).length), 0 ≤ (varsT t)[j] ∧ (varsT t)[j] ≤ 1099511627776 := fun j hj => vars_bd hv (List.getElem_mem hj)
  -- one round
  have okR : ∀ j (hj : j < (varsT t).length) b, decide (1099511627776 < (varsT t)[j] + n) = b → AllHold (EnvR t n (varsT t) j).T (EnvR t n (varsT t) j).I (EnvR t n (varsT t) j).L (EnvR t n (varsT t) j).R (EnvR t n (varsT t) j).S
      [.ilen 0 2, .rel .lt (.tok 1) (.tok 2) true, .iget 0 (.tok 1) 4, .ari .add (.tok 4) (.tok 0) 5, .rel .lt (.lit 1099511627776) (.tok 5) b, .ari .add (.tok 1) (.lit 1) 3] := fun j hj b hb => by
    have h2 := hbd j hj
    have h3 := hget j hj
    refine ⟨rfl, ?_, ⟨?_, ?_⟩, ⟨rfl, ?_⟩, ?_, ⟨?_, ?_⟩, trivial⟩
    · show decide ((j : Int) < ((varsT t).length : Int)) = true
      simpa using hj
    · show (0 : Int) ≤ (j : Int); omega
    · show (varsT t)[(j : Int).toNat]? = some ((varsT t).getD j 0)
      rw [h3]
      simp [hj]
    · show wf64 ((varsT t).getD j 0 + n)
      rw [h3]; unfold wf64; omega
    · show decide (1099511627776 < (varsT t).getD j 0 + n) = b
      rw [h3]; exact hb
    · show (j : Int) + 1 = ((j + 1 : Nat) : Int); omega
    · show wf64 ((j + 1 : Nat) : Int); unfold wf64; omega
  have bad : ∀ v : Int, decide (1099511627776 < v + n) = decide (1099511627776 - n < v) := fun v => by rw [Bool.eq_iff_iff]; simp; omega
  -- how many rounds
  obtain ⟨m, hm⟩ : ∃ m, m = (varsT t).findIdx fun v => decide (1099511627776 < v + n) := ⟨_, rfl⟩
  have hml : m ≤ (varsT t).length := hm ▸ List.findIdx_le_length
  have hno : ∀ j (hj : j < (varsT t).length), j < m → decide (1099511627776 < (varsT t)[j] + n) = false := fun j hj hjm => by
    have := List.not_of_lt_findIdx (p := fun v => decide (1099511627776 < v + n)) (xs := varsT t) (by rw [← hm]; exact hjm)
    simpa using this
  by_cases hend : m < (varsT t).length
  · have hyes : decide (1099511627776 < (varsT t)[m] + n) = true := by
      subst hm
      exact List.findIdx_getElem (w := hend)
    have hz : renameT t n = (zeroT, 2) := by
      unfold renameT
      rw [if_pos (by simp [hv, numB, h0, h1]), if_pos (List.any_eq_true.2 ⟨_, List.getElem_mem hend, by rw [← bad]; exact hyes⟩)]
    refine entry_eq (x := .pair (.term zeroT) (.val (.int .i64 2))) ?_ (pair_eq (show (renameT t n).1 = zeroT by rw [hz]) (show (renameT t n).2 = 2 by rw [hz]))
    refine entry_runs (E := E) [.tok 0, .vtok 0] (r := .ret) (σ' := [(4, .vcell 4 (.term zeroT)), (5, .val (.int .i64 2))]) Try.func32 rfl (fun _ _ => by kernel_rfl) ?_ (.inl rfl) rfl rfl rfl (by simp [Try.ntmps32])
    refine LRun.parts (E := E) [.rel .lt (.tok 0) (.lit 0) false, .rel .lt (.lit 1099511627776) (.tok 0) false] ⟨c1, c2, trivial⟩ (tbl_ok ents) [(1, .vtok 0), (2, .vcell 2 (.tok 0)), (4, .vcell 4 (.term zeroT)), (5, .val (.int .i64 0)), (6, .itok 0)] [_, _, _] (by kernel_rfl) ?_
    refine LRun.out (LRun.seq (LRun.post (LRun.code noCalls_ok [(1, .vtok 0), (2, .vcell 2 (.tok 0)), (4, .vcell 4 (.term zeroT)), (5, .val (.int .i64 0)), (6, .itok 0), (7, .val (.int .i64 0))] (by kernel_rfl)) (rr_zero t n (varsT t))) (LRun.block_ret (LRun.loop (fun j => EnvR t n (varsT t) j) (fun _ => rrInv) m (fun j hj => ?_) ?_ (by simp)))) (by simp)
    · exact LRun.post (LRun.step (E := EnvR t n (varsT t) j) _ (okR j (by omega) false (hno j (by omega) hj)) noCalls_ok rrNext (by kernel_rfl)) (rr_next t n (varsT t) j)
    · exact LRun.post (E1 := EnvR t n (varsT t) m) (LRun.step (E := EnvR t n (varsT t) m) _ (okR m hend true hyes) noCalls_ok [(4, .vcell 4 (.term zeroT)), (5, .val (.int .i64 2))] (by kernel_rfl)) ⟨⟨_, rfl, idd⟩, ⟨_, rfl, idd⟩, trivial⟩
  · obtain rfl : m = (varsT t).length := by omega
    have hz : renameT t n = ((appT (renG n) () t).2, 0) := by
      unfold renameT
      rw [if_pos (by simp [hv, numB, h0, h1]), if_neg]
      intro hany
      obtain ⟨v, hvm, hvb⟩ := List.any_eq_true.1 hany
      obtain ⟨j, hj, rfl⟩ := List.getElem_of_mem hvm
      rw [← bad, hno j hj hj] at hvb
      cases hvb
    have hsh : @Entries E [(69, [.tok 0, .vtok 0], .tok 1)] := ⟨ent_mk (fun _ _ => by kernel_rfl) fun p w vs hvs => by
      match vs, hvs with
      | [y, _], ⟨hy, rfl, _⟩ =>
        show MakesT _ _ _ _ (renameT t n).1
        rw [hz]
        exact makes_new (shift_any n h0 h1 t w y (TmIn.at_w hy) hfit), trivial⟩
    refine entry_eq (x := .pair (.tok 1) (.val (.int .i64 0))) ?_ (pair_eq2 (show (renameT t n).2 = 0 by rw [hz]))
    refine entry_runs (E := E) [.tok 0, .vtok 0] (r := .ret) (σ' := [(4, .vcell 4 (.tok 1)), (5, .val (.int .i64 0))]) Try.func32 rfl (fun _ _ => by kernel_rfl) ?_ (.inl rfl) rfl rfl rfl (by simp [Try.ntmps32])
    refine LRun.parts (E := E) [.rel .lt (.tok 0) (.lit 0) false, .rel .lt (.lit 1099511627776) (.tok 0) false] ⟨c1, c2, trivial⟩ (tbl_ok ents) [(1, .vtok 0), (2, .vcell 2 (.tok 0)), (4, .vcell 4 (.term zeroT)), (5, .val (.int .i64 0)), (6, .itok 0)] [_, _, _] (by kernel_rfl) ?_
    refine LRun.seq (E1 := E) (σ1 := [(1, .vtok 0), (2, .vcell 2 (.tok 0)), (4, .vcell 4 (.term zeroT)), (5, .val (.int .i64 0))]) ?_ (LRun.code (tbl_ok hsh) _ (by kernel_rfl))
    refine LRun.seq (LRun.post (LRun.code noCalls_ok [(1, .vtok 0), (2, .vcell 2 (.tok 0)), (4, .vcell 4 (.term zeroT)), (5, .val (.int .i64 0)), (6, .itok 0), (7, .val (.int .i64 0))] (by kernel_rfl)) (rr_zero t n (varsT t))) (LRun.block (LRun.loop (fun j => EnvR t n (varsT t) j) (fun _ => rrInv) (varsT t).length (fun j hj => ?_) ?_ (by simp)))
    · exact LRun.post (LRun.step (E := EnvR t n (varsT t) j) _ (okR j (by omega) false (hno j (by omega) hj)) noCalls_ok rrNext (by kernel_rfl)) (rr_next t n (varsT t) j)
    · refine LRun.post (E1 := EnvR t n (varsT t) (varsT t).length) (LRun.step (E := EnvR t n (varsT t) (varsT t).length) [.ilen 0 2, .rel .lt (.tok 1) (.tok 2) false] ⟨rfl, ?_, trivial⟩ noCalls_ok [(1, .vtok 0), (2, .vcell 2 (.tok 0)), (4, .vcell 4 (.term zeroT)), (5, .val (.int .i64 0))] (by kernel_rfl)) ⟨⟨_, rfl, idd⟩, ⟨_, rfl, idd⟩, ⟨_, rfl, idd⟩, ⟨_, rfl, idd⟩, trivial⟩
      show decide (((varsT t).length : Int) < ((varsT t).length : Int)) = false
      simp

end Go.Proofs.Ytgedgmdbpembiaa
