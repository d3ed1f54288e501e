/-
  The law TermCanonical: the walk. No condition.
-/
import Derived.Test.YtgedgmdbpembiaaL11
namespace Go.Proofs.Ytgedgmdbpembiaa
open Go.RowKit
set_option linter.unusedVariables false

abbrev EnvK (t : Tm) (n : Int) (j : Nat) : Env :=
  { T := fun k => match k with | 0 => t | 1 => canonT t | _ => (renameT t n).1
    I := fun k => match k with | 0 => n | 1 => (j : Int) | 2 => ((j + 1 : Nat) : Int) | 3 => ((varsT (canonT t)).length : Int) | 4 => sizeT t | _ => (renameT t n).2
    L := fun k => match k with | 0 => varsT t | _ => varsT (canonT t) }

abbrev caBase : List (Tmp × Ab) := [(1, .vtok 0), (2, .vcell 2 (.tok 0)), (5, .vcell 5 (.tok 1)), (6, .itok 1)]
abbrev caInv : List (Tmp × Ab) := [(1, .vtok 0), (2, .vcell 2 (.tok 0)), (5, .vcell 5 (.tok 1)), (6, .itok 1), (7, .vtok 1)]
abbrev caNext : List (Tmp × Ab) := [(1, .vtok 0), (2, .vcell 2 (.tok 0)), (5, .vcell 5 (.tok 1)), (6, .itok 1), (7, .vtok 2)]

theorem ent_canon [Env] {n k : Nat} (hk : Env.T k = canonT (Env.T n)) : Entry 22 [.tok n] (.tok k) := ent_tt (fun _ _ => by kernel_rfl) fun w y h => by
  rw [hk]
  exact canon_any _ w y h

set_option maxHeartbeats 1000000 in
theorem termCanonical_any (t : Tm) (y : Value) (n : Int) (w : World) (h : TmAt w w.heap.size t y) (wn : wf64 n) : Calls Try.prog 9 #[y, .int .i64 n] w fun e w' => e = .returned (.bool true) ∧ But Nil w w' := by
  letI E : Env := EnvK t n 0
  suffices run : @Entry E 9 [.tok 0, .vtok 0] (.val (.bool true)) from run.val (vs := [y, .int .i64 n]) ⟨h.fr, rfl, trivial⟩
  have aw : @Entry E 17 [] (.val (.bool true)) := ent_0v (fun _ _ => by kernel_rfl) awake_any
  have hval : ∀ b, validT t = b → @Entry E 13 [.tok 0] (.val (.bool b)) := fun b hb => ent_tv (fun _ _ => by kernel_rfl) fun w y h => hb ▸ valid_any _ w y h
  cases hv : validT t with
  | false =>
    exact entry_code (tbl_ok (T := [(13, [.tok 0], .val (.bool false)), (17, [], .val (.bool true))]) ⟨hval _ hv, aw, trivial⟩) [.tok 0, .vtok 0] Try.func9 rfl (fun _ _ => by kernel_rfl) (by kernel_rfl) (by kernel_rfl) rfl rfl (by simp [Try.ntmps9])
  | true =>
  have hcv := canon_valid hv
  have hcc := canon_canon hv
  have hvs := canon_vars hv
  have hlen : (varsT (canonT t)).length = (varsT t).length := by rw [hvs]; simp
  have hl := vars_len hv
  have e1 : @Entry E 22 [.tok 0] (.tok 1) := ent_canon rfl
  have e2 : @Entry E 25 [.tok 1] (.itok 1) := ent_pvars rfl
  have e3 : @Entry E 25 [.tok 0] (.itok 0) := ent_pvars rfl
  have e4 : @Entry E 15 [.tok 0] (.vtok 4) := ent_ti (fun _ _ => by kernel_rfl) fun w y h => size_any t w y h
  have e5 : @Entry E 15 [.tok 1] (.vtok 4) := ent_ti (fun _ _ => by kernel_rfl) fun w y h => by
    show Calls _ _ _ _ fun e w' => e = .returned (.int .i64 (sizeT t)) ∧ But Nil w w'
    rw [← canon_size hv]
    exact size_any (canonT t) w y h
  have e6 : @Entry E 20 [.tok 1, .tok 0] (.val (.bool true)) := ent_ttv (fun _ _ => by kernel_rfl) fun w y z h h' => by
    have : variantT (canonT t) t = true := by simp [variantT, hcv, hv, hcc, eqT_refl]
    exact this ▸ variant_any _ _ w y z h h'
  have e7 : @Entry E 22 [.tok 1] (.tok 1) := ent_canon hcc.symm
  have e8 : @Entry E 18 [.tok 1, .tok 1] (.val (.bool true)) := ent_ttv (fun _ _ => by kernel_rfl) fun w y z h h' => same_self hcv ▸ same_any _ _ w y z h h'
  have hren : ∀ c, (renameT t n).2 = c → @Entry E 31 [.tok 0, .vtok 0] (.pair (.tok 2) (.val (.int .i64 c))) := fun c hc => ⟨fun _ _ => by kernel_rfl, fun p w vs hvs => by
    match vs, hvs with
    | [y, _], ⟨hy, rfl, _⟩ =>
      refine (rename_any t n w y (TmIn.at_w hy)).mono ?_
      rintro e w' ⟨u, rfl, ht, hb⟩
      rw [hc]
      exact ⟨_, pin0 p w, rfl, Ext.plain hb, u, _, rfl, ht.pins, rfl⟩⟩
  refine entry_runs (E := E) [.tok 0, .vtok 0] (r := .ret) (σ' := [(4, .val (.bool true))]) Try.func9 rfl (fun _ _ => by kernel_rfl) ?_ (.inl rfl) rfl rfl rfl (by simp [Try.ntmps9])
  refine LRun.parts (E := E) [] trivial (tbl_ok (T := [(13, [.tok 0], .val (.bool true)), (22, [.tok 0], .tok 1), (25, [.tok 1], .itok 1)]) ⟨hval _ hv, e1, e2, trivial⟩) caBase [_, _, _, _] (by kernel_rfl) ?_
  refine LRun.seq (E1 := E) (σ1 := caBase) ?_ ?_
  · refine LRun.seq (LRun.post (E1 := E) (LRun.code noCalls_ok [(1, .vtok 0), (2, .vcell 2 (.tok 0)), (5, .vcell 5 (.tok 1)), (6, .itok 1), (7, .val (.int .i64 0))] (by kernel_rfl)) (E2 := EnvK t n 0) (σ2 := caInv) ⟨⟨_, rfl, idd⟩, ⟨_, rfl, idd⟩, ⟨_, rfl, idd⟩, ⟨_, rfl, idd⟩, ⟨_, rfl, idd⟩, trivial⟩)
      (LRun.block (LRun.loop (fun j => EnvK t n j) (fun _ => caInv) (varsT (canonT t)).length (fun j hj => ?_) ?_ (by simp)))
    · have hok : AllHold (EnvK t n j).T (EnvK t n j).I (EnvK t n j).L (EnvK t n j).R (EnvK t n j).S [.ilen 1 3, .rel .lt (.tok 1) (.tok 3) true, .iget 1 (.tok 1) 1, .rel .eq (.tok 1) (.tok 1) true, .ari .add (.tok 1) (.lit 1) 2] := by
        refine ⟨rfl, ?_, ⟨?_, ?_⟩, ?_, ⟨?_, ?_⟩, trivial⟩
        · show decide ((j : Int) < ((varsT (canonT t)).length : Int)) = true; simpa using hj
        · show (0 : Int) ≤ (j : Int); omega
        · show (varsT (canonT t))[(j : Int).toNat]? = some (j : Int)
          rw [hvs]
          simp [show j < (varsT t).length by omega]
        · show ((j : Int) == (j : Int)) = true; simp
        · show (j : Int) + 1 = ((j + 1 : Nat) : Int); omega
        · show wf64 ((j + 1 : Nat) : Int); unfold wf64; omega
      exact LRun.post (LRun.step (E := EnvK t n j) _ hok noCalls_ok caNext (by kernel_rfl)) ⟨⟨_, rfl, idd⟩, ⟨_, rfl, idd⟩, ⟨_, rfl, idd⟩, ⟨_, rfl, idd⟩, ⟨_, rfl, idd⟩, trivial⟩
    · refine LRun.post (LRun.step (E := EnvK t n (varsT (canonT t)).length) [.ilen 1 3, .rel .lt (.tok 1) (.tok 3) false] ⟨rfl, ?_, trivial⟩ noCalls_ok caBase (by kernel_rfl)) ⟨⟨_, rfl, idd⟩, ⟨_, rfl, idd⟩, ⟨_, rfl, idd⟩, ⟨_, rfl, idd⟩, trivial⟩
      show decide (((varsT (canonT t)).length : Int) < ((varsT (canonT t)).length : Int)) = false
      simp
  have hfin : AllHold E.T E.I E.L E.R E.S [.ilen 1 3, .ilen 0 3, .rel .eq (.tok 3) (.tok 3) true, .rel .eq (.tok 4) (.tok 4) true] :=
    ⟨rfl, by show ((varsT t).length : Int) = ((varsT (canonT t)).length : Int); rw [hlen], by show ((((varsT (canonT t)).length : Int)) == ((varsT (canonT t)).length : Int)) = true; simp, by show (sizeT t == sizeT t) = true; simp, trivial⟩
  by_cases hok : (renameT t n).2 = 0
  · have hr : ∃ m, (renameT t n).1 = substT (fun k => V (k + m)) t := by
      unfold renameT at hok ⊢
      split
      · split
        · rename_i h1 h2; rw [if_pos h1, if_pos h2] at hok; exact absurd hok (by decide)
        · exact ⟨n, ren_sub n t (valid_fits hv)⟩
      · rename_i h1; rw [if_neg h1] at hok; exact absurd hok (by decide)
    obtain ⟨m, hm⟩ := hr
    have hrv := rename_valid t n
    have hrc : canonT (renameT t n).1 = canonT t := by
      rw [hm] at hrv ⊢
      exact canon_ren hv hrv
    have f1 : @Entry E 20 [.tok 2, .tok 0] (.val (.bool true)) := ent_ttv (fun _ _ => by kernel_rfl) fun w y z h h' => by
      have : variantT (renameT t n).1 t = true := by simp [variantT, hrv, hv, hrc, eqT_refl]
      exact this ▸ variant_any _ _ w y z h h'
    have f2 : @Entry E 22 [.tok 2] (.tok 1) := ent_canon hrc.symm
    exact LRun.step (E := E) _ hfin (tbl_ok (T := [(31, [.tok 0, .vtok 0], .pair (.tok 2) (.val (.int .i64 0))), (20, [.tok 2, .tok 0], .val (.bool true)), (22, [.tok 2], .tok 1), (18, [.tok 1, .tok 1], .val (.bool true)),
      (25, [.tok 0], .itok 0), (15, [.tok 0], .vtok 4), (15, [.tok 1], .vtok 4), (20, [.tok 1, .tok 0], .val (.bool true)), (22, [.tok 1], .tok 1), (17, [], .val (.bool true))])
      ⟨hren 0 hok, f1, f2, e8, e3, e4, e5, e6, e7, aw, trivial⟩) _ (by kernel_rfl)
  · have hc : (renameT t n).2 = 1 ∨ (renameT t n).2 = 2 := by
      unfold renameT at hok ⊢
      split
      · split
        · exact .inr rfl
        · rename_i h1 h2; rw [if_pos h1, if_neg h2] at hok; exact absurd rfl hok
      · exact .inl rfl
    rcases hc with hc | hc
    · exact LRun.step (E := E) _ hfin (tbl_ok (T := [(31, [.tok 0, .vtok 0], .pair (.tok 2) (.val (.int .i64 1))), (18, [.tok 1, .tok 1], .val (.bool true)),
        (25, [.tok 0], .itok 0), (15, [.tok 0], .vtok 4), (15, [.tok 1], .vtok 4), (20, [.tok 1, .tok 0], .val (.bool true)), (22, [.tok 1], .tok 1), (17, [], .val (.bool true))])
        ⟨hren 1 hc, e8, e3, e4, e5, e6, e7, aw, trivial⟩) _ (by kernel_rfl)
    · exact LRun.step (E := E) _ hfin (tbl_ok (T := [(31, [.tok 0, .vtok 0], .pair (.tok 2) (.val (.int .i64 2))), (18, [.tok 1, .tok 1], .val (.bool true)),
        (25, [.tok 0], .itok 0), (15, [.tok 0], .vtok 4), (15, [.tok 1], .vtok 4), (20, [.tok 1, .tok 0], .val (.bool true)), (22, [.tok 1], .tok 1), (17, [], .val (.bool true))])
        ⟨hren 2 hc, e8, e3, e4, e5, e6, e7, aw, trivial⟩) _ (by kernel_rfl)

end Go.Proofs.Ytgedgmdbpembiaa
