/-
  The law TermReplaced: the walk. No condition.
-/
import Derived.Test.YtgedgmdbpembiaaPx
namespace Go.Proofs.Ytgedgmdbpembiaa
open Go.RowKit
set_option linter.unusedVariables false

theorem ent_pvars [Env] {n k : Nat} (hk : Env.L k = varsT (Env.T n)) : Entry 25 [.tok n] (.itok k) := ⟨fun _ _ => by kernel_rfl, fun p w vs hv => by
  match vs, hv with
  | [y], ⟨hy, _⟩ =>
    refine (vars_any (Env.T n) w y (TmIn.at_w hy)).mono ?_
    rintro e w' ⟨A, cap, rfl, h1, h2, h3, h4, h5⟩
    refine ⟨_, pin0 p w, rfl, Ext.plain h5, ?_⟩
    show ∃ A cap, _
    rw [hk]
    exact ⟨A, cap, rfl, h1, h2, h4, h3.but (But.refl Nil _) fun k hk => ⟨id, by simp only [Fr, pin0]; rw [if_neg (by omega)]⟩⟩⟩

theorem ent_has [Env] {a b : Nat} {c : Bool} (h : decide (Env.I b ∈ Env.L a) = c) : Entry 41 [.itok a, .vtok b] (.val (.bool c)) := ⟨fun _ _ => by kernel_rfl, fun p w vs hv => by
  match vs, hv with
  | [_, _], ⟨⟨A, cap, rfl, h1, h2, h3, h4⟩, rfl, _⟩ =>
    refine (has_any (Env.L a) A cap (Env.I b) w h3 (h4.but (But.refl Nil _) fun _ _ => ⟨id, trivial⟩)).mono ?_
    rintro e w' ⟨rfl, hb⟩
    exact ⟨_, pin0 p w, rfl, Ext.plain hb, by rw [← h]; rfl⟩⟩

theorem ent_replace [Env] {n i m k : Nat} {x : Ab} (hx : ∀ p w v, (∃ u, v = .tuple #[u, .int .i64 (replaceT (Env.T n) (Env.I i) (Env.T m)).2] ∧ TmIn w (Fr p) (replaceT (Env.T n) (Env.I i) (Env.T m)).1 u) → x.pd p w v) : Entry 33 [.tok n, .vtok i, .tok m] x := ⟨fun _ _ => by kernel_rfl, fun p w vs hv => by
  match vs, hv with
  | [y, _, z], ⟨hy, rfl, hz, _⟩ =>
    refine (replace_any (Env.T n) (Env.T m) (Env.I i) w y z (TmIn.at_w hy) (TmIn.at_w hz)).mono ?_
    rintro e w' ⟨u, rfl, ht, hb⟩
    exact ⟨_, pin0 p w, rfl, Ext.plain hb, hx _ _ _ ⟨u, rfl, ht.pins⟩⟩⟩

abbrev EnvT (t : Tm) (v : Int) (by_ : Tm) (j : Nat) : Env :=
  { T := fun k => match k with | 0 => t | 1 => by_ | 2 => varT v | _ => (replaceT t v by_).1
    I := fun k => match k with | 0 => v | 3 => (j : Int) | 4 => ((j + 1 : Nat) : Int) | 5 => (varsT t).getD j 0 | 6 => ((varsT t).length : Int) | 7 => ((varsT (replaceT t v by_).1).length : Int) | _ => (varsT (replaceT t v by_).1).getD j 0
    L := fun k => match k with | 0 => varsT t | 1 => varsT by_ | _ => varsT (replaceT t v by_).1 }

abbrev reBase : List (Tmp × Ab) := [(1, .vtok 0), (3, .vcell 3 (.tok 0)), (5, .vcell 5 (.tok 1)), (9, .vcell 9 (.tok 3)), (11, .itok 0), (12, .itok 1), (13, .itok 2)]
abbrev reInv1 : List (Tmp × Ab) := [(1, .vtok 0), (3, .vcell 3 (.tok 0)), (5, .vcell 5 (.tok 1)), (9, .vcell 9 (.tok 3)), (11, .itok 0), (12, .itok 1), (13, .itok 2), (14, .vtok 3)]
abbrev reNext1 : List (Tmp × Ab) := [(1, .vtok 0), (3, .vcell 3 (.tok 0)), (5, .vcell 5 (.tok 1)), (9, .vcell 9 (.tok 3)), (11, .itok 0), (12, .itok 1), (13, .itok 2), (14, .vtok 4)]
abbrev reInv2 : List (Tmp × Ab) := [(1, .vtok 0), (3, .vcell 3 (.tok 0)), (5, .vcell 5 (.tok 1)), (9, .vcell 9 (.tok 3)), (11, .itok 0), (12, .itok 1), (13, .itok 2), (15, .vtok 3)]
abbrev reNext2 : List (Tmp × Ab) := [(1, .vtok 0), (3, .vcell 3 (.tok 0)), (5, .vcell 5 (.tok 1)), (9, .vcell 9 (.tok 3)), (11, .itok 0), (12, .itok 1), (13, .itok 2), (15, .vtok 4)]

set_option maxHeartbeats 1000000 in
theorem termReplaced_any (t : Tm) (y : Value) (v : Int) (by_ : Tm) (z : Value) (w : World) (h : TmAt w w.heap.size t y) (wv : wf64 v) (h' : TmAt w w.heap.size by_ z) : Calls Try.prog 11 #[y, .int .i64 v, z] w fun e w' => e = .returned (.bool true) ∧ But Nil w w' := by
  letI E : Env := EnvT t v by_ 0
  suffices run : @Entry E 11 [.tok 0, .vtok 0, .tok 1] (.val (.bool true)) from run.val (vs := [y, .int .i64 v, z]) ⟨h.fr, rfl, h'.fr, trivial⟩
  have aw : @Entry E 17 [] (.val (.bool true)) := ent_0v (fun _ _ => by kernel_rfl) awake_any
  have hsay : ∀ {n : Nat} {b : Bool}, validT (E.T n) = b → @Entry E 13 [.tok n] (.val (.bool b)) := fun {n b} hb => ent_tv (fun _ _ => by kernel_rfl) fun w y h => hb ▸ valid_any _ w y h
  have early : ∀ b c d f, validT t = b → validT by_ = f → decide (v < 0) = c → decide (1099511627776 < v) = d → (b && !c && !d && f) = false → @Entry E 11 [.tok 0, .vtok 0, .tok 1] (.val (.bool true)) := by
    intro b c d f hb hf hc hd hcase
    have ents : @Entries E [(13, [.tok 0], .val (.bool b)), (13, [.tok 1], .val (.bool f)), (17, [], .val (.bool true))] := ⟨hsay hb, hsay hf, aw, trivial⟩
    cases b <;> cases c <;> cases d <;> cases f <;> first
      | exact absurd hcase (by decide)
      | exact entry_facts (E := E) [.rel .lt (.tok 0) (.lit 0) _, .rel .lt (.lit 1099511627776) (.tok 0) _] ⟨hc, hd, trivial⟩ (tbl_ok ents) [.tok 0, .vtok 0, .tok 1] Try.func11 rfl (fun _ _ => by kernel_rfl) (by kernel_rfl) rfl rfl (by simp [Try.ntmps11])
  by_cases hbad : validT t = true ∧ (0 ≤ v ∧ v ≤ 1099511627776) ∧ validT by_ = true
  case neg =>
    refine early _ _ _ _ rfl rfl rfl rfl ?_
    rw [Bool.eq_false_iff]
    intro h
    simp only [Bool.and_eq_true, Bool.not_eq_true', decide_eq_false_iff_not] at h
    exact hbad ⟨h.1.1.1, by omega, h.2⟩
  clear early
  obtain ⟨hv, ⟨h0, h1⟩, hby⟩ := hbad
  have c1 : decide (v < 0) = false := by simp; omega
  have c2 : decide (1099511627776 < v) = false := by simp; omega
  have hfit := valid_fits hv
  have hvar : varT v = V v := by unfold varT numB; simp [h0, h1]
  have hVv : validT (V v) = true := valid_iff.2 ⟨by simp [nodesT, nodesL], V_fits.2 ⟨h0, h1⟩⟩
  have hself : replaceT t v (varT v) = (t, 0) := by
    rw [hvar, replace_eq, if_pos (by simp [hv, hVv, numB, h0, h1])]
    have hs1 : sizeT (V v) = 1 := by rw [size_valid hVv]; simp [nodesT, nodesL]
    have := size_valid hv
    have := valid_nodes hv
    rw [hs1, if_neg (by omega), rep_self hfit]
  have e1 : @Entry E 13 [.tok 0] (.val (.bool true)) := hsay hv
  have e2 : @Entry E 13 [.tok 1] (.val (.bool true)) := hsay hby
  have e3 : @Entry E 40 [.vtok 0] (.tok 2) := ent_mk (fun _ _ => by kernel_rfl) fun p w vs hvs => by
    match vs, hvs with
    | [_], ⟨rfl, _⟩ => exact makes_new (var_any v w wv)
  have e4 : @Entry E 33 [.tok 0, .vtok 0, .tok 2] (.pair (.tok 0) (.val (.int .i64 0))) := ent_replace (k := 0) fun p w x ⟨u, he, hu⟩ => by
    have hs : replaceT (E.T 0) (E.I 0) (E.T 2) = (t, 0) := hself
    rw [hs] at he hu
    exact ⟨u, _, he, hu, rfl⟩
  have e5 : @Entry E 18 [.tok 0, .tok 0] (.val (.bool true)) := ent_ttv (fun _ _ => by kernel_rfl) fun w y z h h' => same_self hv ▸ same_any _ _ w y z h h'
  have e6 : @Entry E 25 [.tok 0] (.itok 0) := ent_pvars rfl
  have hrep := replace_eq t v by_
  rw [if_pos (by simp [hv, hby, numB, h0, h1])] at hrep
  have hpre : AllHold E.T E.I E.L E.R E.S [.rel .lt (.tok 0) (.lit 0) false, .rel .lt (.lit 1099511627776) (.tok 0) false] := ⟨c1, c2, trivial⟩
  by_cases hbig : 2000 < sizeT t + occN v (occT t) * (sizeT by_ - 1)
  · rw [if_pos hbig] at hrep
    have hocc : v ∈ varsT t := by
      rw [mem_vars hv, ← occN_pos]
      have := (occN_le v (occT t)).1
      rcases Int.lt_or_eq_of_le this with h | h
      · exact h
      · rw [← h] at hbig
        have := size_valid hv
        have := valid_nodes hv
        omega
    have e7 : @Entry E 33 [.tok 0, .vtok 0, .tok 1] (.pair (.tok 3) (.val (.int .i64 2))) := ent_replace (k := 0) fun p w x ⟨u, he, hu⟩ => by
      have hs : replaceT (E.T 0) (E.I 0) (E.T 1) = (zeroT, 2) := hrep
      rw [hs] at he hu
      exact ⟨u, _, he, (by show TmIn _ _ (replaceT t v by_).1 _; rw [hrep]; exact hu), rfl⟩
    have e8 : @Entry E 41 [.itok 0, .vtok 0] (.val (.bool true)) := ent_has (by show decide (v ∈ varsT t) = true; simpa using hocc)
    refine entry_runs (E := E) [.tok 0, .vtok 0, .tok 1] (r := .ret) (σ' := [(6, .val (.bool true))]) Try.func11 rfl (fun _ _ => by kernel_rfl) ?_ (.inl rfl) rfl rfl rfl (by simp [Try.ntmps11])
    refine LRun.parts (E := E) _ hpre (tbl_ok (T := [(13, [.tok 0], .val (.bool true)), (13, [.tok 1], .val (.bool true))]) ⟨e1, e2, trivial⟩) [(1, .vtok 0), (3, .vcell 3 (.tok 0)), (5, .vcell 5 (.tok 1))] [_, _] (by kernel_rfl) ?_
    refine LRun.seq (LRun.any (E := E) (tbl_ok (T := [(40, [.vtok 0], .tok 2), (33, [.tok 0, .vtok 0, .tok 2], .pair (.tok 0) (.val (.int .i64 0)))]) ⟨e3, e4, trivial⟩) [(1, .vtok 0), (3, .vcell 3 (.tok 0)), (5, .vcell 5 (.tok 1)), (7, .vcell 7 (.tok 0)), (8, .val (.int .i64 0))] (by kernel_rfl)) ?_
    exact LRun.code (E := E) (tbl_ok (T := [(18, [.tok 0, .tok 0], .val (.bool true)),
        (33, [.tok 0, .vtok 0, .tok 1], .pair (.tok 3) (.val (.int .i64 2))), (25, [.tok 0], .itok 0), (41, [.itok 0, .vtok 0], .val (.bool true)), (17, [], .val (.bool true))]) ⟨e5, e7, e6, e8, aw, trivial⟩) _ (by kernel_rfl)
  rw [if_neg hbig] at hrep
  obtain ⟨r, hr⟩ : ∃ r, r = substT (repF v by_) t := ⟨_, rfl⟩
  have hr1 : (replaceT t v by_).1 = r := by rw [hrep, hr]
  have hrv : validT r = true := hr ▸ rep_valid hv hby (by omega)
  have hmem : ∀ n, n ∈ varsT r ↔ (n ∈ varsT t ∧ n ≠ v) ∨ (v ∈ varsT t ∧ n ∈ varsT by_) := fun n => by
    rw [mem_vars hrv, mem_vars hv, mem_vars hv, mem_vars hby, hr, mem_rep]
  have e7 : @Entry E 33 [.tok 0, .vtok 0, .tok 1] (.pair (.tok 3) (.val (.int .i64 0))) := ent_replace (k := 0) fun p w x ⟨u, he, hu⟩ => by
    have hs : (replaceT (E.T 0) (E.I 0) (E.T 1)).2 = 0 := by show (replaceT t v by_).2 = 0; rw [hrep]
    rw [hs] at he
    exact ⟨u, _, he, hu, rfl⟩
  have e8 : @Entry E 25 [.tok 1] (.itok 1) := ent_pvars rfl
  have e9 : @Entry E 25 [.tok 3] (.itok 2) := ent_pvars rfl
  have hlt := vars_len hv
  have hlr := vars_len hrv
  refine entry_runs (E := E) [.tok 0, .vtok 0, .tok 1] (r := .ret) (σ' := [(6, .val (.bool true))]) Try.func11 rfl (fun _ _ => by kernel_rfl) ?_ (.inl rfl) rfl rfl rfl (by simp [Try.ntmps11])
  refine LRun.parts (E := E) _ hpre (tbl_ok (T := [(13, [.tok 0], .val (.bool true)), (13, [.tok 1], .val (.bool true))]) ⟨e1, e2, trivial⟩) [(1, .vtok 0), (3, .vcell 3 (.tok 0)), (5, .vcell 5 (.tok 1))] [_, _] (by kernel_rfl) ?_
  refine LRun.seq (LRun.any (E := E) (tbl_ok (T := [(40, [.vtok 0], .tok 2), (33, [.tok 0, .vtok 0, .tok 2], .pair (.tok 0) (.val (.int .i64 0)))]) ⟨e3, e4, trivial⟩) [(1, .vtok 0), (3, .vcell 3 (.tok 0)), (5, .vcell 5 (.tok 1)), (7, .vcell 7 (.tok 0)), (8, .val (.int .i64 0))] (by kernel_rfl)) ?_
  refine LRun.parts (E := E) [] trivial (tbl_ok (T := [(18, [.tok 0, .tok 0], .val (.bool true)),
        (33, [.tok 0, .vtok 0, .tok 1], .pair (.tok 3) (.val (.int .i64 0))), (25, [.tok 0], .itok 0), (25, [.tok 1], .itok 1), (25, [.tok 3], .itok 2)]) ⟨e5, e7, e6, e8, e9, trivial⟩) reBase [_, _, _, _] (by kernel_rfl) ?_
  -- the first loop
  refine LRun.seq (E1 := E) (σ1 := reBase) ?_ ?_
  · refine LRun.seq (LRun.post (E1 := E) (LRun.code noCalls_ok [(1, .vtok 0), (3, .vcell 3 (.tok 0)), (5, .vcell 5 (.tok 1)), (9, .vcell 9 (.tok 3)), (11, .itok 0), (12, .itok 1), (13, .itok 2), (14, .val (.int .i64 0))] (by kernel_rfl)) (E2 := EnvT t v by_ 0) (σ2 := reInv1) ⟨⟨_, rfl, idd⟩, ⟨_, rfl, idd⟩, ⟨_, rfl, idd⟩, ⟨_, rfl, idd⟩, ⟨_, rfl, idd⟩, ⟨_, rfl, idd⟩, ⟨_, rfl, idd⟩, ⟨_, rfl, idd⟩, trivial⟩)
      (LRun.block (LRun.loop (fun j => EnvT t v by_ j) (fun _ => reInv1) (varsT t).length (fun j hj => ?_) ?_ (by simp)))
    · have hg : (varsT t).getD j 0 = (varsT t)[j] := by simp [List.getD_eq_getElem?_getD, hj]
      obtain ⟨b, hb⟩ : ∃ b, ((varsT t).getD j 0 == v) = b := ⟨_, rfl⟩
      have hhas : b = false → decide ((varsT t).getD j 0 ∈ varsT (replaceT t v by_).1) = true := fun hbf => by
        rw [hr1, decide_eq_true_eq, hmem]
        rw [hbf] at hb
        exact .inl ⟨by rw [hg]; exact List.getElem_mem hj, by simpa using hb⟩
      have hok : AllHold (EnvT t v by_ j).T (EnvT t v by_ j).I (EnvT t v by_ j).L (EnvT t v by_ j).R (EnvT t v by_ j).S [.ilen 0 6, .rel .lt (.tok 3) (.tok 6) true, .iget 0 (.tok 3) 5, .rel .eq (.tok 5) (.tok 0) b, .ari .add (.tok 3) (.lit 1) 4] := by
        refine ⟨rfl, ?_, ⟨?_, ?_⟩, hb, ⟨?_, ?_⟩, trivial⟩
        · show decide ((j : Int) < ((varsT t).length : Int)) = true; simpa using hj
        · show (0 : Int) ≤ (j : Int); omega
        · show (varsT t)[(j : Int).toNat]? = some ((varsT t).getD j 0); rw [hg]; simp [hj]
        · show (j : Int) + 1 = ((j + 1 : Nat) : Int); omega
        · show wf64 ((j + 1 : Nat) : Int); unfold wf64; omega
      have hnx : SubL (EnvT t v by_ j) reNext1 (EnvT t v by_ (j + 1)) reInv1 := ⟨⟨_, rfl, idd⟩, ⟨_, rfl, idd⟩, ⟨_, rfl, idd⟩, ⟨_, rfl, idd⟩, ⟨_, rfl, idd⟩, ⟨_, rfl, idd⟩, ⟨_, rfl, idd⟩, ⟨_, rfl, idd⟩, trivial⟩
      cases b with
      | true => exact LRun.post (LRun.step (E := EnvT t v by_ j) _ hok noCalls_ok reNext1 (by kernel_rfl)) hnx
      | false => exact LRun.post (LRun.step (E := EnvT t v by_ j) _ hok (C := tbl [(41, [.itok 2, .vtok 5], .val (.bool true))]) (by letI : Env := EnvT t v by_ j; exact tbl_ok ⟨ent_has (hhas rfl), trivial⟩) reNext1 (by kernel_rfl)) hnx
    · refine LRun.post (LRun.step (E := EnvT t v by_ (varsT t).length) [.ilen 0 6, .rel .lt (.tok 3) (.tok 6) false] ⟨rfl, ?_, trivial⟩ noCalls_ok reBase (by kernel_rfl)) ⟨⟨_, rfl, idd⟩, ⟨_, rfl, idd⟩, ⟨_, rfl, idd⟩, ⟨_, rfl, idd⟩, ⟨_, rfl, idd⟩, ⟨_, rfl, idd⟩, ⟨_, rfl, idd⟩, trivial⟩
      show decide (((varsT t).length : Int) < ((varsT t).length : Int)) = false
      simp
  -- the second loop
  refine LRun.seq (E1 := E) (σ1 := reBase) ?_ ?_
  · refine LRun.seq (LRun.post (E1 := E) (LRun.code noCalls_ok [(1, .vtok 0), (3, .vcell 3 (.tok 0)), (5, .vcell 5 (.tok 1)), (9, .vcell 9 (.tok 3)), (11, .itok 0), (12, .itok 1), (13, .itok 2), (15, .val (.int .i64 0))] (by kernel_rfl)) (E2 := EnvT t v by_ 0) (σ2 := reInv2) ⟨⟨_, rfl, idd⟩, ⟨_, rfl, idd⟩, ⟨_, rfl, idd⟩, ⟨_, rfl, idd⟩, ⟨_, rfl, idd⟩, ⟨_, rfl, idd⟩, ⟨_, rfl, idd⟩, ⟨_, rfl, idd⟩, trivial⟩)
      (LRun.block (LRun.loop (fun j => EnvT t v by_ j) (fun _ => reInv2) (varsT r).length (fun j hj => ?_) ?_ (by simp)))
    · have hg : (varsT r).getD j 0 = (varsT r)[j] := by simp [List.getD_eq_getElem?_getD, hj]
      obtain ⟨b, hb⟩ : ∃ b, decide ((varsT (replaceT t v by_).1).getD j 0 ∈ varsT t) = b := ⟨_, rfl⟩
      have hhas : b = false → decide ((varsT (replaceT t v by_).1).getD j 0 ∈ varsT by_) = true := fun hbf => by
        have hm := (hmem (varsT r)[j]).1 (List.getElem_mem hj)
        rw [hbf, hr1, hg, decide_eq_false_iff_not] at hb
        rw [hr1, hg, decide_eq_true_eq]
        rcases hm with hm | hm
        · exact absurd hm.1 hb
        · exact hm.2
      have hok : AllHold (EnvT t v by_ j).T (EnvT t v by_ j).I (EnvT t v by_ j).L (EnvT t v by_ j).R (EnvT t v by_ j).S [.ilen 2 7, .rel .lt (.tok 3) (.tok 7) true, .iget 2 (.tok 3) 8, .ari .add (.tok 3) (.lit 1) 4] := by
        refine ⟨rfl, ?_, ⟨?_, ?_⟩, ⟨?_, ?_⟩, trivial⟩
        · show decide ((j : Int) < ((varsT (replaceT t v by_).1).length : Int)) = true; rw [hr1]; simpa using hj
        · show (0 : Int) ≤ (j : Int); omega
        · show (varsT (replaceT t v by_).1)[(j : Int).toNat]? = some ((varsT (replaceT t v by_).1).getD j 0); rw [hr1, hg]; simp [hj]
        · show (j : Int) + 1 = ((j + 1 : Nat) : Int); omega
        · show wf64 ((j + 1 : Nat) : Int); unfold wf64; omega
      have hnx : SubL (EnvT t v by_ j) reNext2 (EnvT t v by_ (j + 1)) reInv2 := ⟨⟨_, rfl, idd⟩, ⟨_, rfl, idd⟩, ⟨_, rfl, idd⟩, ⟨_, rfl, idd⟩, ⟨_, rfl, idd⟩, ⟨_, rfl, idd⟩, ⟨_, rfl, idd⟩, ⟨_, rfl, idd⟩, trivial⟩
      cases b with
      | true => exact LRun.post (LRun.step (E := EnvT t v by_ j) _ hok (C := tbl [(41, [.itok 0, .vtok 8], .val (.bool true))]) (by letI : Env := EnvT t v by_ j; exact tbl_ok ⟨ent_has hb, trivial⟩) reNext2 (by kernel_rfl)) hnx
      | false => exact LRun.post (LRun.step (E := EnvT t v by_ j) _ hok (C := tbl [(41, [.itok 0, .vtok 8], .val (.bool false)), (41, [.itok 1, .vtok 8], .val (.bool true))]) (by letI : Env := EnvT t v by_ j; exact tbl_ok ⟨ent_has hb, ent_has (hhas rfl), trivial⟩) reNext2 (by kernel_rfl)) hnx
    · refine LRun.post (LRun.step (E := EnvT t v by_ (varsT r).length) [.ilen 2 7, .rel .lt (.tok 3) (.tok 7) false] ⟨rfl, ?_, trivial⟩ noCalls_ok reBase (by kernel_rfl)) ⟨⟨_, rfl, idd⟩, ⟨_, rfl, idd⟩, ⟨_, rfl, idd⟩, ⟨_, rfl, idd⟩, ⟨_, rfl, idd⟩, ⟨_, rfl, idd⟩, ⟨_, rfl, idd⟩, trivial⟩
      show decide (((varsT r).length : Int) < ((varsT (replaceT t v by_).1).length : Int)) = false
      rw [hr1]
      simp
  -- the end
  obtain ⟨b, hb⟩ : ∃ b, decide (v ∈ varsT by_) = b := ⟨_, rfl⟩
  obtain ⟨c, hc⟩ : ∃ c, decide (v ∈ varsT t) = c := ⟨_, rfl⟩
  have f1 : @Entry E 41 [.itok 1, .vtok 0] (.val (.bool b)) := ent_has hb
  have f2 : @Entry E 41 [.itok 0, .vtok 0] (.val (.bool c)) := ent_has hc
  have f3 : b = false → @Entry E 41 [.itok 2, .vtok 0] (.val (.bool false)) := fun hbf => ent_has (by
    show decide (v ∈ varsT (replaceT t v by_).1) = false
    rw [hr1, decide_eq_false_iff_not, hmem]
    rw [hbf, decide_eq_false_iff_not] at hb
    rintro (h | h)
    · exact h.2 rfl
    · exact hb h.2)
  have f4 : c = false → @Entry E 18 [.tok 3, .tok 0] (.val (.bool true)) := fun hcf => ent_ttv (fun _ _ => by kernel_rfl) fun w y z h h' => by
    have hrt : (replaceT t v by_).1 = t := by
      rw [hr1, hr]
      refine rep_none hfit fun hm => ?_
      rw [hcf, decide_eq_false_iff_not] at hc
      exact hc ((mem_vars hv).2 hm)
    have : sameT (replaceT t v by_).1 t = true := by rw [hrt]; exact same_self hv
    exact this ▸ same_any _ _ w y z h h'
  cases b <;> cases c
  · exact LRun.code (tbl_ok (T := [(41, [.itok 1, .vtok 0], .val (.bool false)), (41, [.itok 0, .vtok 0], .val (.bool false)), (41, [.itok 2, .vtok 0], .val (.bool false)), (18, [.tok 3, .tok 0], .val (.bool true)), (17, [], .val (.bool true))]) ⟨f1, f2, f3 rfl, f4 rfl, aw, trivial⟩) _ (by kernel_rfl)
  · exact LRun.code (tbl_ok (T := [(41, [.itok 1, .vtok 0], .val (.bool false)), (41, [.itok 0, .vtok 0], .val (.bool true)), (41, [.itok 2, .vtok 0], .val (.bool false)), (17, [], .val (.bool true))]) ⟨f1, f2, f3 rfl, aw, trivial⟩) _ (by kernel_rfl)
  · exact LRun.code (tbl_ok (T := [(41, [.itok 1, .vtok 0], .val (.bool true)), (41, [.itok 0, .vtok 0], .val (.bool false)), (18, [.tok 3, .tok 0], .val (.bool true)), (17, [], .val (.bool true))]) ⟨f1, f2, f4 rfl, aw, trivial⟩) _ (by kernel_rfl)
  · exact LRun.code (tbl_ok (T := [(41, [.itok 1, .vtok 0], .val (.bool true)), (41, [.itok 0, .vtok 0], .val (.bool true)), (17, [], .val (.bool true))]) ⟨f1, f2, aw, trivial⟩) _ (by kernel_rfl)

end Go.Proofs.Ytgedgmdbpembiaa
