/-
  The law TermForms: the walk. No condition.
-/
import Derived.Test.YtgedgmdbpembiaaSp
namespace Go.Proofs.Ytgedgmdbpembiaa
open Go.RowKit
set_option linter.unusedVariables false

theorem any_at [Env] {x : Ab} {t : Tm} (h : tmAny x = some t) {p : Nat → Option Nat} {w : World} {v : Value} (hv : x.pd p w v) : TmAt w w.heap.size t v := by
  cases x with
  | term u => injection h with h; subst h; exact TmIn.at_w hv
  | tok n => injection h with h; subst h; exact TmIn.at_w hv
  | own s n => injection h with h; subst h; exact TmIn.at_w hv
  | _ => cases h

theorem ent_same [Env] {x y : Ab} {t u : Tm} {b : Bool} (hx : tmAny x = some t) (hy : tmAny y = some u) (hb : sameT t u = b) : Entry 27 [x, y] (.val (.bool b)) := ⟨fun _ _ => by kernel_rfl, fun p w vs hv => by
  match vs, hv with
  | [a, c], ⟨h1, h2, _⟩ => exact hb ▸ (lsame_any t u w a c (any_at hx h1) (any_at hy h2)).mono fun _ _ => ret_val⟩

theorem ent_own [Env] {f : FuncId} {n k key : Nat} (hen : ∀ args w, (callFunc f args).run Try.prog w = .ok (.enter f args) w) (h : ∀ w y, TmAt w w.heap.size (Env.T n) y → Calls Try.prog f #[y] w fun e w' => ∃ u, e = .returned u ∧ TmNew w' w.heap.size (Env.T k) u ∧ But Nil w w') : Entry f [.tok n] (.own key k) :=
  ⟨hen, fun p w vs hv => by
    match vs, hv with
    | [y], ⟨h1, _⟩ =>
      refine (h w y (TmIn.at_w h1)).mono fun e w' ⟨u, he, ht, hb⟩ => ⟨_, fun b => if b < w.heap.size then p b else some (key + 1), he, ⟨hb, fun b hb => if_pos hb⟩, ?_⟩
      exact TmIn.keeps (fun k o hk hd => ⟨hk, if_neg (by have := hd.1; omega), hd.2⟩) _ ht⟩

/-- A call of spoil on a variable's term. -/
theorem LRun.spoil {E : Env} {z id s d1 d2 key n : Nat} {σ : List (Tmp × Ab)} {o1 o2 : Oper} (h1 : o1.op = .load 24 (.tmp s)) (h1d : o1.dst = some d1) (h1g : o1.guard = none)
    (h2 : o2.op = .call { callee := .value (.func 30), args := #[.tmp d1, .const (.int .i64 3)], argTypes := #[24, 3] }) (h2d : o2.dst = some d2) (h2g : o2.guard = none)
    (hs : lk σ s = some (.vcell s (.own key n))) (hz1 : d1 < z) (hz2 : d2 < z) (hnd : nodupB (σ.map (·.1)) = true) :
    LRun z (.region id #[o1, o2] false) E σ .normal E (σ.filter fun e => (e.1 != d1 && e.1 != d2) && okAfter key e.2) := by
  refine ⟨?_⟩
  intro p0 w0 ds Q p w a ho hx hd hz hf hk
  obtain ⟨v, hv1, t, ht, g, A, cap, rfl, hp, hg, hown⟩ := hf s _ hs
  obtain rfl : E.T n = t := by simpa [tmAny] using ht
  obtain ⟨c0, c1, c2, c3⟩ := blk4 hg
  have hown' : TmIn w (fun b => p b = some (key + 1) ∧ OBlk w b) (E.T n) (VT (E.T n) A cap) := hown
  obtain ⟨A', cap', e, -, -, -, hl1, hl2, hl3, hl4⟩ := hown'.form
  simp only [Value.agg.injEq, Array.mk.injEq, List.cons.injEq, Value.slice.injEq, and_true, true_and] at e
  obtain ⟨rfl, rfl⟩ := e
  have ev1 : a.eval (.tmp s) = .pointer (some ⟨g, 0, none⟩) := by show a.tmps.getD s undef = _; rw [Array.getD_eq_getD_getElem?, hv1]; rfl
  refine wp_region ?_
  have hw : wpOps Try.prog #[o1, o2] Q (List.range' 0 2) = wpList Try.prog #[o1, o2] Q [o1, o2] := wpOps_eq_wpList [o1, o2] 0 (fun j => by simp)
  rw [show List.range (#[o1, o2] : Array Oper).size = List.range' 0 2 from rfl, hw]
  unfold wpList
  rw [if_pos (by unfold Region.wanted; simp only [h1g])]
  refine .inl (wp_value (v := VT (E.T n) A cap) (w' := w) (by generalize a.eval = r at *; simp [execOp, h1, ev1, go_sem, c0, c1, c2, c3]) ?_)
  unfold wpList
  rw [if_pos (by unfold Region.wanted; simp only [h2g])]
  have ev2 : (a.put o1.dst (VT (E.T n) A cap)).eval (.tmp d1) = VT (E.T n) A cap := by
    rw [h1d]
    show (a.tmps.setIfInBounds d1 _).getD d1 undef = _
    rw [Array.getD_eq_getD_getElem?, Array.getElem?_setIfInBounds_self_of_lt (by rw [hz]; exact hz1)]; rfl
  have hD : ∀ b, (p b = some (key + 1) ∧ OBlk w b) → b < w.heap.size := fun b hb => let ⟨c, hc⟩ := hb.2; lt_of_heap hc
  refine .inl (wp_calls (f := 30) (args := #[VT (E.T n) A cap, .int .i64 3]) ?_ ((spoil_any (Places (fun b => p b = some (key + 1) ∧ OBlk w b) w) (fun b => p b = some (key + 1) ∧ OBlk w b) (fun b o h => h.1) 3 w _ _ _ A _ cap (by omega) (places_good fun b h => h.2) (args_kids hl4 hl2) hD).mono ?_))
  · have hen : ∀ args w, (callFunc 30 args).run Try.prog w = .ok (.enter 30 args) w := fun _ _ => by kernel_rfl
    have hfv : (a.put o1.dst (VT (E.T n) A cap)).eval (.func 30) = .func (.func 30) #[] #[] := rfl
    have hcv : (a.put o1.dst (VT (E.T n) A cap)).eval (.const (.int .i64 3)) = .int .i64 3 := rfl
    generalize (a.put o1.dst (VT (E.T n) A cap)).eval = r at *
    simp [execOp, h2, go_sem, hfv, hcv, ev2, hen, resolve]
  · rintro e w' ⟨⟨u, rfl⟩, hb, -⟩
    refine ⟨u, rfl, ?_⟩
    unfold wpList
    have hb' : But (fun b => p b = some (key + 1)) w w' := hb.mono fun i hi _ => hi.1
    rw [h1d, h2d]
    refine hk p w' _ (hx.stored ho (fun _ _ _ => rfl) hb') hd (by simp only [Act.put, Array.size_setIfInBounds]; exact hz) fun r x hr => ?_
    have hm := lk_pair hr
    rw [List.mem_filter] at hm
    obtain ⟨hm, hq⟩ := hm
    simp only [Bool.and_eq_true, bne_iff_ne, ne_eq] at hq
    obtain ⟨v, g1, g2⟩ := hf r x (pair_lk hnd hm)
    refine ⟨v, ?_, Ab.after (fun _ _ _ => rfl) hb' x v hq.2 g2⟩
    show ((a.tmps.setIfInBounds d1 _).setIfInBounds d2 _)[r]? = _
    rw [Array.getElem?_setIfInBounds_ne (fun e => hq.1.2 e.symm), Array.getElem?_setIfInBounds_ne (fun e => hq.1.1 e.symm)]
    exact g1

theorem termForms_any (t : Tm) (y : Value) (w : World) (h : TmAt w w.heap.size t y) : Calls Try.prog 5 #[y] w fun e w' => e = .returned (.bool true) ∧ But Nil w w' := by
  letI E : Env := { T := fun k => match k with | 0 => t | 1 => canonT t | _ => cloneT t, L := fun _ => varsT t }
  suffices run : @Entry E 5 [.tok 0] (.val (.bool true)) from run.val (vs := [y]) ⟨h.fr, trivial⟩
  have aw : @Entry E 17 [] (.val (.bool true)) := ent_0v (fun _ _ => by kernel_rfl) awake_any
  have e1 : @Entry E 22 [.tok 0] (.own 100 1) := ent_own (fun _ _ => by kernel_rfl) fun w y h => canon_any t w y h
  have e2 : @Entry E 23 [.tok 0] (.own 101 2) := ent_own (fun _ _ => by kernel_rfl) fun w y h => clone_any t w y h
  have e3 : @Entry E 25 [.tok 0] (.itok 0) := ent_pvars rfl
  have e4 : @Entry E 26 [.tok 0] (.itok 0) := ConI.ent (rVars_con t)
  have e5 : @Entry E 24 [.itok 0, .itok 0] (.val (.bool true)) := ⟨fun _ _ => by kernel_rfl, fun p w vs hv => by
    match vs, hv with
    | [_, _], ⟨⟨A, cap, rfl, h1, h2, h3, h4⟩, ⟨A', cap', rfl, h1', h2', h3', h4'⟩, _⟩ =>
      refine (numbers_any (varsT t) (varsT t) A A' cap cap' w h3 h3' (h4.but (But.refl Nil _) fun _ _ => ⟨id, trivial⟩) (h4'.but (But.refl Nil _) fun _ _ => ⟨id, trivial⟩)).mono ?_
      rintro e w' ⟨rfl, hb⟩
      exact ⟨_, pin0 p w, rfl, Ext.plain hb, by simp; rfl⟩⟩
  have hval : ∀ b, validT t = b → @Entry E 14 [.tok 0] (.val (.bool b)) := fun b hb => ent_tv (fun _ _ => by kernel_rfl) fun w y h => hb ▸ rvalid_any _ w y h
  refine entry_runs (E := E) [.tok 0] (r := .ret) (σ' := [(2, .val (.bool true))]) Try.func5 rfl (fun _ _ => by kernel_rfl) ?_ (.inl rfl) rfl rfl rfl (by simp [Try.ntmps5])
  refine LRun.parts (E := E) [] trivial noCalls_ok [(1, .vcell 1 (.tok 0))] [_] (by kernel_rfl) ?_
  refine LRun.seq (LRun.any (E := E) (tbl_ok (T := [(22, [.tok 0], .own 100 1), (23, [.tok 0], .own 101 2)]) ⟨e1, e2, trivial⟩) [(1, .vcell 1 (.tok 0)), (3, .vcell 3 (.own 100 1)), (4, .vcell 4 (.own 101 2))] (by kernel_rfl)) ?_
  refine LRun.parts (E := E) [] trivial (tbl_ok (T := [(25, [.tok 0], .itok 0), (26, [.tok 0], .itok 0), (24, [.itok 0, .itok 0], .val (.bool true))]) ⟨e3, e4, e5, trivial⟩)
    [(1, .vcell 1 (.tok 0)), (3, .vcell 3 (.own 100 1)), (4, .vcell 4 (.own 101 2))] [_] (by kernel_rfl) ?_
  cases hv : validT t with
  | false =>
    have hc : canonT t = zeroT := by simp [canonT, hv]
    have hl : cloneT t = zeroT := by simp [cloneT, hv]
    exact LRun.code (E := E) (tbl_ok (T := [(14, [.tok 0], .val (.bool false)), (27, [.own 100 1, .term zeroT], .val (.bool true)), (27, [.own 101 2, .term zeroT], .val (.bool true)), (17, [], .val (.bool true))])
      ⟨hval _ hv, ent_same (t := canonT t) rfl rfl (by rw [hc]; exact same_self zero_valid), ent_same (t := cloneT t) rfl rfl (by rw [hl]; exact same_self zero_valid), aw, trivial⟩) _ (by kernel_rfl)
  | true =>
    have hl : cloneT t = t := by simp [cloneT, hv]
    have e6 : @Entry E 28 [.tok 0] (.tok 2) := ConT.ent (rclone_con t)
    have e7 : @Entry E 29 [.tok 0] (.tok 1) := ConT.ent (rcanon_con t)
    refine LRun.parts (E := E) [] trivial (tbl_ok (T := [(14, [.tok 0], .val (.bool true)), (28, [.tok 0], .tok 2), (29, [.tok 0], .tok 1), (27, [.own 100 1, .tok 1], .val (.bool true)), (27, [.own 101 2, .tok 2], .val (.bool true))])
      ⟨hval _ hv, e6, e7, ent_same (t := canonT t) (u := canonT t) rfl rfl (same_self (canon_valid hv)), ent_same (t := cloneT t) (u := cloneT t) rfl rfl (same_clone t), trivial⟩)
      [(1, .vcell 1 (.tok 0)), (3, .vcell 3 (.own 100 1)), (4, .vcell 4 (.own 101 2)), (5, .vcell 5 (.tok 2)), (6, .val (.bool true))] [_, _, _] (by kernel_rfl) ?_
    refine LRun.seq (LRun.spoil (E := E) (s := 3) (key := 100) (n := 1) rfl rfl rfl rfl rfl rfl rfl (by decide) (by decide) rfl) ?_
    refine LRun.seq (LRun.spoil (E := E) (s := 4) (key := 101) (n := 2) rfl rfl rfl rfl rfl rfl rfl (by decide) (by decide) rfl) ?_
    exact LRun.code (E := E) (tbl_ok (T := [(27, [.tok 0, .tok 2], .val (.bool true)), (17, [], .val (.bool true))]) ⟨ent_same (t := t) (u := cloneT t) rfl rfl (by rw [hl]; exact same_self hv), aw, trivial⟩) _ (by kernel_rfl)

end Go.Proofs.Ytgedgmdbpembiaa
