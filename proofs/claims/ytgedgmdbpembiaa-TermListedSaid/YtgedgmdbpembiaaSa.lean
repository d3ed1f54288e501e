/-
  Same, in the program, in the reference and in the law: the walks.
-/
import Derived.Test.YtgedgmdbpembiaaId
namespace Go.Proofs.Ytgedgmdbpembiaa
open Go.RowKit
set_option linter.unusedVariables false

theorem eqL_refl_of : ∀ {l : List Tm}, (∀ a ∈ l, eqT a a = true) → eqL l l = true
  | [], _ => rfl
  | a :: l, h => by
    simp only [eqL, Bool.and_eq_true]
    exact ⟨h a List.mem_cons_self, eqL_refl_of fun b hb => h b (List.mem_cons_of_mem _ hb)⟩

theorem eqT_refl (t : Tm) : eqT t t = true := by
  induction t using Tm.ind with
  | h k n s l ih => simp [eqT, eqL_refl_of ih]

theorem eqL_of : ∀ {l l' : List Tm}, (∀ a ∈ l, ∀ u, eqT a u = true → a = u) → l.length = l'.length → eqL l l' = true → l = l'
  | [], [], _, _, _ => rfl
  | [], _ :: _, _, h, _ => by simp at h
  | _ :: _, [], _, h, _ => by simp at h
  | a :: l, b :: l', h, hl, he => by
    simp only [eqL, Bool.and_eq_true] at he
    rw [h a List.mem_cons_self b he.1, eqL_of (fun c hc => h c (List.mem_cons_of_mem _ hc)) (by simpa using hl) he.2]

theorem eqT_eq (t : Tm) : ∀ {u : Tm}, eqT t u = true → t = u := by
  induction t using Tm.ind with
  | h k n s l ih =>
    intro u h
    cases u with
    | mk k' n' s' l' =>
      simp only [eqT, Bool.and_eq_true, beq_iff_eq, decide_eq_true_eq] at h
      obtain ⟨⟨⟨⟨rfl, rfl⟩, rfl⟩, h4⟩, h5⟩ := h
      rw [eqL_of (fun a ha u => ih a ha) h4 h5]

theorem eqT_iff {t u : Tm} : eqT t u = true ↔ t = u := ⟨eqT_eq t, fun h => h ▸ eqT_refl t⟩

def sameT (t u : Tm) : Bool := validT t && validT u && eqT t u

set_option maxHeartbeats 400000 in
theorem same_any (t u : Tm) (w : World) (v v' : Value) (h : TmAt w w.heap.size t v) (h' : TmAt w w.heap.size u v') :
    Calls Try.prog 18 #[v, v'] w fun e w' => e = .returned (.bool (sameT t u)) ∧ But Nil w w' := by
  obtain ⟨A, cap, rfl, -⟩ := h.form
  obtain ⟨A', cap', rfl, -⟩ := h'.form
  have hk1 : But Nil w ((w.alloc (.cells #[.int .i64 t.kind, .int .i64 t.num, .string t.name, .slice A t.args.length cap] 24)).alloc (.cells #[.int .i64 u.kind, .int .i64 u.num, .string u.name, .slice A' u.args.length cap'] 24)) := ((But.refl _ _).alloc _).alloc _
  go_enter Try.func18, Try.ntmps18
  go_wp2_with fail
  refine (valid_any t _ _ (TmAt.keeps hk1.size hk1.keeps_nil _ h)).mono ?_
  rintro e w1 ⟨rfl, hb1⟩
  have hk2 := hk1.trans_nil hb1
  obtain ⟨q0, q1, q2, q3⟩ := new4 hb1 id
  obtain ⟨p0, p1, p2, p3⟩ := new4 (((But.refl Nil _).alloc _).trans_nil hb1) (w := w) id
  simp only [hsize] at q0 q1 q2 q3
  cases hv : validT t
  · have Hv := Lib.hid hv
    clear hv
    go_wp2_with fail
    go_ret
    exact ⟨ret_bool (by simp [sameT, Hv.out]), hk2⟩
  · have Hv := Lib.hid hv
    clear hv
    go_wp2_with fail
    refine (valid_any u _ _ (TmAt.keeps hk2.size hk2.keeps_nil _ h')).mono ?_
    rintro e w2 ⟨rfl, hb2⟩
    have hk3 := hk2.trans_nil hb2
    replace p0 := hb2.cell id p0
    replace p1 := hb2.cell id p1
    replace p2 := hb2.cell id p2
    replace p3 := hb2.cell id p3
    replace q0 := hb2.cell id q0
    replace q1 := hb2.cell id q1
    replace q2 := hb2.cell id q2
    replace q3 := hb2.cell id q3
    cases hu : validT u
    · have Hu := Lib.hid hu
      clear hu
      go_wp2_with fail
      go_ret
      exact ⟨ret_bool (by simp [sameT, Hv.out, Hu.out]), hk3⟩
    · have Hu := Lib.hid hu
      clear hu
      go_wp2_with fail
      refine (ident_any t u _ _ _ (TmAt.keeps hk3.size hk3.keeps_nil _ h) (TmAt.keeps hk3.size hk3.keeps_nil _ h')).mono ?_
      rintro e w3 ⟨rfl, hb3⟩
      have hk4 := hk3.trans_nil hb3
      go_wp2_with fail
      go_ret
      exact ⟨ret_bool (by simp [sameT, Hv.out, Hu.out]), hk4⟩

end Go.Proofs.Ytgedgmdbpembiaa
