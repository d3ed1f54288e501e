/-
  Same, in the program, in the reference and in the law: the walks.
-/
import Derived.Test.YtgedgmdbpembiaaId
namespace Go.Proofs.Ytgedgmdbpembiaa
open Go.RowKit
set_option linter.unusedVariables false

def sameT (t u : Tm) : Bool := validT t && validT u && eqT t u

set_option maxHeartbeats 400000 in
theorem same_any (t u : Tm) (w : World) (v v' : Value) (h : TmAt w w.heap.size t v) (h' : TmAt w w.heap.size u v') :
    Calls Try.prog 18 #[v, v'] w fun e w' => e = .returned (.bool (sameT t u)) ∧ But Nil w w' := by
  obtain ⟨A, cap, rfl, -⟩ := h.form
  obtain ⟨A', cap', rfl, -⟩ := h'.form
  have hk1 : But Nil w ((w.alloc (.cells #[.int .i64 t.kind, .int .i64 t.num, .string t.name, .slice A t.args.length cap] 24)).alloc (.cells #[.int .i64 u.kind, .int .i64 u.num, .string u.name, .slice A' u.args.length cap'] 24)) := ((But.refl _ _).alloc _).alloc _
  go_enter Try.func18, Try.ntmps18
  go_wp2_with fail
  refine (valid_any t _ _ (TmAt.keeps hk1.size hk1.keeps_nil _ h)).mono ?_
  rintro e w1 ⟨rfl, hb1⟩
  have hk2 := hk1.trans_nil hb1
  obtain ⟨q0, q1, q2, q3⟩ := new4 hb1 id
  obtain ⟨p0, p1, p2, p3⟩ := new4 (((But.refl Nil _).alloc _).trans_nil hb1) (w := w) id
  simp only [hsize] at q0 q1 q2 q3
  cases hv : validT t
  · have Hv := Lib.hid hv
    clear hv
    go_wp2_with fail
    go_ret
    exact ⟨ret_bool (by simp [sameT, Hv.out]), hk2⟩
  · have Hv := Lib.hid hv
    clear hv
    go_wp2_with fail
    refine (valid_any u _ _ (TmAt.keeps hk2.size hk2.keeps_nil _ h')).mono ?_
    rintro e w2 ⟨rfl, hb2⟩
    have hk3 := hk2.trans_nil hb2
    replace p0 := hb2.cell id p0
    replace p1 := hb2.cell id p1
    replace p2 := hb2.cell id p2
    replace p3 := hb2.cell id p3
    replace q0 := hb2.cell id q0
    replace q1 := hb2.cell id q1
    replace q2 := hb2.cell id q2
    replace q3 := hb2.cell id q3
    cases hu : validT u
    · have Hu := Lib.hid hu
      clear hu
      go_wp2_with fail
      go_ret
      exact ⟨ret_bool (by simp [sameT, Hv.out, Hu.out]), hk3⟩
    · have Hu := Lib.hid hu
      clear hu
      go_wp2_with fail
      refine (ident_any t u _ _ _ (TmAt.keeps hk3.size hk3.keeps_nil _ h) (TmAt.keeps hk3.size hk3.keeps_nil _ h')).mono ?_
      rintro e w3 ⟨rfl, hb3⟩
      have hk4 := hk3.trans_nil hb3
      go_wp2_with fail
      go_ret
      exact ⟨ret_bool (by simp [sameT, Hv.out, Hu.out]), hk4⟩

end Go.Proofs.Ytgedgmdbpembiaa
