/-
  term.Variant, term.Indicator: the walks.
-/
import Derived.Test.YtgedgmdbpembiaaMk
import Derived.Test.YtgedgmdbpembiaaPl
import Derived.Deep.RegionWith
namespace Go.Proofs.Ytgedgmdbpembiaa
open Go.RowKit Go.Maps
set_option linter.unusedVariables false

def variantT (t u : Tm) : Bool := validT t && validT u && eqT (canonT t) (canonT u)

set_option maxHeartbeats 1000000 in
theorem variant_any (t u : Tm) (w : World) (v v' : Value) (h : TmAt w w.heap.size t v) (h' : TmAt w w.heap.size u v') :
    Calls Try.prog 20 #[v, v'] w fun e w' => e = .returned (.bool (variantT t u)) ∧ But Nil w w' := by
  obtain ⟨A, cap, rfl, -⟩ := h.form
  obtain ⟨A', cap', rfl, -⟩ := h'.form
  have hk1 : But Nil w ((w.alloc (TB t A cap)).alloc (TB u A' cap')) := ((But.refl _ _).alloc _).alloc _
  have ht := heap_old (o := TB u A' cap') (heap_new (w := w) (o := TB t A cap) rfl)
  have hu := heap_new (w := w.alloc (TB t A cap)) (o := TB u A' cap') (k := w.heap.size + 1) (by simp)
  have HT := Lib.hid h
  have HU := Lib.hid h'
  have Ht := Lib.hid ht
  have Hu := Lib.hid hu
  have KS : ∀ W, But Nil ((w.alloc (TB t A cap)).alloc (TB u A' cap')) W → (W.cell? ⟨w.heap.size, 0, none⟩ = some (.int .i64 t.kind) ∧ W.cell? ⟨w.heap.size, 1, none⟩ = some (.int .i64 t.num) ∧ W.cell? ⟨w.heap.size, 2, none⟩ = some (.string t.name) ∧ W.cell? ⟨w.heap.size, 3, none⟩ = some (.slice A t.args.length cap)) ∧
      W.cell? ⟨w.heap.size + 1, 0, none⟩ = some (.int .i64 u.kind) ∧ W.cell? ⟨w.heap.size + 1, 1, none⟩ = some (.int .i64 u.num) ∧ W.cell? ⟨w.heap.size + 1, 2, none⟩ = some (.string u.name) ∧ W.cell? ⟨w.heap.size + 1, 3, none⟩ = some (.slice A' u.args.length cap') := fun W hb =>
    ⟨blk4 (hb.heap id Ht.out), blk4 (hb.heap id Hu.out)⟩
  have KK := Lib.hid KS
  clear h h' ht hu KS
  have hkd := Lib.hid (But.refl Nil ((w.alloc (TB t A cap)).alloc (TB u A' cap'))).drew
  go_enter Try.func20, Try.ntmps20
  cases hv : validT t
  · have Hv := Lib.hid hv
    go_wp2_with fail
    go_region_with (go_at_call_of 13 (Value.slice A t.args.length cap); refine (valid_any t _ _ (HT.out.nil hk1.drew)).mono ?_; rintro e w1 ⟨rfl, hb1⟩; simp only [hv])
    all_goals
      go_wp2_with fail
      go_ret
      exact ⟨ret_bool (by simp [variantT, hv]), hk1.drew.trans_nil hb1⟩
  · cases hv2 : validT u
    · go_wp2_with fail
      go_region_with (first
        | (go_at_call_of 13 (Value.slice A t.args.length cap); refine (valid_any t _ _ (HT.out.nil hk1.drew)).mono ?_; rintro e w1 ⟨rfl, hb1⟩; simp only [hv]; have hkw1 := hkd.out.trans_nil hb1; obtain ⟨⟨x0, x1, x2, x3⟩, y0, y1, y2, y3⟩ := KK.out _ hkw1)
        | (go_at_call_of 13 (Value.slice A' u.args.length cap'); refine (valid_any u _ _ (HU.out.nil (hk1.trans_nil hkw1))).mono ?_; rintro e w2 ⟨rfl, hb2⟩; simp only [hv2]))
      all_goals
        go_wp2_with fail
        go_ret
        exact ⟨ret_bool (by simp [variantT, hv2]), (hk1.trans_nil hkw1).trans_nil hb2⟩
    · go_wp2_with fail
      go_region_with (first
        | (go_at_call_of 13 (Value.slice A t.args.length cap); refine (valid_any t _ _ (HT.out.nil hk1.drew)).mono ?_; rintro e w1 ⟨rfl, hb1⟩; simp only [hv]; have hkw1 := hkd.out.trans_nil hb1; obtain ⟨⟨x0, x1, x2, x3⟩, y0, y1, y2, y3⟩ := KK.out _ hkw1)
        | (go_at_call_of 13 (Value.slice A' u.args.length cap'); refine (valid_any u _ _ (HU.out.nil (hk1.trans_nil hkw1))).mono ?_; rintro e w2 ⟨rfl, hb2⟩; simp only [hv2]; have hkw2 := hkw1.trans_nil hb2; obtain ⟨⟨x0, x1, x2, x3⟩, y0, y1, y2, y3⟩ := KK.out _ hkw2)
        | (go_at_call_of 22 (Value.slice A t.args.length cap); refine (canon_any t _ _ (HT.out.nil (hk1.trans_nil hkw2))).mono ?_; rintro e w3 ⟨c3, rfl, hn3, hb3⟩; have hkw3 := hkw2.trans_nil hb3; obtain ⟨⟨x0, x1, x2, x3⟩, y0, y1, y2, y3⟩ := KK.out _ hkw3)
        | (go_at_call_of 22 (Value.slice A' u.args.length cap'); refine (canon_any u _ _ (HU.out.nil (hk1.trans_nil hkw3))).mono ?_; rintro e w4 ⟨c4, rfl, hn4, hb4⟩; have hkw4 := hkw3.trans_nil hb4)
        | (go_at_call 58; refine (ident_any (canonT t) (canonT u) _ _ _ ((hn3.at_ _).nil hb4) (hn4.at_ _)).mono ?_; rintro e w5 ⟨rfl, hb5⟩; have hkw5 := hkw4.trans_nil hb5))
      all_goals
        go_wp2_with fail
        go_ret
        exact ⟨ret_bool (by simp [variantT, hv, hv2]), hk1.trans_nil hkw5⟩

end Go.Proofs.Ytgedgmdbpembiaa
