/-
  term.Clone: the walk.
-/
import Derived.Test.YtloekfnlidclcaaAp
namespace Go.Proofs.Ytloekfnlidclcaa
open Go.RowKit
set_option linter.unusedVariables false

def zeroT : Tm := .mk 0 0 ⟨#[]⟩ []

theorem var_args {t : Tm} (hk : t.kind = 0) (h : nodeB t = true) : t.args = [] := by
  cases t with
  | mk k n s l =>
    simp only [Tm.kind] at hk
    subst hk
    simp [nodeB] at h
    show l = []
    exact h.2

theorem TmNew.flat {w : World} {B : Nat} {t : Tm} {A : Option Addr} {cap : Nat} (h0 : t.args = []) (h1 : wf64 t.kind) (h2 : wf64 t.num) (h3 : t.name.size ≤ 140737488351232) (hc : t.args.length ≤ cap) (hm : cap ≤ maxLen) :
    TmNew w B t (.agg #[.int .i64 t.kind, .int .i64 t.num, .string t.name, .slice A t.args.length cap]) := by
  cases t with
  | mk k n s l =>
    simp only [Tm.args] at h0 ⊢
    subst h0
    unfold TmNew TmIn
    exact ⟨A, 0, cap, rfl, h1, h2, h3, rfl, by simp, by simp, hm, by unfold ArgsIn; trivial⟩

theorem zero_new (w : World) (B : Nat) : TmNew w B zeroT (.agg #[.int .i64 0, .int .i64 0, .string ⟨#[]⟩, .slice none 0 0]) := by
  unfold TmNew TmIn zeroT
  exact ⟨none, 0, 0, rfl, by unfold wf64; omega, by unfold wf64; omega, by decide, rfl, by simp, by simp, by unfold maxLen; omega, by unfold ArgsIn; trivial⟩

set_option maxHeartbeats 400000 in
theorem clone1_any (t : Tm) (w : World) (v : Value) (B : Nat) (hk : t.kind = 0) (hn : nodeB t = true) (h : TmAt w B t v) :
    Calls Try.prog 82 #[v] w fun e w' => ∃ u, e = .returned u ∧ TmNew w' w.heap.size t u ∧ But Nil w w' := by
  have h0 := var_args hk hn
  obtain ⟨A, cap, rfl, h1, h2, h3, h5, h6, hm, h7⟩ := h.form
  have Hk := Lib.hid hk
  have H0 := Lib.hid h0
  clear hk h0
  have hb2 : But Nil w ((w.alloc (TB t A cap)).alloc (TB zeroT none 0)) := ((But.refl _ _).alloc _).alloc _
  go_enter Try.func82, Try.ntmps82
  go_wp2_with fail
  exact bodyPost_ret (v := .agg #[.int .i64 t.kind, .int .i64 t.num, .string t.name, .slice A t.args.length cap]) (by simp [results, Try.results82, go_sem]) rfl
    ⟨_, rfl, TmNew.flat H0.out h1 h2 h3 h5 hm, ((But.refl _ _).alloc _).alloc _⟩

theorem clone1_enter (args : Array Value) (w : World) : (callFunc 82 args).run Try.prog w = .ok (.enter 82 args) w := by kernel_rfl

def idG : Unit → Tm → Unit × Tm := fun _ t => ((), t)

theorem appT_id (t : Tm) : appT idG () t = ((), t) := by
  induction t using Tm.ind with
  | h k n s l ih =>
    have : ∀ l : List Tm, (∀ a ∈ l, appT idG () a = ((), a)) → appL idG () l = ((), l) := by
      intro l
      induction l with
      | nil => intro _; rfl
      | cons t l ihl =>
        intro h
        simp only [appL]
        rw [h t (by simp), ihl (fun a ha => h a (by simp [ha]))]
    unfold appT
    split
    · rfl
    · rw [this l ih]

theorem clone1_clo (B : Nat) : Clo 82 #[] idG (fun _ _ => True) B where
  call s t w v hk hn hB ht _ := (clone1_any t w v B hk hn ht).mono fun e w' ⟨u, he, hu, hb⟩ => ⟨u, he, hu, trivial, hb.of_nil⟩
  enter := clone1_enter
  keep _ _ _ _ _ := trivial

def cloneT (t : Tm) : Tm := if validT t then t else zeroT

theorem valid_fits {t : Tm} (h : validT t = true) : fitsT t = true := by
  simp only [validT, Bool.and_eq_true] at h
  exact h.2

set_option maxHeartbeats 400000 in
theorem clone_any (t : Tm) (w : World) (v : Value) (h : TmAt w w.heap.size t v) :
    Calls Try.prog 62 #[v] w fun e w' => ∃ u, e = .returned u ∧ TmNew w' w.heap.size (cloneT t) u ∧ But Nil w w' := by
  obtain ⟨A, cap, rfl, -⟩ := h.form
  have hk1 : But Nil w ((w.alloc (TB t A cap)).alloc (TB zeroT none 0)) := ((But.refl _ _).alloc _).alloc _
  go_enter Try.func62, Try.ntmps62
  go_wp2_with fail
  refine (valid_any t _ _ (h.nil hk1)).mono ?_
  rintro e w1 ⟨rfl, hb1⟩
  have hk2 := hk1.trans_nil hb1
  obtain ⟨q0, q1, q2, q3⟩ := new4 (((But.refl Nil _).alloc _).trans_nil hb1) (w := w) id
  have hz := hb1.heap id (heap_new (w := w.alloc (TB t A cap)) (o := TB zeroT none 0) (k := w.heap.size + 1) (by simp))
  cases hv : validT t
  · have Hv := Lib.hid hv
    obtain ⟨p0, p1, p2, p3⟩ := blk4 hz
    have f0 := frz hz
    have hset := set4 (a' := .int .i64 0) (b' := .int .i64 0) (c' := .string ⟨#[]⟩) (d' := .slice none 0 0) hz
    have Hset := Lib.hid hset
    clear hset hz hv
    go_wp2_with fail
    obtain ⟨r0, r1, r2, r3⟩ := blk4 Hset.out
    have hb4 := (But.refl (· = w.heap.size + 1) w1).set4 (.inl rfl) (.int .i64 0) (.int .i64 0) (.string ⟨#[]⟩) (.slice none 0 0)
    refine bodyPost_ret (v := .agg #[.int .i64 0, .int .i64 0, .string ⟨#[]⟩, .slice none 0 0]) (by simp [results, Try.results62, go_sem, r0, r1, r2, r3]) rfl
      ⟨_, rfl, by simp only [cloneT, Hv.out]; exact zero_new _ _, hk2.trans hb4 fun i hi _ => .inr (by subst hi; omega)⟩
  · have Hv := Lib.hid hv
    have Hz := Lib.hid hz
    clear hv hz
    go_wp2_with fail
    refine (apply_any (clone1_clo w1.heap.size) t () _ _ (h.nil hk2) (valid_fits Hv.out) (Nat.le_refl _) trivial).mono ?_
    rw [appT_id]
    rintro e w2 ⟨u, rfl, hnew, -, hb2⟩
    obtain ⟨A1, cap1, hu, -⟩ := hnew.form
    have hS : ∀ k, Off w1.heap.size w1 k → ¬ k < w1.heap.size := fun k hk hl => by have := hk.1; omega
    have hz2 := hb2.heap (fun hs => hs.2 ⟨_, _, Hz.out⟩) Hz.out
    obtain ⟨p0, p1, p2, p3⟩ := blk4 hz2
    have f0 := frz hz2
    have hset := set4 (a' := .int .i64 t.kind) (b' := .int .i64 t.num) (c' := .string t.name) (d' := .slice A1 t.args.length cap1) hz2
    have Hset := Lib.hid hset
    have Hu := Lib.hid hu
    have hlt := lt_of_heap Hz.out
    have hbn : But Nil w1 w2 := hb2.mono fun i hi hlt => hS i hi hlt
    rw [hu]
    clear hset hz2 hu
    go_wp2_with fail
    obtain ⟨r0, r1, r2, r3⟩ := blk4 Hset.out
    have hb4 := (But.refl (· = w.heap.size + 1) w2).set4 (.inl rfl) (.int .i64 t.kind) (.int .i64 t.num) (.string t.name) (.slice A1 t.args.length cap1)
    refine bodyPost_ret (v := .agg #[.int .i64 t.kind, .int .i64 t.num, .string t.name, .slice A1 t.args.length cap1]) (by simp [results, Try.results62, go_sem, r0, r1, r2, r3]) rfl ?_
    rw [← Hu.out]
    exact ⟨_, rfl, by simp only [cloneT, Hv.out]; exact hnew.far hb4 (fun k hk => .inl (by subst hk; exact hlt)) hk2.size, (hk2.trans_nil hbn).trans hb4 fun i hi _ => .inr (by subst hi; omega)⟩

end Go.Proofs.Ytloekfnlidclcaa

