/-
  The reference's Var, Int, Atom, Struct, Indicator: the walks. No condition.
-/
import Derived.Test.YtgedgmdbpembiaaNm
namespace Go.Proofs.Ytgedgmdbpembiaa
open Go.RowKit Go.Maps
set_option linter.unusedVariables false

abbrev put4 (w : World) (g : Nat) (t : Tm) (A : Option Addr) (cap : Nat) : World :=
  (((w.setCell ⟨g, 0, none⟩ (.int .i64 t.kind)).setCell ⟨g, 1, none⟩ (.int .i64 t.num)).setCell ⟨g, 2, none⟩ (.string t.name)).setCell ⟨g, 3, none⟩ (.slice A t.args.length cap)

/-- The pins without block g. -/
def unpin (p : Nat → Option Nat) (g : Nat) : Nat → Option Nat := fun b => if b = g then none else p b

/-- A term made into the result's cell. -/
theorem made {f : FuncId} {t u : Tm} (hT : ConT f t u) (p : Nat → Option Nat) {p2 : Nat → Option Nat} {w w0 : World} {v : Value} {g : Nat} (hg : w.heap[g]? = some (TB zeroT none 0)) (hx : Ext p w0 p2 w) (hgw : w0.heap.size ≤ g) (hv : TmIn w (fun b => p2 b = none ∧ b ≠ g) t v) :
    Calls Try.prog f #[v] w fun e w1 => ∃ A cap, e = .returned (VT u A cap) ∧ w1.heap[g]? = some (TB zeroT none 0) ∧ ∃ p', Ext p w0 p' (put4 w1 g u A cap) ∧ TmIn (put4 w1 g u A cap) (Fr p') u (VT u A cap) := by
  have hv' : TmIn w (Fr fun b => if b = g then some 0 else p2 b) t v := TmIn.keeps (fun k o hk hd => ⟨hk, by show (if k = g then some 0 else p2 k) = none; rw [if_neg hd.2]; exact hd.1⟩) _ hv
  refine (hT.call _ w v hv').mono ?_
  rintro e w1 ⟨x, p1, rfl, hx1, hu⟩
  obtain ⟨A, cap, rfl, -⟩ := hu.form
  have hgl := lt_of_heap hg
  have hp1 : p1 g = some 0 := by rw [hx1.pin g hgl, if_pos rfl]
  have hb := (But.refl (· = g) w1).set4 (k := g) (.inl rfl) (.int .i64 u.kind) (.int .i64 u.num) (.string u.name) (.slice A u.args.length cap)
  refine ⟨A, cap, rfl, hx1.but.heap id hg, unpin p1 g, ⟨(hx.but.trans_nil hx1.but).trans hb fun i hi _ => .inr (by subst hi; exact hgw), fun b hb' => ?_⟩, ?_⟩
  · have h1 := hx.but.size
    have hbg : b ≠ g := by omega
    unfold unpin
    rw [if_neg hbg, hx1.pin b (by omega), if_neg hbg]
    exact hx.pin b hb'
  · refine TmIn.keeps (fun k o hk hd => ?_) _ hu
    have hkg : k ≠ g := fun e => by rw [e] at hd; simp only [Fr] at hd; rw [hp1] at hd; cases hd
    exact ⟨hb.heap hkg hk, by show unpin p1 g k = none; unfold unpin; rw [if_neg hkg]; exact hd⟩

/-- A function that makes a term of values. -/
def MakesT (f : FuncId) (args : Array Value) (p : Nat → Option Nat) (w : World) (u : Tm) : Prop :=
  Calls Try.prog f args w fun e w' => ∃ x p', e = .returned x ∧ Ext p w p' w' ∧ TmIn w' (Fr p') u x

theorem mvar_any (n : Int) (p : Nat → Option Nat) (w : World) (h : wf64 n) : MakesT 43 #[.int .i64 n] p w (cloneT (.mk 0 n ⟨#[]⟩ [])) := by
  unfold MakesT
  have hflat : ∀ (w : World) (D : Nat → Prop), TmIn w D (.mk 0 n ⟨#[]⟩ []) (.agg #[.int .i64 0, .int .i64 n, .string ⟨#[]⟩, .slice none 0 0]) := fun w D => TmIn.keeps (fun k o hk hd => absurd hd.1 (by have := lt_of_heap hk; omega)) _ (flat_new (w := w) (B := w.heap.size) (by unfold wf64; omega) h (by decide))
  go_enter Try.func43, Try.ntmps43
  go_wp2_with fail
  refine (made (rvalidc_con _) p (g := w.heap.size) (heap_new rfl) ⟨(But.refl _ _).alloc _, fun _ _ => rfl⟩ (Nat.le_refl _) (hflat _ _)).mono ?_
  rintro e w1 ⟨A, cap, rfl, hz, p', hx, ht⟩
  obtain ⟨p0, p1, p2, p3⟩ := blk4 hz
  have f0 := frz hz
  have Hset := Lib.hid (set4 (a' := .int .i64 (cloneT (.mk 0 n ⟨#[]⟩ [])).kind) (b' := .int .i64 (cloneT (.mk 0 n ⟨#[]⟩ [])).num) (c' := .string (cloneT (.mk 0 n ⟨#[]⟩ [])).name) (d' := .slice A (cloneT (.mk 0 n ⟨#[]⟩ [])).args.length cap) hz)
  clear hz
  go_wp2_with fail
  obtain ⟨r0, r1, r2, r3⟩ := blk4 Hset.out
  exact bodyPost_ret (v := VT (cloneT (.mk 0 n ⟨#[]⟩ [])) A cap) (by simp [results, Try.results43, go_sem, r0, r1, r2, r3]) rfl ⟨_, p', rfl, hx, ht⟩

theorem mint_any (n : Int) (p : Nat → Option Nat) (w : World) (h : wf64 n) : MakesT 45 #[.int .i64 n] p w (intT n) := by
  unfold MakesT
  go_enter Try.func45, Try.ntmps45
  go_wp2_with fail
  exact bodyPost_ret (v := .agg #[.int .i64 1, .int .i64 n, .string ⟨#[]⟩, .slice none 0 0]) (by simp [results, Try.results45, go_sem]) rfl
    ⟨_, pin0 p w, rfl, Ext.plain ((But.refl _ _).alloc _), flat_in (by unfold wf64; omega) h (by decide) _ _⟩

theorem matom_any (s : ByteArray) (p : Nat → Option Nat) (w : World) (h : s.size ≤ 140737488351232) : MakesT 47 #[.string s] p w (atomT s) := by
  unfold MakesT
  go_enter Try.func47, Try.ntmps47
  go_wp2_with fail
  refine (made (rvalidc_con _) p (g := w.heap.size) (heap_new rfl) ⟨(But.refl _ _).alloc _, fun _ _ => rfl⟩ (Nat.le_refl _) (flat_in (k := 2) (n := 0) (s := s) (by unfold wf64; omega) (by unfold wf64; omega) h _ _)).mono ?_
  rintro e w1 ⟨A, cap, rfl, hz, p', hx, ht⟩
  obtain ⟨p0, p1, p2, p3⟩ := blk4 hz
  have f0 := frz hz
  have Hset := Lib.hid (set4 (a' := .int .i64 (cloneT (.mk 2 0 s [])).kind) (b' := .int .i64 (cloneT (.mk 2 0 s [])).num) (c' := .string (cloneT (.mk 2 0 s [])).name) (d' := .slice A (cloneT (.mk 2 0 s [])).args.length cap) hz)
  clear hz
  go_wp2_with fail
  obtain ⟨r0, r1, r2, r3⟩ := blk4 Hset.out
  exact bodyPost_ret (v := VT (cloneT (.mk 2 0 s [])) A cap) (by simp [results, Try.results47, go_sem, r0, r1, r2, r3]) rfl ⟨_, p', rfl, hx, ht⟩

/-- A contract of a maker, where its cell is made. -/
theorem made' {f : FuncId} {args : Array Value} {u : Tm} (hM : ∀ (p : Nat → Option Nat) (w : World), MakesT f args p w u) (p : Nat → Option Nat) {w w0 : World} {g : Nat} (hg : w.heap[g]? = some (TB zeroT none 0)) (hx : Ext p w0 p w) (hgw : w0.heap.size ≤ g) :
    Calls Try.prog f args w fun e w1 => ∃ A cap, e = .returned (VT u A cap) ∧ w1.heap[g]? = some (TB zeroT none 0) ∧ ∃ p', Ext p w0 p' (put4 w1 g u A cap) ∧ TmIn (put4 w1 g u A cap) (Fr p') u (VT u A cap) := by
  refine (hM (fun b => if b = g then some 0 else p b) w).mono ?_
  rintro e w1 ⟨x, p1, rfl, hx1, hu⟩
  obtain ⟨A, cap, rfl, -⟩ := hu.form
  have hgl := lt_of_heap hg
  have hp1 : p1 g = some 0 := by rw [hx1.pin g hgl, if_pos rfl]
  have hb := (But.refl (· = g) w1).set4 (k := g) (.inl rfl) (.int .i64 u.kind) (.int .i64 u.num) (.string u.name) (.slice A u.args.length cap)
  refine ⟨A, cap, rfl, hx1.but.heap id hg, unpin p1 g, ⟨(hx.but.trans_nil hx1.but).trans hb fun i hi _ => .inr (by subst hi; exact hgw), fun b hb' => ?_⟩, ?_⟩
  · have h1 := hx.but.size
    have hbg : b ≠ g := by omega
    unfold unpin
    rw [if_neg hbg, hx1.pin b (by omega), if_neg hbg]
  · refine TmIn.keeps (fun k o hk hd => ?_) _ hu
    have hkg : k ≠ g := fun e => by rw [e] at hd; simp only [Fr] at hd; rw [hp1] at hd; cases hd
    exact ⟨hb.heap hkg hk, by show unpin p1 g k = none; unfold unpin; rw [if_neg hkg]; exact hd⟩

set_option maxHeartbeats 400000 in
theorem mstruct_any (s : ByteArray) (l : List Tm) (A : Option Addr) (cap : Nat) (p : Nat → Option Nat) (w : World) (h : s.size ≤ 140737488351232) (h5 : l.length ≤ cap) (h6 : l.length ≤ 140737488351232) (hm : cap ≤ maxLen) (hl : ArgsIn w (Fr p) l A 0) :
    MakesT 48 #[.string s, .slice A l.length cap] p w (structT s l) := by
  unfold MakesT
  by_cases h0 : l.length = 0
  · have h0' : ((l.length : Int) == 0) = true := by simpa using h0
    have e1 : structT s l = atomT s := by simp [structT, h0]
    rw [e1]
    clear h0 e1
    go_enter Try.func48, Try.ntmps48
    go_wp2_with fail
    refine (made' (fun p w => matom_any s p w h) p (g := w.heap.size) (heap_new rfl) ⟨(But.refl _ _).alloc _, fun _ _ => rfl⟩ (Nat.le_refl _)).mono ?_
    rintro e w1 ⟨A1, cap1, rfl, hz, p', hx, ht⟩
    obtain ⟨p0, p1, p2, p3⟩ := blk4 hz
    have f0 := frz hz
    have Hset := Lib.hid (set4 (a' := .int .i64 (atomT s).kind) (b' := .int .i64 (atomT s).num) (c' := .string (atomT s).name) (d' := .slice A1 (atomT s).args.length cap1) hz)
    clear hz
    go_wp2_with fail
    obtain ⟨r0, r1, r2, r3⟩ := blk4 Hset.out
    exact bodyPost_ret (v := VT (atomT s) A1 cap1) (by simp [results, Try.results48, go_sem, r0, r1, r2, r3]) rfl ⟨_, p', rfl, hx, ht⟩
  · have h0' : ((l.length : Int) == 0) = false := by simpa using h0
    have e1 : structT s l = cloneT (.mk 3 0 s l) := by simp [structT, h0]
    rw [e1]
    clear h0 e1
    go_enter Try.func48, Try.ntmps48
    go_wp2_with fail
    have harg : TmIn (w.alloc (TB zeroT none 0)) (fun b => p b = none ∧ b ≠ w.heap.size) (.mk 3 0 s l) (.agg #[.int .i64 3, .int .i64 0, .string s, .slice A l.length cap]) := by
      unfold TmIn
      exact ⟨A, l.length, cap, rfl, by unfold wf64; omega, by unfold wf64; omega, h, rfl, h5, h6, hm, ArgsIn.keeps (fun k o hk hd => ⟨heap_old hk, hd, by have := lt_of_heap hk; omega⟩) hl⟩
    refine (made (rvalidc_con _) p (g := w.heap.size) (heap_new rfl) ⟨(But.refl _ _).alloc _, fun _ _ => rfl⟩ (Nat.le_refl _) harg).mono ?_
    rintro e w1 ⟨A1, cap1, rfl, hz, p', hx, ht⟩
    obtain ⟨p0, p1, p2, p3⟩ := blk4 hz
    have f0 := frz hz
    have Hset := Lib.hid (set4 (a' := .int .i64 (cloneT (.mk 3 0 s l)).kind) (b' := .int .i64 (cloneT (.mk 3 0 s l)).num) (c' := .string (cloneT (.mk 3 0 s l)).name) (d' := .slice A1 (cloneT (.mk 3 0 s l)).args.length cap1) hz)
    clear hz
    go_wp2_with fail
    obtain ⟨r0, r1, r2, r3⟩ := blk4 Hset.out
    exact bodyPost_ret (v := VT (cloneT (.mk 3 0 s l)) A1 cap1) (by simp [results, Try.results48, go_sem, r0, r1, r2, r3]) rfl ⟨_, p', rfl, hx, ht⟩

end Go.Proofs.Ytgedgmdbpembiaa
