/-
  term.Var, Int, Atom, Struct, Indicator: the walks.
-/
import Derived.Test.YtgedgmdbpembiaaRp
namespace Go.Proofs.Ytgedgmdbpembiaa
open Go.RowKit Go.Maps
set_option linter.unusedVariables false

/-- The four cells of a term. -/
abbrev C4 (t : Tm) (A : Option Addr) (cap : Nat) : List Value := [.int .i64 t.kind, .int .i64 t.num, .string t.name, .slice A t.args.length cap]
abbrev VT (t : Tm) (A : Option Addr) (cap : Nat) : Value := .agg #[.int .i64 t.kind, .int .i64 t.num, .string t.name, .slice A t.args.length cap]

/-- A row of one, two, three terms. -/
theorem args1 {w : World} {B b : Nat} {cs : Array Value} {f : Nat × Nat} {t : Tm} {A : Option Addr} {cap : Nat} (hb : w.heap[b]? = some (.cells cs 24 f)) (hc : cs.toList = C4 t A cap) (ht : TmAt w B t (VT t A cap)) :
    ArgsAt w B [t] (some ⟨b, 0, none⟩) 0 := by
  have hcs : cs = (C4 t A cap).toArray := by rw [← hc]
  subst hcs
  unfold ArgsAt ArgsIn ArgsIn
  exact ⟨⟨b, 0, _, _, _, _, rfl, .inr ⟨_, _, hb⟩, cell_of_row _ _ 0 _ _ _ hb, cell_of_row _ _ 1 _ _ _ hb, cell_of_row _ _ 2 _ _ _ hb, cell_of_row _ _ 3 _ _ _ hb, ht⟩, trivial⟩

theorem args2 {w : World} {B b : Nat} {cs : Array Value} {f : Nat × Nat} {t t' : Tm} {A A' : Option Addr} {cap cap' : Nat} (hb : w.heap[b]? = some (.cells cs 24 f)) (hc : cs.toList = C4 t A cap ++ C4 t' A' cap')
    (ht : TmAt w B t (VT t A cap)) (ht' : TmAt w B t' (VT t' A' cap')) : ArgsAt w B [t, t'] (some ⟨b, 0, none⟩) 0 := by
  have hcs : cs = (C4 t A cap ++ C4 t' A' cap').toArray := by rw [← hc]
  subst hcs
  unfold ArgsAt ArgsIn ArgsIn ArgsIn
  exact ⟨⟨b, 0, _, _, _, _, rfl, .inr ⟨_, _, hb⟩, cell_of_row _ _ 0 _ _ _ hb, cell_of_row _ _ 1 _ _ _ hb, cell_of_row _ _ 2 _ _ _ hb, cell_of_row _ _ 3 _ _ _ hb, ht⟩,
    ⟨b, 0, _, _, _, _, rfl, .inr ⟨_, _, hb⟩, cell_of_row _ _ 4 _ _ _ hb, cell_of_row _ _ 5 _ _ _ hb, cell_of_row _ _ 6 _ _ _ hb, cell_of_row _ _ 7 _ _ _ hb, ht'⟩, trivial⟩

theorem args3 {w : World} {B b : Nat} {cs : Array Value} {f : Nat × Nat} {t t' t'' : Tm} {A A' A'' : Option Addr} {cap cap' cap'' : Nat} (hb : w.heap[b]? = some (.cells cs 24 f)) (hc : cs.toList = C4 t A cap ++ C4 t' A' cap' ++ C4 t'' A'' cap'')
    (ht : TmAt w B t (VT t A cap)) (ht' : TmAt w B t' (VT t' A' cap')) (ht'' : TmAt w B t'' (VT t'' A'' cap'')) : ArgsAt w B [t, t', t''] (some ⟨b, 0, none⟩) 0 := by
  have hcs : cs = (C4 t A cap ++ C4 t' A' cap' ++ C4 t'' A'' cap'').toArray := by rw [← hc]
  subst hcs
  unfold ArgsAt ArgsIn ArgsIn ArgsIn ArgsIn
  exact ⟨⟨b, 0, _, _, _, _, rfl, .inr ⟨_, _, hb⟩, cell_of_row _ _ 0 _ _ _ hb, cell_of_row _ _ 1 _ _ _ hb, cell_of_row _ _ 2 _ _ _ hb, cell_of_row _ _ 3 _ _ _ hb, ht⟩,
    ⟨b, 0, _, _, _, _, rfl, .inr ⟨_, _, hb⟩, cell_of_row _ _ 4 _ _ _ hb, cell_of_row _ _ 5 _ _ _ hb, cell_of_row _ _ 6 _ _ _ hb, cell_of_row _ _ 7 _ _ _ hb, ht'⟩,
    ⟨b, 0, _, _, _, _, rfl, .inr ⟨_, _, hb⟩, cell_of_row _ _ 8 _ _ _ hb, cell_of_row _ _ 9 _ _ _ hb, cell_of_row _ _ 10 _ _ _ hb, cell_of_row _ _ 11 _ _ _ hb, ht''⟩, trivial⟩

theorem mk_at {w : World} {B : Nat} {k n : Int} {s : ByteArray} {l : List Tm} {A : Option Addr} {cap : Nat} (h1 : wf64 k) (h2 : wf64 n) (h3 : s.size ≤ 140737488351232) (h5 : l.length ≤ cap) (h6 : l.length ≤ 140737488351232) (hm : cap ≤ maxLen) (h : ArgsAt w B l A 0) :
    TmAt w B (.mk k n s l) (.agg #[.int .i64 k, .int .i64 n, .string s, .slice A l.length cap]) := by
  unfold TmAt TmIn
  exact ⟨A, l.length, cap, rfl, h1, h2, h3, rfl, h5, h6, hm, h⟩

theorem flat_new {w : World} {B : Nat} {k n : Int} {s : ByteArray} (h1 : wf64 k) (h2 : wf64 n) (h3 : s.size ≤ 140737488351232) : TmNew w B (.mk k n s []) (.agg #[.int .i64 k, .int .i64 n, .string s, .slice none 0 0]) := by
  unfold TmNew TmIn
  exact ⟨none, 0, 0, rfl, h1, h2, h3, rfl, by simp, by simp, by unfold maxLen; omega, by unfold ArgsIn; trivial⟩

def varT (n : Int) : Tm := if numB n then .mk 0 n ⟨#[]⟩ [] else zeroT
def intT (n : Int) : Tm := .mk 1 n ⟨#[]⟩ []
def atomT (s : ByteArray) : Tm := cloneT (.mk 2 0 s [])
def structT (s : ByteArray) (l : List Tm) : Tm := if l.length = 0 then atomT s else cloneT (.mk 3 0 s l)

theorem var_any (n : Int) (w : World) (h : wf64 n) : Calls Try.prog 40 #[.int .i64 n] w fun e w' => ∃ u, e = .returned u ∧ TmNew w' w.heap.size (varT n) u ∧ But Nil w w' := by
  have hk1 : But Nil w (w.alloc (TB zeroT none 0)) := (But.refl _ _).alloc _
  go_enter Try.func40, Try.ntmps40
  go_wp2_with fail
  refine (number_any n _).mono ?_
  rintro e w1 ⟨rfl, hb1⟩
  have hk2 := hk1.trans_nil hb1
  have hz := hb1.heap id (heap_new (w := w) (o := TB zeroT none 0) rfl)
  obtain ⟨p0, p1, p2, p3⟩ := blk4 hz
  have f0 := frz hz
  cases hv : numB n
  · have Hset := Lib.hid (set4 (a' := .int .i64 0) (b' := .int .i64 0) (c' := .string ⟨#[]⟩) (d' := .slice none 0 0) hz)
    have Hv := Lib.hid hv
    clear hz hv
    go_wp2_with fail
    obtain ⟨r0, r1, r2, r3⟩ := blk4 Hset.out
    have hb4 := (But.refl (· = w.heap.size) w1).set4 (.inl rfl) (.int .i64 0) (.int .i64 0) (.string ⟨#[]⟩) (.slice none 0 0)
    refine bodyPost_ret (v := .agg #[.int .i64 0, .int .i64 0, .string ⟨#[]⟩, .slice none 0 0]) (by simp [results, Try.results40, go_sem, r0, r1, r2, r3]) rfl ?_
    exact ⟨_, rfl, by simp only [varT, Hv.out]; exact zero_new _ _, hk2.trans hb4 fun i hi _ => .inr (by subst hi; omega)⟩
  · have Hset := Lib.hid (set4 (a' := .int .i64 0) (b' := .int .i64 n) (c' := .string ⟨#[]⟩) (d' := .slice none 0 0) hz)
    have Hv := Lib.hid hv
    clear hz hv
    go_wp2_with fail
    obtain ⟨r0, r1, r2, r3⟩ := blk4 Hset.out
    have hb4 := (But.refl (· = w.heap.size) w1).set4 (.inl rfl) (.int .i64 0) (.int .i64 n) (.string ⟨#[]⟩) (.slice none 0 0)
    refine bodyPost_ret (v := .agg #[.int .i64 0, .int .i64 n, .string ⟨#[]⟩, .slice none 0 0]) (by simp [results, Try.results40, go_sem, r0, r1, r2, r3]) rfl ?_
    exact ⟨_, rfl, by simp only [varT, Hv.out, if_true]; exact flat_new (by unfold wf64; omega) h (by decide), hk2.trans hb4 fun i hi _ => .inr (by subst hi; omega)⟩

theorem int_any (n : Int) (w : World) (h : wf64 n) : Calls Try.prog 44 #[.int .i64 n] w fun e w' => ∃ u, e = .returned u ∧ TmNew w' w.heap.size (intT n) u ∧ But Nil w w' := by
  go_enter Try.func44, Try.ntmps44
  go_wp2_with fail
  exact bodyPost_ret (v := .agg #[.int .i64 1, .int .i64 n, .string ⟨#[]⟩, .slice none 0 0]) (by simp [results, Try.results44, go_sem]) rfl
    ⟨_, rfl, flat_new (by unfold wf64; omega) h (by decide), (But.refl _ _).alloc _⟩

set_option maxHeartbeats 400000 in
theorem atom_any (s : ByteArray) (w : World) (h : s.size ≤ 140737488351232) : Calls Try.prog 46 #[.string s] w fun e w' => ∃ u, e = .returned u ∧ TmNew w' w.heap.size (atomT s) u ∧ But Nil w w' := by
  have hk1 : But Nil w (w.alloc (TB zeroT none 0)) := (But.refl _ _).alloc _
  go_enter Try.func46, Try.ntmps46
  go_wp2_with fail
  refine (clone_any (.mk 2 0 s []) _ _ ((flat_new (B := 0) (by unfold wf64; omega) (by unfold wf64; omega) h).at_ _)).mono ?_
  rintro e w1 ⟨u, rfl, hnew, hb1⟩
  obtain ⟨A2, cap2, hu, -⟩ := hnew.form
  have hk2 := hk1.trans_nil hb1
  have hz := hb1.heap id (heap_new (w := w) (o := TB zeroT none 0) rfl)
  obtain ⟨p0, p1, p2, p3⟩ := blk4 hz
  have f0 := frz hz
  have Hset := Lib.hid (set4 (a' := .int .i64 (cloneT (.mk 2 0 s [])).kind) (b' := .int .i64 (cloneT (.mk 2 0 s [])).num) (c' := .string (cloneT (.mk 2 0 s [])).name) (d' := .slice A2 (cloneT (.mk 2 0 s [])).args.length cap2) hz)
  have Hu := Lib.hid hu
  rw [hu]
  clear hz hu
  go_wp2_with fail
  obtain ⟨r0, r1, r2, r3⟩ := blk4 Hset.out
  have hb4 := (But.refl (· = w.heap.size) w1).set4 (.inl rfl) (.int .i64 (cloneT (.mk 2 0 s [])).kind) (.int .i64 (cloneT (.mk 2 0 s [])).num) (.string (cloneT (.mk 2 0 s [])).name) (.slice A2 (cloneT (.mk 2 0 s [])).args.length cap2)
  refine bodyPost_ret (v := VT (cloneT (.mk 2 0 s [])) A2 cap2) (by simp [results, Try.results46, go_sem, r0, r1, r2, r3]) rfl ?_
  rw [VT, ← Hu.out]
  exact ⟨_, rfl, hnew.far hb4 (fun k hk => .inl (by subst hk; simp)) (by simp), hk2.trans hb4 fun i hi _ => .inr (by subst hi; omega)⟩

set_option maxHeartbeats 400000 in
theorem struct_any (s : ByteArray) (l : List Tm) (A : Option Addr) (cap : Nat) (w : World) (h : s.size ≤ 140737488351232) (h5 : l.length ≤ cap) (h6 : l.length ≤ 140737488351232) (hm : cap ≤ maxLen) (hl : ArgsAt w w.heap.size l A 0) :
    Calls Try.prog 42 #[.string s, .slice A l.length cap] w fun e w' => ∃ u, e = .returned u ∧ TmNew w' w.heap.size (structT s l) u ∧ But Nil w w' := by
  have hk1 : But Nil w (w.alloc (TB zeroT none 0)) := (But.refl _ _).alloc _
  by_cases h0 : l.length = 0
  · have h0' : ((l.length : Int) == 0) = true := by simpa using h0
    have H0 := Lib.hid h0
    clear h0
    go_enter Try.func42, Try.ntmps42
    go_wp2_with fail
    refine (atom_any s _ h).mono ?_
    rintro e w1 ⟨u, rfl, hnew, hb1⟩
    obtain ⟨A2, cap2, hu, -⟩ := hnew.form
    have hk2 := hk1.trans_nil hb1
    have hz := hb1.heap id (heap_new (w := w) (o := TB zeroT none 0) rfl)
    obtain ⟨p0, p1, p2, p3⟩ := blk4 hz
    have f0 := frz hz
    have Hset := Lib.hid (set4 (a' := .int .i64 (atomT s).kind) (b' := .int .i64 (atomT s).num) (c' := .string (atomT s).name) (d' := .slice A2 (atomT s).args.length cap2) hz)
    have Hu := Lib.hid hu
    rw [hu]
    clear hz hu
    go_wp2_with fail
    obtain ⟨r0, r1, r2, r3⟩ := blk4 Hset.out
    have hb4 := (But.refl (· = w.heap.size) w1).set4 (.inl rfl) (.int .i64 (atomT s).kind) (.int .i64 (atomT s).num) (.string (atomT s).name) (.slice A2 (atomT s).args.length cap2)
    refine bodyPost_ret (v := VT (atomT s) A2 cap2) (by simp [results, Try.results42, go_sem, r0, r1, r2, r3]) rfl ?_
    rw [VT, ← Hu.out]
    exact ⟨_, rfl, by simp only [structT, if_pos H0.out]; exact hnew.far hb4 (fun k hk => .inl (by subst hk; simp)) (by simp), hk2.trans hb4 fun i hi _ => .inr (by subst hi; omega)⟩
  · have h0' : ((l.length : Int) == 0) = false := by simpa using h0
    have H0 := Lib.hid h0
    clear h0
    go_enter Try.func42, Try.ntmps42
    go_wp2_with fail
    refine (clone_any (.mk 3 0 s l) _ _ (TmAt.nil (mk_at (by unfold wf64; omega) (by unfold wf64; omega) h h5 h6 hm hl) hk1)).mono ?_
    rintro e w1 ⟨u, rfl, hnew, hb1⟩
    obtain ⟨A2, cap2, hu, -⟩ := hnew.form
    have hk2 := hk1.trans_nil hb1
    have hz := hb1.heap id (heap_new (w := w) (o := TB zeroT none 0) rfl)
    obtain ⟨p0, p1, p2, p3⟩ := blk4 hz
    have f0 := frz hz
    have Hset := Lib.hid (set4 (a' := .int .i64 (cloneT (.mk 3 0 s l)).kind) (b' := .int .i64 (cloneT (.mk 3 0 s l)).num) (c' := .string (cloneT (.mk 3 0 s l)).name) (d' := .slice A2 (cloneT (.mk 3 0 s l)).args.length cap2) hz)
    have Hu := Lib.hid hu
    rw [hu]
    clear hz hu
    go_wp2_with fail
    obtain ⟨r0, r1, r2, r3⟩ := blk4 Hset.out
    have hb4 := (But.refl (· = w.heap.size) w1).set4 (.inl rfl) (.int .i64 (cloneT (.mk 3 0 s l)).kind) (.int .i64 (cloneT (.mk 3 0 s l)).num) (.string (cloneT (.mk 3 0 s l)).name) (.slice A2 (cloneT (.mk 3 0 s l)).args.length cap2)
    refine bodyPost_ret (v := VT (cloneT (.mk 3 0 s l)) A2 cap2) (by simp [results, Try.results42, go_sem, r0, r1, r2, r3]) rfl ?_
    rw [VT, ← Hu.out]
    exact ⟨_, rfl, by simp only [structT, if_neg H0.out]; exact hnew.far hb4 (fun k hk => .inl (by subst hk; simp)) (by simp), hk2.trans hb4 fun i hi _ => .inr (by subst hi; omega)⟩

end Go.Proofs.Ytgedgmdbpembiaa
