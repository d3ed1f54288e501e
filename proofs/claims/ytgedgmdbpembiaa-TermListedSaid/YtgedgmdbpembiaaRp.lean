/-
  term.Replace: the walk.
-/
import Derived.Test.YtgedgmdbpembiaaRn
import Derived.Deep.DeepCutAuto
namespace Go.Proofs.Ytgedgmdbpembiaa
open Go.RowKit Go.Maps
set_option linter.unusedVariables false

/-- The first function of Replace counts. -/
def repS (v d : Int) : Int → Tm → Int × Tm := fun s t => (if t.num = v then wrap64 (s + d) else s, t)
/-- The second puts the term in. -/
def repG (v : Int) (by_ : Tm) : Unit → Tm → Unit × Tm := fun _ t => ((), if t.num = v then cloneT by_ else t)

def InvS (pv ps pe : Nat) (v d s : Int) (w : World) : Prop :=
  w.heap[pv]? = some (.cells #[.int .i64 v] 2 (0, 0)) ∧ w.heap[ps]? = some (.cells #[.int .i64 s] 3 (0, 0)) ∧ w.heap[pe]? = some (.cells #[.int .i64 d] 3 (0, 0)) ∧ pe ≠ ps

set_option maxHeartbeats 400000 in
theorem rep1_any (t : Tm) (w : World) (u : Value) (B pv ps pe : Nat) (v d s : Int) (hk : t.kind = 0) (hn : nodeB t = true) (h : TmAt w B t u) (hB : B ≤ ps) (hI : InvS pv ps pe v d s w) :
    Calls Try.prog 70 #[u, .pointer (some ⟨pv, 0, none⟩), .pointer (some ⟨ps, 0, none⟩), .pointer (some ⟨pe, 0, none⟩)] w fun e w' => ∃ u, e = .returned u ∧ TmNew w' w.heap.size (repS v d s t).2 u ∧ InvS pv ps pe v d (repS v d s t).1 w' ∧ But (Off B w) w w' := by
  have h0 := var_args hk hn
  obtain ⟨A, cap, rfl, h1, h2, h3, h5, h6, hm, h7⟩ := h.form
  obtain ⟨hv, hs, he, hne⟩ := hI
  have hvl := lt_of_heap hv
  have hsl := lt_of_heap hs
  have hel := lt_of_heap he
  have hvc := cell_of_one hv
  have hsc := cell_of_one hs
  have hec := cell_of_one he
  have hsf := free_of_one hs
  have hst : ¬ TBlk w ps := by rintro ⟨c, f, hc⟩; rw [hs] at hc; cases hc
  have hvs : pv ≠ ps := by rintro rfl; rw [hv] at hs; injection hs with hs; injection hs with _ hs _; cases hs
  have Hv := Lib.hid hv
  have Hs := Lib.hid hs
  have He := Lib.hid he
  have H0 := Lib.hid h0
  clear hv hs he hk hn h0 h
  by_cases hin : t.num = v
  · have hin2 : (t.num == v) = true := by simpa using hin
    have Hin := Lib.hid hin
    clear hin
    go_enter Try.func70, Try.ntmps70
    go_wp2_with fail
    refine bodyPost_ret (v := .agg #[.int .i64 t.kind, .int .i64 t.num, .string t.name, .slice A t.args.length cap]) (by simp [results, Try.results70, go_sem]) rfl
      ⟨_, rfl, TmNew.flat H0.out h1 h2 h3 h5 hm, ?_, ?_⟩
    · have hb1 := (But.refl (· = ps) w).setCell (p := ⟨ps, 0, none⟩) (.inl rfl) (.int .i64 (wrap64 (s + d)))
      have hb2 := (hb1.alloc (TB t A cap)).alloc (TB t A cap)
      simp only [repS, if_pos Hin.out]
      exact ⟨hb2.heap hvs Hv.out, heap_old (heap_old (one_setCell Hs.out)), hb2.heap hne He.out, hne⟩
    · have hb1 := (But.refl (Off B w) w).setCell (p := ⟨ps, 0, none⟩) (.inl ⟨hB, hst⟩) (.int .i64 (wrap64 (s + d)))
      exact (hb1.alloc (TB t A cap)).alloc (TB t A cap)
  · have hin2 : (t.num == v) = false := by simpa using hin
    have Hin := Lib.hid hin
    clear hin
    go_enter Try.func70, Try.ntmps70
    go_wp2_with fail
    refine bodyPost_ret (v := .agg #[.int .i64 t.kind, .int .i64 t.num, .string t.name, .slice A t.args.length cap]) (by simp [results, Try.results70, go_sem]) rfl
      ⟨_, rfl, TmNew.flat H0.out h1 h2 h3 h5 hm, ?_, ?_⟩
    · have hb2 := ((But.refl Nil w).alloc (TB t A cap)).alloc (TB t A cap)
      simp only [repS, if_neg Hin.out]
      exact ⟨hb2.heap id Hv.out, hb2.heap id Hs.out, hb2.heap id He.out, hne⟩
    · exact ((But.refl _ w).alloc (TB t A cap)).alloc (TB t A cap)

theorem rep1_enter (args : Array Value) (w : World) : (callFunc 70 args).run Try.prog w = .ok (.enter 70 args) w := by kernel_rfl

theorem rep1_clo (B pv ps pe : Nat) (v d : Int) (hB : B ≤ ps) :
    Clo 70 #[.pointer (some ⟨pv, 0, none⟩), .pointer (some ⟨ps, 0, none⟩), .pointer (some ⟨pe, 0, none⟩)] (repS v d) (InvS pv ps pe v d) B where
  call s t w u hk hn _ ht hI := rep1_any t w u B pv ps pe v d s hk hn ht hB hI
  enter := rep1_enter
  keep _ _ _ hI hb := by
    obtain ⟨hv, hs, he, hne⟩ := hI
    exact ⟨hb.heap (fun ⟨_, c, f, hc⟩ => by rw [hv] at hc; injection hc with hc; injection hc with _ hc; cases hc) hv,
      hb.heap (fun ⟨_, c, f, hc⟩ => by rw [hs] at hc; injection hc with hc; injection hc with _ hc; cases hc) hs,
      hb.heap (fun ⟨_, c, f, hc⟩ => by rw [he] at hc; injection hc with hc; injection hc with _ hc; cases hc) he, hne⟩

/-- The term that is put in lies below B. -/
def InvB (B pv pb : Nat) (v : Int) (by_ : Tm) (w : World) : Prop :=
  w.heap[pv]? = some (.cells #[.int .i64 v] 2 (0, 0)) ∧ pb < B ∧ B ≤ w.heap.size ∧ ∃ A cap, w.heap[pb]? = some (TB by_ A cap) ∧ TmIn w (fun b => b < B) by_ (.agg #[.int .i64 by_.kind, .int .i64 by_.num, .string by_.name, .slice A by_.args.length cap])

set_option maxHeartbeats 400000 in
theorem rep2_any (t by_ : Tm) (w : World) (u : Value) (B pv pb : Nat) (v : Int) (hk : t.kind = 0) (hn : nodeB t = true) (h : TmAt w B t u) (hI : InvB B pv pb v by_ w) :
    Calls Try.prog 71 #[u, .pointer (some ⟨pv, 0, none⟩), .pointer (some ⟨pb, 0, none⟩)] w fun e w' => ∃ u, e = .returned u ∧ TmNew w' w.heap.size (repG v by_ () t).2 u ∧ But Nil w w' := by
  have h0 := var_args hk hn
  obtain ⟨A, cap, rfl, h1, h2, h3, h5, h6, hm, h7⟩ := h.form
  obtain ⟨hv, hpB, hBw, A1, cap1, hb, hby⟩ := hI
  have hvl := lt_of_heap hv
  have hbl := lt_of_heap hb
  have hvc := cell_of_one hv
  obtain ⟨c0, c1, c2, c3⟩ := blk4 hb
  have H0 := Lib.hid h0
  clear hv hb hk hn h0 h
  by_cases hin : t.num = v
  · have hin2 : (t.num == v) = true := by simpa using hin
    have Hin := Lib.hid hin
    clear hin
    have hk1 : But Nil w ((w.alloc (TB t A cap)).alloc (TB zeroT none 0)) := ((But.refl _ _).alloc _).alloc _
    have hl1 : pb < w.heap.size + 1 := by omega
    go_enter Try.func71, Try.ntmps71
    go_wp2_with fail
    refine (clone_any by_ _ _ (TmIn.keeps (fun k o hk hd => ⟨hk1.heap id hk, .inl (by have := hk1.size; omega)⟩) _ hby)).mono ?_
    rintro e w1 ⟨u, rfl, hnew, hb1⟩
    obtain ⟨A2, cap2, hu, -⟩ := hnew.form
    have hk2 := hk1.trans_nil hb1
    have hz := hb1.heap id (heap_new (w := w.alloc (TB t A cap)) (o := TB zeroT none 0) (k := w.heap.size + 1) (by simp))
    obtain ⟨p0, p1, p2, p3⟩ := blk4 hz
    have f0 := frz hz
    have Hset := Lib.hid (set4 (a' := .int .i64 (cloneT by_).kind) (b' := .int .i64 (cloneT by_).num) (c' := .string (cloneT by_).name) (d' := .slice A2 (cloneT by_).args.length cap2) hz)
    have Hu := Lib.hid hu
    rw [hu]
    clear hz hu
    go_wp2_with fail
    obtain ⟨r0, r1, r2, r3⟩ := blk4 Hset.out
    have hb4 := (But.refl (· = w.heap.size + 1) w1).set4 (.inl rfl) (.int .i64 (cloneT by_).kind) (.int .i64 (cloneT by_).num) (.string (cloneT by_).name) (.slice A2 (cloneT by_).args.length cap2)
    refine bodyPost_ret (v := .agg #[.int .i64 (cloneT by_).kind, .int .i64 (cloneT by_).num, .string (cloneT by_).name, .slice A2 (cloneT by_).args.length cap2])
      (by simp [results, Try.results71, go_sem, r0, r1, r2, r3]) rfl ?_
    rw [← Hu.out]
    simp only [repG, if_pos Hin.out]
    exact ⟨_, rfl, hnew.far hb4 (fun k hk => .inl (by subst hk; simp)) (by simp; omega), hk2.trans hb4 fun i hi _ => .inr (by subst hi; omega)⟩
  · have hin2 : (t.num == v) = false := by simpa using hin
    have Hin := Lib.hid hin
    clear hin
    go_enter Try.func71, Try.ntmps71
    go_wp2_with fail
    refine bodyPost_ret (v := .agg #[.int .i64 t.kind, .int .i64 t.num, .string t.name, .slice A t.args.length cap]) (by simp [results, Try.results71, go_sem]) rfl
      ⟨_, rfl, ?_, ((But.refl _ w).alloc (TB t A cap)).alloc (TB t A cap)⟩
    simp only [repG, if_neg Hin.out]
    exact TmNew.flat H0.out h1 h2 h3 h5 hm

theorem rep2_enter (args : Array Value) (w : World) : (callFunc 71 args).run Try.prog w = .ok (.enter 71 args) w := by kernel_rfl

theorem InvB.but {S : Nat → Prop} {B pv pb : Nat} {v : Int} {by_ : Tm} {w w' : World} (h : InvB B pv pb v by_ w) (hb : But S w w') (hv : ¬ S pv) (hS : ∀ k, S k → B ≤ k) : InvB B pv pb v by_ w' := by
  obtain ⟨h1, h2, h3, A, cap, h4, h5⟩ := h
  exact ⟨hb.heap hv h1, h2, by have := hb.size; omega, A, cap, hb.heap (fun hs => by have := hS _ hs; omega) h4, TmIn.keeps (fun k o hk hd => ⟨hb.heap (fun hs => by have := hS _ hs; omega) hk, hd⟩) _ h5⟩

theorem rep2_clo (B pv pb : Nat) (v : Int) (by_ : Tm) : Clo 71 #[.pointer (some ⟨pv, 0, none⟩), .pointer (some ⟨pb, 0, none⟩)] (repG v by_) (fun _ => InvB B pv pb v by_) B where
  call s t w u hk hn _ ht hI := (rep2_any t by_ w u B pv pb v hk hn ht hI).mono fun e w' ⟨u, he, hu, hb⟩ => ⟨u, he, hu, hI.but hb id (fun _ h => h.elim), hb.of_nil⟩
  enter := rep2_enter
  keep _ _ _ hI hb := hI.but hb (fun ⟨_, c, f, hc⟩ => by rw [hI.1] at hc; injection hc with hc; injection hc with _ hc; cases hc) (fun k hk => hk.1)

theorem But.setNew {a w : World} (h : But Nil a w) {k i : Nat} (hk : a.heap.size ≤ k) {u : Value} : But Nil a (w.setCell ⟨k, i, none⟩ u) := h.setCell (p := ⟨k, i, none⟩) (.inr hk) u

theorem size_bd (t : Tm) : 1 ≤ sizeT t ∧ sizeT t ≤ 2001 := by
  have := left_bd t 2001 (by omega)
  unfold sizeT
  omega

def replaceT (t : Tm) (v : Int) (by_ : Tm) : Tm × Int :=
  if validT t && numB v && validT by_ then if 2000 < (appT (repS v (sizeT by_ - 1)) (sizeT t) t).1 then (zeroT, 2) else ((appT (repG v by_) () t).2, 0) else (zeroT, 1)

set_option maxHeartbeats 4000000 in
theorem replace_any (t by_ : Tm) (v : Int) (w : World) (x y : Value) (h : TmAt w w.heap.size t x) (h' : TmAt w w.heap.size by_ y) :
    Calls Try.prog 33 #[x, .int .i64 v, y] w fun e w' => ∃ u, e = .returned (.tuple #[u, .int .i64 (replaceT t v by_).2]) ∧ TmNew w' w.heap.size (replaceT t v by_).1 u ∧ But Nil w w' := by
  obtain ⟨A, cap, rfl, -⟩ := h.form
  obtain ⟨A', cap', rfl, -⟩ := h'.form
  have hk1 : But Nil w ((((w.alloc (TB t A cap)).alloc (.cells #[.int .i64 v] 2)).alloc (TB by_ A' cap')).alloc (TB zeroT none 0)) := ((((But.refl _ _).alloc _).alloc _).alloc _).alloc _
  go_enter Try.func33, Try.ntmps33
  go_wp2_with fail
  refine (valid_any t _ _ (h.nil hk1)).mono ?_
  rintro e w1 ⟨rfl, hb1⟩
  have hk2 := hk1.trans_nil hb1
  have ht := hb1.heap id (heap_old (heap_old (heap_old (heap_new (w := w) (o := TB t A cap) rfl))))
  have hn := hb1.heap id (heap_old (heap_old (heap_new (w := w.alloc (TB t A cap)) (o := .cells #[.int .i64 v] 2) (k := w.heap.size + 1) (by simp))))
  have hby := hb1.heap id (heap_old (heap_new (w := (w.alloc (TB t A cap)).alloc (.cells #[.int .i64 v] 2)) (o := TB by_ A' cap') (k := w.heap.size + 1 + 1) (by simp)))
  have hz := hb1.heap id (heap_new (w := ((w.alloc (TB t A cap)).alloc (.cells #[.int .i64 v] 2)).alloc (TB by_ A' cap')) (o := TB zeroT none 0) (k := w.heap.size + 1 + 1 + 1) (by simp))
  have hfail : ∀ wf, But Nil w wf → wf.heap[w.heap.size + 1 + 1 + 1]? = some (TB zeroT none 0) → replaceT t v by_ = (zeroT, 1) → True := fun _ _ _ _ => trivial
  clear hfail
  cases hv : validT t
  · have e1 : replaceT t v by_ = (zeroT, 1) := by simp [replaceT, hv]
    have He1 := Lib.hid e1
    have Hv := Lib.hid hv
    obtain ⟨p0, p1, p2, p3⟩ := blk4 hz
    have f0 := frz hz
    have Hset := Lib.hid (set4 (a' := .int .i64 0) (b' := .int .i64 0) (c' := .string ⟨#[]⟩) (d' := .slice none 0 0) hz)
    clear ht hn hby hz hv e1
    go_wp2_with fail
    obtain ⟨r0, r1, r2, r3⟩ := blk4 Hset.out
    have hb4 := (But.refl (· = w.heap.size + 1 + 1 + 1) w1).set4 (.inl rfl) (.int .i64 0) (.int .i64 0) (.string ⟨#[]⟩) (.slice none 0 0)
    refine bodyPost_ret (v := .tuple #[.agg #[.int .i64 0, .int .i64 0, .string ⟨#[]⟩, .slice none 0 0], .int .i64 1]) (by simp [results, Try.results33, go_sem, r0, r1, r2, r3]) rfl ?_
    rw [He1.out]
    exact ⟨_, rfl, zero_new _ _, hk2.trans hb4 fun i hi _ => .inr (by subst hi; omega)⟩
  have Hv := Lib.hid hv
  have hnc := cell_of_one hn
  have Ht := Lib.hid ht
  have Hn := Lib.hid hn
  have Hby := Lib.hid hby
  have Hz := Lib.hid hz
  clear ht hn hby hz hv
  go_wp2_with fail
  refine (number_any v _).mono ?_
  rintro e w2 ⟨rfl, hb2⟩
  have hk3 := hk2.trans_nil hb2
  have hz := hb2.heap id Hz.out
  have hn := hb2.heap id Hn.out
  have ht := hb2.heap id Ht.out
  have hby := hb2.heap id Hby.out
  clear hnc Ht Hn Hby Hz
  cases hv : numB v
  · have e1 : replaceT t v by_ = (zeroT, 1) := by simp [replaceT, hv]
    have He1 := Lib.hid e1
    have Hv2 := Lib.hid hv
    obtain ⟨p0, p1, p2, p3⟩ := blk4 hz
    have f0 := frz hz
    have Hset := Lib.hid (set4 (a' := .int .i64 0) (b' := .int .i64 0) (c' := .string ⟨#[]⟩) (d' := .slice none 0 0) hz)
    clear ht hn hby hz hv e1
    go_wp2_with fail
    obtain ⟨r0, r1, r2, r3⟩ := blk4 Hset.out
    have hb4 := (But.refl (· = w.heap.size + 1 + 1 + 1) w2).set4 (.inl rfl) (.int .i64 0) (.int .i64 0) (.string ⟨#[]⟩) (.slice none 0 0)
    refine bodyPost_ret (v := .tuple #[.agg #[.int .i64 0, .int .i64 0, .string ⟨#[]⟩, .slice none 0 0], .int .i64 1]) (by simp [results, Try.results33, go_sem, r0, r1, r2, r3]) rfl ?_
    rw [He1.out]
    exact ⟨_, rfl, zero_new _ _, hk3.trans hb4 fun i hi _ => .inr (by subst hi; omega)⟩
  have Hv2 := Lib.hid hv
  obtain ⟨b0, b1, b2, b3⟩ := blk4 hby
  have Ht := Lib.hid ht
  have Hn := Lib.hid hn
  have Hby := Lib.hid hby
  have Hz := Lib.hid hz
  clear ht hn hby hz hv
  go_wp2_with fail
  refine (valid_any by_ _ _ (h'.nil hk3)).mono ?_
  rintro e w3 ⟨rfl, hb3⟩
  have hk4 := hk3.trans_nil hb3
  have hz := hb3.heap id Hz.out
  have hn := hb3.heap id Hn.out
  have ht := hb3.heap id Ht.out
  have hby := hb3.heap id Hby.out
  clear b0 b1 b2 b3 Ht Hn Hby Hz
  cases hv : validT by_
  · have e1 : replaceT t v by_ = (zeroT, 1) := by simp [replaceT, hv]
    have He1 := Lib.hid e1
    have Hv3 := Lib.hid hv
    obtain ⟨p0, p1, p2, p3⟩ := blk4 hz
    have f0 := frz hz
    have Hset := Lib.hid (set4 (a' := .int .i64 0) (b' := .int .i64 0) (c' := .string ⟨#[]⟩) (d' := .slice none 0 0) hz)
    clear ht hn hby hz hv e1
    go_wp2_with fail
    obtain ⟨r0, r1, r2, r3⟩ := blk4 Hset.out
    have hb4 := (But.refl (· = w.heap.size + 1 + 1 + 1) w3).set4 (.inl rfl) (.int .i64 0) (.int .i64 0) (.string ⟨#[]⟩) (.slice none 0 0)
    refine bodyPost_ret (v := .tuple #[.agg #[.int .i64 0, .int .i64 0, .string ⟨#[]⟩, .slice none 0 0], .int .i64 1]) (by simp [results, Try.results33, go_sem, r0, r1, r2, r3]) rfl ?_
    rw [He1.out]
    exact ⟨_, rfl, zero_new _ _, hk4.trans hb4 fun i hi _ => .inr (by subst hi; omega)⟩
  have Hv3 := Lib.hid hv
  obtain ⟨b0, b1, b2, b3⟩ := blk4 hby
  obtain ⟨t0, t1, t2, t3⟩ := blk4 ht
  have Ht := Lib.hid ht
  have Hn := Lib.hid hn
  have Hby := Lib.hid hby
  have Hz := Lib.hid hz
  clear ht hn hby hz hv
  go_upto_region 3 with fail
  go_cut [8, 9] (fun x8 x9 wc => ∃ g8 g9, x8 = .pointer (some ⟨g8, 0, none⟩) ∧ x9 = .pointer (some ⟨g9, 0, none⟩) ∧ wc.heap[g8]? = some (.cells #[.int .i64 (sizeT t)] 3 (0, 0)) ∧ wc.heap[g9]? = some (.cells #[.int .i64 (sizeT by_ - 1)] 3 (0, 0)) ∧ g9 ≠ g8 ∧ w3.heap.size ≤ g8 ∧ But Nil w3 wc)
  case first =>
    have hl3 := lt_of_heap Hz.out
    have keepS : ∀ W, But Nil w3 W → (W.cell? ⟨w.heap.size, 0, none⟩ = some (.int .i64 t.kind) ∧ W.cell? ⟨w.heap.size, 1, none⟩ = some (.int .i64 t.num) ∧ W.cell? ⟨w.heap.size, 2, none⟩ = some (.string t.name) ∧ W.cell? ⟨w.heap.size, 3, none⟩ = some (.slice A t.args.length cap) ∧
        W.cell? ⟨w.heap.size + 1 + 1, 0, none⟩ = some (.int .i64 by_.kind) ∧ W.cell? ⟨w.heap.size + 1 + 1, 1, none⟩ = some (.int .i64 by_.num) ∧ W.cell? ⟨w.heap.size + 1 + 1, 2, none⟩ = some (.string by_.name) ∧ W.cell? ⟨w.heap.size + 1 + 1, 3, none⟩ = some (.slice A' by_.args.length cap')) := fun W hb => by
      obtain ⟨x0, x1, x2, x3⟩ := blk4 (hb.heap id Ht.out)
      obtain ⟨y0, y1, y2, y3⟩ := blk4 (hb.heap id Hby.out)
      exact ⟨x0, x1, x2, x3, y0, y1, y2, y3⟩
    have KS := Lib.hid keepS
    clear keepS
    have hsb := size_bd by_
    have hl31 : w.heap.size < w3.heap.size := by omega
    have hl32 : w.heap.size + 1 + 1 < w3.heap.size := by omega
    go_region_held3 (fun w' => w'.cell? ⟨w.heap.size, 0, none⟩ = some (.int .i64 t.kind) ∧ w'.cell? ⟨w.heap.size, 1, none⟩ = some (.int .i64 t.num) ∧ w'.cell? ⟨w.heap.size, 2, none⟩ = some (.string t.name) ∧ w'.cell? ⟨w.heap.size, 3, none⟩ = some (.slice A t.args.length cap) ∧
        w'.cell? ⟨w.heap.size + 1 + 1, 0, none⟩ = some (.int .i64 by_.kind) ∧ w'.cell? ⟨w.heap.size + 1 + 1, 1, none⟩ = some (.int .i64 by_.num) ∧ w'.cell? ⟨w.heap.size + 1 + 1, 2, none⟩ = some (.string by_.name) ∧ w'.cell? ⟨w.heap.size + 1 + 1, 3, none⟩ = some (.slice A' by_.args.length cap'))
      (first
        | (refine KS.out _ ?_; repeat (first | exact hb6' | exact hb5' | exact But.refl _ _ | apply But.drew | apply But.alloc | (refine But.setNew ?_ ?_) | omega | (simp; omega))))
      (first
        | (go_at_call_of 15 (Value.slice A t.args.length cap); refine (size_any t _ _ (h.nil (hk4.trans_nil ?_))).mono ?_; (repeat (first | exact But.refl _ _ | apply But.drew | apply But.alloc)); rintro e w5 ⟨rfl, hb5⟩
           have hb5' := But.trans_nil (by repeat (first | exact But.refl Nil w3 | apply But.drew | apply But.alloc)) hb5
           have hz5 : w3.heap.size ≤ w5.heap.size := hb5'.size
           have hv5 := hb5.size
           try simp at hv5
           try (refine (fun (za : w5.heap[w3.heap.size]? = some (.cells #[.int .i64 0] 3 (0, 0))) => ?_) ?_; rotate_left; (focus ((repeat (first | exact heap_new rfl | (refine heap_new ?_; simp; done) | (refine hb5.heap id ?_) | (refine heap_old ?_))); done)); have zac := cell_of_one za; have zaf := free_of_one za; have zal := lt_of_heap za; have zah := Lib.hid za; clear za)
           try (refine (fun (zb : w5.heap[w3.heap.size + 1]? = some (.cells #[.int .i64 0] 3 (0, 0))) => ?_) ?_; rotate_left; (focus ((repeat (first | exact heap_new rfl | (refine heap_new ?_; simp; done) | (refine hb5.heap id ?_) | (refine heap_old ?_))); done)); have zbc := cell_of_one zb; have zbf := free_of_one zb; have zbl := lt_of_heap zb; have zbh := Lib.hid zb; clear zb))
        | (go_at_call_of 15 (Value.slice A' by_.args.length cap'); refine (size_any by_ _ _ (h'.nil (hk4.trans_nil ?_))).mono ?_; (repeat (first | exact hb5' | apply But.drew | apply But.alloc)); rintro e w6 ⟨rfl, hb6⟩
           have hb6' := But.trans_nil (by repeat (first | exact hb5' | apply But.drew | apply But.alloc)) hb6
           try clear zac zaf zal
           try clear zbc zbf zbl
           have hz6 : w3.heap.size ≤ w6.heap.size := hb6'.size
           have hv6 := hb6.size
           try simp at hv6
           try (refine (fun (ya : w6.heap[w3.heap.size]? = some (.cells #[.int .i64 0] 3 (0, 0))) => ?_) ?_; rotate_left; (focus ((repeat (first | exact heap_new rfl | (refine heap_new ?_; simp; done) | (refine hb6.heap id ?_) | (refine hb5.heap id ?_) | (refine heap_old ?_))); done)); have yac := cell_of_one ya; have yaf := free_of_one ya; have yal := lt_of_heap ya; have yah := Lib.hid ya; clear ya)
           try (refine (fun (yb : w6.heap[w3.heap.size + 1]? = some (.cells #[.int .i64 0] 3 (0, 0))) => ?_) ?_; rotate_left; (focus ((repeat (first | exact heap_new rfl | (refine heap_new ?_; simp; done) | (refine hb6.heap id ?_) | (refine hb5.heap id ?_) | (refine heap_old ?_))); done)); have ybc := cell_of_one yb; have ybf := free_of_one yb; have ybl := lt_of_heap yb; have ybh := Lib.hid yb; clear yb)
           try (refine (fun (yc : w6.heap[w5.heap.size]? = some (.cells #[.int .i64 0] 3 (0, 0))) => ?_) ?_; rotate_left; (focus ((repeat (first | exact heap_new rfl | (refine heap_new ?_; simp; done) | (refine hb6.heap id ?_) | (refine heap_old ?_))); done)); have ycc := cell_of_one yc; have ycf := free_of_one yc; have ycl := lt_of_heap yc; have ych := Lib.hid yc; clear yc)
           try (refine (fun (yd : w6.heap[w5.heap.size + 1]? = some (.cells #[.int .i64 0] 3 (0, 0))) => ?_) ?_; rotate_left; (focus ((repeat (first | exact heap_new rfl | (refine heap_new ?_; simp; done) | (refine hb6.heap id ?_) | (refine heap_old ?_))); done)); have ydc := cell_of_one yd; have ydf := free_of_one yd; have ydl := lt_of_heap yd; have ydh := Lib.hid yd; clear yd)))
    all_goals
      go_wp2_with fail
      go_meet
      have hwr : IntKind.i64.wrap (sizeT by_ - 1) = sizeT by_ - 1 := IntWalk.i64_in _ (by omega)
      simp only [hwr]
      refine ⟨_, _, rfl, rfl, ?_, ?_, ?_, ?_, ?_⟩
      · repeat (first | exact yah.out | exact ybh.out | exact ych.out | exact ydh.out | exact heap_new rfl | (refine heap_new ?_; simp; done) | (apply set1) | (refine set_ne ?_ ?_) | (refine heap_old ?_) | omega | (simp; omega))
      · repeat (first | exact yah.out | exact ybh.out | exact ych.out | exact ydh.out | exact heap_new rfl | (refine heap_new ?_; simp; done) | (apply set1) | (refine set_ne ?_ ?_) | (refine heap_old ?_) | omega | (simp; omega))
      · first | omega | (simp; omega)
      · first | omega | (simp; omega)
      · repeat (first | exact hb6' | exact hb5' | exact But.refl _ _ | apply But.drew | apply But.alloc | (refine But.setNew ?_ ?_) | omega | (simp; omega))
  case rest =>
    obtain ⟨g8, g9, rfl, rfl, h8, h9, hne, hg, hbc⟩ := hcut
    have hk5 := hk4.trans_nil hbc
    have hz := hbc.heap id Hz.out
    have hn := hbc.heap id Hn.out
    have ht := hbc.heap id Ht.out
    have hby := hbc.heap id Hby.out
    have hl3 := lt_of_heap Hz.out
    have h8w := lt_of_heap h8
    obtain ⟨x0, x1, x2, x3⟩ := blk4 ht
    have HI : Hid (InvS (w.heap.size + 1) g8 g9 v (sizeT by_ - 1) (sizeT t) wc) := ⟨hn, h8, h9, hne⟩
    have Ht4 := Lib.hid ht
    have Hn4 := Lib.hid hn
    have Hby4 := Lib.hid hby
    have Hz4 := Lib.hid hz
    clear ht hn hby hz b0 b1 b2 b3 t0 t1 t2 t3 h8 h9
    go_wp2_with fail
    refine (apply_any (rep1_clo w3.heap.size (w.heap.size + 1) g8 g9 v (sizeT by_ - 1) hg) t (sizeT t) _ _ (TmAt.keeps hk4.size hk5.keeps_nil _ h) (valid_fits Hv.out) hbc.size HI.out).mono ?_
    rintro e w4 ⟨u, rfl, hnew, hI4, hb4⟩
    have hof : ∀ k, Off w3.heap.size wc k → w3.heap.size ≤ k := fun k hk => hk.1
    have hk6 : But Nil w w4 := hk5.trans hb4 fun i hi _ => .inr (by have := hof i hi; omega)
    obtain ⟨hn, h8, h9, -⟩ := hI4
    have h8c := cell_of_one h8
    have h8l := lt_of_heap h8
    have hz := hb4.heap (fun hs => by have := hof _ hs; omega) Hz4.out
    have ht := hb4.heap (fun hs => by have := hof _ hs; omega) Ht4.out
    have hby := hb4.heap (fun hs => by have := hof _ hs; omega) Hby4.out
    have Hn5 := Lib.hid hn
    have Hz5 := Lib.hid hz
    have Hby5 := Lib.hid hby
    clear x0 x1 x2 x3
    by_cases hbig : 2000 < (appT (repS v (sizeT by_ - 1)) (sizeT t) t).1
    · have e1 : replaceT t v by_ = (zeroT, 2) := by simp [replaceT, Hv.out, Hv2.out, Hv3.out, hbig]
      have He1 := Lib.hid e1
      obtain ⟨p0, p1, p2, p3⟩ := blk4 hz
      have f0 := frz hz
      have Hset := Lib.hid (set4 (a' := .int .i64 0) (b' := .int .i64 0) (c' := .string ⟨#[]⟩) (d' := .slice none 0 0) hz)
      clear ht hn hby hz e1 h8 h9
      go_wp2_with fail
      obtain ⟨r0, r1, r2, r3⟩ := blk4 Hset.out
      have hb5 := (But.refl (· = w.heap.size + 1 + 1 + 1) w4).set4 (.inl rfl) (.int .i64 0) (.int .i64 0) (.string ⟨#[]⟩) (.slice none 0 0)
      refine bodyPost_ret (v := .tuple #[.agg #[.int .i64 0, .int .i64 0, .string ⟨#[]⟩, .slice none 0 0], .int .i64 2]) (by simp [results, Try.results33, go_sem, r0, r1, r2, r3]) rfl ?_
      rw [He1.out]
      exact ⟨_, rfl, zero_new _ _, hk6.trans hb5 fun i hi _ => .inr (by subst hi; omega)⟩
    · have e1 : replaceT t v by_ = ((appT (repG v by_) () t).2, 0) := by simp [replaceT, Hv.out, Hv2.out, Hv3.out, hbig]
      have He1 := Lib.hid e1
      obtain ⟨x0, x1, x2, x3⟩ := blk4 ht
      have hl4 := lt_of_heap hz
      clear ht hn hby hz e1 h8 h9
      go_wp2_with fail
      have hIB : InvB w4.heap.size (w.heap.size + 1) (w.heap.size + 1 + 1) v by_ w4 := ⟨Hn5.out, by omega, Nat.le_refl _, A', cap', Hby5.out, (h'.nil hk6).lt⟩
      refine (apply_any (rep2_clo w4.heap.size (w.heap.size + 1) (w.heap.size + 1 + 1) v by_) t () _ _ (h.nil hk6) (valid_fits Hv.out) (Nat.le_refl _) hIB).mono ?_
      rintro e w5 ⟨u, rfl, hnew, -, hb5⟩
      obtain ⟨A2, cap2, hu, -⟩ := hnew.form
      have hk7 : But Nil w w5 := hk6.trans hb5 fun i hi _ => .inr (by have := hi.1; omega)
      have hz6 := hb5.heap (fun hs => by have := hs.1; omega) Hz5.out
      obtain ⟨p0, p1, p2, p3⟩ := blk4 hz6
      have f0 := frz hz6
      have Hset := Lib.hid (set4 (a' := .int .i64 (appT (repG v by_) () t).2.kind) (b' := .int .i64 (appT (repG v by_) () t).2.num) (c' := .string (appT (repG v by_) () t).2.name) (d' := .slice A2 (appT (repG v by_) () t).2.args.length cap2) hz6)
      have Hu := Lib.hid hu
      rw [hu]
      clear hz6 hu
      go_wp2_with fail
      obtain ⟨r0, r1, r2, r3⟩ := blk4 Hset.out
      have hb6 := (But.refl (· = w.heap.size + 1 + 1 + 1) w5).set4 (.inl rfl) (.int .i64 (appT (repG v by_) () t).2.kind) (.int .i64 (appT (repG v by_) () t).2.num) (.string (appT (repG v by_) () t).2.name) (.slice A2 (appT (repG v by_) () t).2.args.length cap2)
      refine bodyPost_ret (v := .tuple #[.agg #[.int .i64 (appT (repG v by_) () t).2.kind, .int .i64 (appT (repG v by_) () t).2.num, .string (appT (repG v by_) () t).2.name, .slice A2 (appT (repG v by_) () t).2.args.length cap2], .int .i64 0])
        (by simp [results, Try.results33, go_sem, r0, r1, r2, r3]) rfl ?_
      rw [← Hu.out, He1.out]
      exact ⟨_, rfl, hnew.far hb6 (fun k hk => .inl (by subst hk; exact hl4)) hk6.size, hk7.trans hb6 fun i hi _ => .inr (by subst hi; omega)⟩

end Go.Proofs.Ytgedgmdbpembiaa
