/-
  term.Vars: the walk.
-/
import Derived.Test.YtgedgmdbpembiaaCa
namespace Go.Proofs.Ytgedgmdbpembiaa
open Go.RowKit Go.Maps
set_option linter.unusedVariables false

/-- A slice of integers at A reads as l; its cells lie in blocks of D. -/
def IntsIn (w : World) (D : Nat → Prop) (A : Option Addr) (l : List Int) : Prop :=
  ∀ j (h : j < l.length), ∃ b o, A = some ⟨b, o, none⟩ ∧ D b ∧ w.cell? ⟨b, o + j, none⟩ = some (.int .i64 l[j])

theorem IntsIn.but {S D D' : Nat → Prop} {w w' : World} {A : Option Addr} {l : List Int} (h : IntsIn w D A l) (hb : But S w w') (hS : ∀ k, D k → ¬ S k ∧ D' k) : IntsIn w' D' A l := fun j hj => by
  obtain ⟨b, o, rfl, hd, hc⟩ := h j hj
  exact ⟨b, o, rfl, (hS b hd).2, hb.cell (hS b hd).1 hc⟩

theorem IntsIn.nil {D : Nat → Prop} {w w' : World} {A : Option Addr} {l : List Int} (h : IntsIn w D A l) (hb : But Nil w w') : IntsIn w' D A l := h.but hb fun k hk => ⟨id, hk⟩

theorem IntsIn.of_row {w : World} {base e : Nat} {v : Value} {l : List Int} (h : w.ownsRow base e 1 v l.length (l.map (.int .i64))) : ∃ A cap, v = .slice A l.length cap ∧ l.length ≤ cap ∧ cap ≤ maxLen ∧ IntsIn w (fun b => base ≤ b) A l := by
  rcases h.2 with ⟨rfl, h0⟩ | ⟨g, cap, cur, rfl, hg, hh, hc1, hc2, hc3, hc4⟩
  · have : l = [] := List.eq_nil_of_length_eq_zero h0
    subst this
    exact ⟨none, 0, rfl, by simp, by unfold maxLen; omega, fun j hj => by simp at hj⟩
  · refine ⟨some ⟨g, 0, none⟩, cap, rfl, hc1, hc2, fun j hj => ⟨g, 0, rfl, hg, ?_⟩⟩
    rw [h.cellAt _ (by omega)]
    simp [hj]

def varG (l : List Int) (t : Tm) : List Int × Tm := (addV l t.num, t)

theorem Try.infoI64 : (Try.prog.info? 2).map (fun i => (i.zero, i.size, i.bytes)) = some (some (.int .i64 0), 1, 8) := by kernel_rfl

def InvR (B pl ps mb : Nat) (l : List Int) (w : World) : Prop :=
  ∃ va, w.heap[pl]? = some (.cells #[va] 31 (0, 0)) ∧ w.ownsRow B 2 1 va l.length (l.map (.int .i64)) ∧
  w.heap[ps]? = some (.cells #[.map (some mb)] 58 (0, 0)) ∧ MapI 3 w mb l (fun _ => 1) ∧ InvV l

theorem zeroEint (w : World) : (zeroValue 3).run Try.prog w = .ok (.int .i64 0) w := by kernel_rfl

theorem own_far {w : World} {base e size n k : Nat} {v : Value} {xs : List Value} {o : Obj} (h : w.ownsRow base e size v n xs) (hk : w.heap[k]? = some o) (hne : ∀ cs f, o ≠ .cells cs e f) : v.ownBlock ≠ some k := by
  rcases h.2 with ⟨rfl, _⟩ | ⟨g', cap, cur, rfl, hg', hh, r⟩
  · simp [Value.ownBlock]
  · intro e
    obtain rfl : g' = k := by simpa [Value.ownBlock] using e
    rw [hk] at hh
    injection hh with hh
    exact hne _ _ hh

set_option maxHeartbeats 400000 in
theorem vars1_any (t : Tm) (w : World) (v : Value) (B pl ps mb : Nat) (l : List Int) (hk : t.kind = 0) (hn : nodeB t = true) (h : TmAt w B t v) (hBw : B ≤ w.heap.size) (hBl : B ≤ pl) (hB : B ≤ mb) (hI : InvR B pl ps mb l w) :
    Calls Try.prog 63 #[v, .pointer (some ⟨ps, 0, none⟩), .pointer (some ⟨pl, 0, none⟩)] w fun e w' => ∃ u, e = .returned u ∧ TmNew w' w.heap.size (varG l t).2 u ∧ InvR B pl ps mb (varG l t).1 w' ∧ But (Off B w) w w' := by
  have h0 := var_args hk hn
  have hbd := var_bd hk hn
  obtain ⟨A, cap, rfl, h1, h2, h3, h5, h6, hm, h7⟩ := h.form
  obtain ⟨va, hl, hrow, hp, ⟨D, hown, hat, hhas, hsz⟩, hV⟩ := hI
  obtain ⟨i0, hi0, hz0, hz1, hz2⟩ := info_parts Try.infoI64
  have hll := lt_of_heap hl
  have hlc := cell_of_one hl
  have hlf := free_of_one hl
  have hpl := lt_of_heap hp
  have hpc := cell_of_one hp
  have hml := hown.lt
  obtain ⟨es, clock, hmb, -⟩ := id hown
  have hmt : ¬ TBlk w mb := by rintro ⟨c, f, hc⟩; rw [hmb] at hc; cases hc
  have hlt : ¬ TBlk w pl := by rintro ⟨c, f, hc⟩; rw [hl] at hc; cases hc
  have hne1 : pl ≠ mb := by rintro rfl; rw [hl] at hmb; cases hmb
  have hne2 : ps ≠ mb := by rintro rfl; rw [hp] at hmb; cases hmb
  have hne3 : ps ≠ pl := by rintro rfl; rw [hp] at hl; injection hl with hl; injection hl with _ hl _; cases hl
  have hvl : va.ownBlock ≠ some pl := own_far hrow hl (by simp)
  have hvp : va.ownBlock ≠ some ps := own_far hrow hp (by simp)
  have hvm : va.ownBlock ≠ some mb := own_far hrow hmb (by simp)
  have hlen := hV.len
  have Hk := Lib.hid hk
  have H0 := Lib.hid h0
  have Hp := Lib.hid hp
  have Hl := Lib.hid hl
  have Hmb := Lib.hid hmb
  have Hat := Lib.hid hat
  have Hhas := Lib.hid hhas
  have Hsz := Lib.hid hsz
  have Hn := Lib.hid hn
  clear hk h0 hn hp hl hat hhas hsz hmb
  have hown2 := (hown.alloc (TB t A cap)).alloc (TB zeroT none 0)
  have tok1 : True := trivial
  have HH := Lib.hid h
  clear h
  by_cases hin : t.num ∈ l
  · have hc1 : D.atKey (.int .i64 t.num) (.lit (.int .i64 0)) = .lit (.int .i64 1) := by rw [Hat.out, if_pos hin]
    have Hc1 := Lib.hid hc1
    have Hin := Lib.hid hin
    clear hin hc1
    go_enter Try.func63, Try.ntmps63
    go_wp2_with (at_lookup; have _t := tok1; refine wpList_lookup_own_int _ rfl _ _ 58 rfl 2 3 .i64 lawI Try.underlying58 Try.underlying3 (zeroEint _) mb l.length D rfl hown2 _ _ rfl (keyOf_int_mk Try.underlying2 (WalkArith.wf_i64 (by omega))) ?_; intro c hc hwc; obtain rfl : 1 = c := (by rw [Hc1.out] at hc; injection hc with hc; injection hc); clear hc tok1)
    have hadd : addV l t.num = l := by unfold addV; rw [if_pos Hin.out]
    refine bodyPost_ret (v := .agg #[.int .i64 t.kind, .int .i64 t.num, .string t.name, .slice A t.args.length cap]) (by simp [results, Try.results63, go_sem]) rfl
      ⟨_, rfl, ?_, ?_, (((But.refl _ _).alloc _).alloc _)⟩
    · exact TmNew.flat H0.out h1 h2 h3 h5 hm
    · simp only [varG, hadd]
      have hb2 : But Nil w ((w.alloc (TB t A cap)).alloc (TB t A cap)) := ((But.refl _ _).alloc _).alloc _
      exact ⟨va, hb2.heap id Hl.out, own_but hrow hb2 (fun _ _ => id), hb2.heap id Hp.out, MapI.but ⟨D, hown, Hat.out, Hhas.out, Hsz.out⟩ hb2 id, hV⟩
  · have hc1 : D.atKey (.int .i64 t.num) (.lit (.int .i64 0)) = .lit (.int .i64 0) := by rw [Hat.out, if_neg hin]
    have Hc1 := Lib.hid hc1
    have Hin := Lib.hid hin
    clear hin hc1
    have tok2 : True := trivial
    go_enter Try.func63, Try.ntmps63
    go_wp2_with (first
      | (at_lookup; have _t := tok1; refine wpList_lookup_own_int _ rfl _ _ 58 rfl 2 3 .i64 lawI Try.underlying58 Try.underlying3 (zeroEint _) mb l.length D rfl hown2 _ _ rfl (keyOf_int_mk Try.underlying2 (WalkArith.wf_i64 (by omega))) ?_; intro c hc hwc; obtain rfl : 0 = c := (by rw [Hc1.out] at hc; injection hc with hc; injection hc); clear hc tok1)
      | (at_mapUpdate; refine wpList_mapUpdate_own _ rfl _ _ _ 58 rfl 2 3 lawI Try.underlying58 _ mb l.length D rfl hown2 (by unfold maxLen; omega) _ _ _ rfl rfl (keyOf_int_mk Try.underlying2 (WalkArith.wf_i64 (by omega))) (.lit (.int .i64 1)) [] (plainElem_int Try.underlying3 (WalkArith.wf_i64 (by omega))) ?_; intro w1 hown1 hgrow1
         have hb1 : But (· = mb) ((w.alloc (TB t A cap)).alloc (TB zeroT none 0)) w1 := (But.refl _ _).grown hgrow1 (fun k hk => .inl (by cases hk; rfl))
         have hz := hb1.heap (k := w.heap.size + 1) (by show ¬ (_ = mb); omega) (heap_new (by simp))
         have ht := hb1.heap (k := w.heap.size) (by show ¬ (_ = mb); omega) (heap_old (heap_new (by simp)))
         have hl1 := hb1.heap (k := pl) (by show ¬ (_ = mb); omega) (heap_old (heap_old Hl.out))
         have hrow1 := own_but ((hrow.alloc _).alloc _) hb1 (fun g hg hm => hvm (by rw [hg, hm]))
         have hlc1 := cell_of_one hl1
         have hl1l : pl < w1.heap.size := lt_of_heap hl1
         have hl1w : w.heap.size < w1.heap.size := lt_of_heap ht
         obtain ⟨q0, q1, q2, q3⟩ := blk4 ht
         have Hz := Lib.hid hz
         have Ht := Lib.hid ht
         have Hl1 := Lib.hid hl1
         clear hz ht hl1)
      | (at_builtin; refine wpList_append_lies _ rfl _ _ 31 rfl B 2 i0 _ 1 8 Try.underlying31 hi0 hz0 hz1 hz2 rfl (by omega) va l.length _ rfl (hrow1.alloc _) ⟨w1.heap.size, 0, none⟩ 1 1 [.int .i64 t.num] rfl rfl (cell_one_new _ _ _) (by simp [Value.oneCell']) (by omega) (by unfold maxLen; omega) (by omega) (by simp; omega) (w1.heap.size + 1) (by simp) ?_
         intro gg cap2 w2 hrow2 hgrow hat hlt2
         have hb2 : But (fun k => va.ownBlock = some k) (w1.alloc (.cells #[.int .i64 t.num] 2)) w2 := (But.refl _ _).grown hgrow (fun k hk => .inl hk)
         have hl2 := hb2.heap hvl (heap_old Hl1.out)
         have ht2 := hb2.heap (fun e => by have := (hrow.lt _ e).2; omega) (heap_old Ht.out)
         have hz2 := hb2.heap (fun e => by have := (hrow.lt _ e).2; omega) (heap_old Hz.out)
         have hlc2 := cell_of_one hl2
         have hlf2 := free_of_one hl2
         obtain ⟨s0, s1, s2, s3⟩ := blk4 ht2
         obtain ⟨p0, p1, p2, p3⟩ := blk4 hz2
         have f0 := frz hz2
         have Hl2 := Lib.hid hl2
         have Hz2 := Lib.hid hz2
         have hlw2 : w.heap.size + 1 < w2.heap.size := lt_of_heap hz2
         have hpw2 : pl < w2.heap.size := lt_of_heap hl2
         clear hl2 ht2 hz2))
    have hb0 : But Nil w ((w.alloc (TB t A cap)).alloc (TB zeroT none 0)) := ((But.refl _ _).alloc _).alloc _
    have hba : But Nil w1 (w1.alloc (.cells #[.int .i64 t.num] 2)) := (But.refl _ _).alloc _
    have hb3 : But (· = pl) w2 (w2.setCell ⟨pl, 0, none⟩ (.slice (some ⟨gg, 0, none⟩) (l.length + 1) cap2)) := (But.refl (· = pl) w2).setCell (p := ⟨pl, 0, none⟩) (.inl rfl) _
    have hz3 := hb3.heap (k := w.heap.size + 1) (by show ¬ (_ = pl); omega) Hz2.out
    have hb4 := (But.refl (· = w.heap.size + 1) (w2.setCell ⟨pl, 0, none⟩ (.slice (some ⟨gg, 0, none⟩) (l.length + 1) cap2))).set4 (.inl rfl) (.int .i64 t.kind) (.int .i64 t.num) (.string t.name) (.slice A t.args.length cap)
    obtain ⟨r0, r1, r2, r3⟩ := blk4 (set4 (a' := .int .i64 t.kind) (b' := .int .i64 t.num) (c' := .string t.name) (d' := .slice A t.args.length cap) hz3)
    have hadd : addV l t.num = l ++ [t.num] := by unfold addV; rw [if_neg Hin.out]
    have hgg : gg ≠ pl ∧ gg ≠ w.heap.size + 1 := by
      rcases hat with h | h
      · exact ⟨fun e => hvl (by rw [h, e]), fun e => by have := (hrow.lt _ h).2; omega⟩
      · omega
    have hrb : ∀ i, va.ownBlock = some i → Off B w i := fun i hi => ⟨(hrow.lt _ hi).1, fun ⟨c, f, hc⟩ => own_far hrow hc (by simp) hi⟩
    refine bodyPost_ret (v := .agg #[.int .i64 t.kind, .int .i64 t.num, .string t.name, .slice A t.args.length cap]) (by simp [results, Try.results63, go_sem, r0, r1, r2, r3]) rfl
      ⟨_, rfl, TmNew.flat H0.out h1 h2 h3 h5 hm, ?_, ?_⟩
    · simp only [varG]
      have hVa := hV.add hbd.1 hbd.2
      rw [hadd] at hVa ⊢
      refine ⟨.slice (some ⟨gg, 0, none⟩) (l.length + 1) cap2, hb4.heap (by show ¬ (_ = _); omega) (one_setCell Hl2.out), ?_, ?_, ?_, hVa⟩
      · have := own_but (own_but hrow2 hb3 (fun g hg => by cases hg; exact hgg.1)) hb4 (fun g hg => by cases hg; exact hgg.2)
        simpa using this
      · exact hb4.heap (by show ¬ (_ = _); omega) (hb3.heap (by show ¬ (_ = _); omega) (hb2.heap hvp (hba.heap id (hb1.heap hne2 (hb0.heap id Hp.out)))))
      · have hmp : MapI 3 w1 mb (l ++ [t.num]) (fun _ => 1) := MapI.put (f := fun _ => 1) hown1 hown2.isMap (hown2.tidy lawI) Hat.out Hhas.out Hsz.out Hin.out rfl (fun _ _ => rfl)
        exact (((hmp.but hba id).but hb2 hvm).but hb3 (by show ¬ (_ = _); omega)).but hb4 (by show ¬ (_ = _); omega)
    · exact (((((hb0.of_nil (S := Off B w)).trans hb1 fun i hi _ => .inl (by subst hi; exact ⟨hB, hmt⟩)).trans_nil hba).trans hb2 fun i hi _ => .inl (hrb i hi)).trans hb3 fun i hi _ => .inl (by subst hi; exact ⟨hBl, hlt⟩)).trans hb4 fun i hi _ => .inr (by subst hi; omega)

theorem vars1_enter (args : Array Value) (w : World) : (callFunc 63 args).run Try.prog w = .ok (.enter 63 args) w := by kernel_rfl

theorem own_ntblk {w : World} {base e size n k : Nat} {v : Value} {xs : List Value} (h : w.ownsRow base e size v n xs) (he : e ≠ 24) (hk : v.ownBlock = some k) : ¬ TBlk w k := fun ⟨c, f, hc⟩ => own_far h hc (by intro cs f e'; injection e' with _ e'; exact he e'.symm) hk

theorem InvR.keep {B pl ps mb : Nat} {l : List Int} {w w' : World} (h : InvR B pl ps mb l w) (hb : But (TBk B w) w w') : InvR B pl ps mb l w' := by
  obtain ⟨va, hl, hrow, hp, hm, hV⟩ := h
  refine ⟨va, hb.heap (fun ⟨_, c, f, hc⟩ => by rw [hl] at hc; cases hc) hl, own_but hrow hb (fun g hg hs => own_ntblk hrow (by decide) hg hs.2), hb.heap (fun ⟨_, c, f, hc⟩ => by rw [hp] at hc; cases hc) hp, hm.but hb fun ⟨_, c, f, hc⟩ => ?_, hV⟩
  obtain ⟨es, clock, h0⟩ := hm.isMap
  rw [h0] at hc
  cases hc

theorem vars1_clo (B pl ps mb : Nat) (hBl : B ≤ pl) (hB : B ≤ mb) : Clo 63 #[.pointer (some ⟨ps, 0, none⟩), .pointer (some ⟨pl, 0, none⟩)] varG (InvR B pl ps mb) B where
  call s t w v hk hn hBw ht hI := vars1_any t w v B pl ps mb s hk hn ht hBw hBl hB hI
  enter := vars1_enter
  keep _ _ _ hI hb := hI.keep hb

/-- The variables. -/
def varsT (t : Tm) : List Int := if validT t then (appT varG [] t).1 else []

set_option maxHeartbeats 400000 in
theorem vars_any (t : Tm) (w : World) (v : Value) (h : TmAt w w.heap.size t v) :
    Calls Try.prog 25 #[v] w fun e w' => ∃ A cap, e = .returned (.slice A (varsT t).length cap) ∧ (varsT t).length ≤ cap ∧ cap ≤ maxLen ∧ IntsIn w' (fun b => w.heap.size ≤ b) A (varsT t) ∧ (varsT t).length ≤ 1099511627777 ∧ But Nil w w' := by
  obtain ⟨A, cap, rfl, -⟩ := h.form
  have hk1 : But Nil w (w.alloc (TB t A cap)) := (But.refl _ _).alloc _
  have hmm := @run_makeMap Try.prog
  go_enter Try.func25, Try.ntmps25
  go_wp2_with fail
  refine (valid_any t _ _ (h.nil hk1)).mono ?_
  rintro e w1 ⟨rfl, hb1⟩
  have hk2 := hk1.trans_nil hb1
  have ht := hb1.heap id (heap_new (w := w) (o := TB t A cap) rfl)
  obtain ⟨q0, q1, q2, q3⟩ := blk4 ht
  have hlt := lt_of_heap ht
  have Ht := Lib.hid ht
  clear ht
  cases hv : validT t
  · have Hv := Lib.hid hv
    clear hv
    go_wp2_with fail
    go_ret
    have : varsT t = [] := by simp [varsT, Hv.out]
    rw [this]
    exact ⟨none, 0, rfl, by simp, by unfold maxLen; omega, fun j hj => by simp at hj, by simp, hk2⟩
  · have Hv := Lib.hid hv
    clear hv
    have hlt1 : w.heap.size < w1.heap.size + 1 := by omega
    have hlt2 : w.heap.size < w1.heap.size + 1 + 1 := by omega
    go_wp2_with fail
    have hb3 : But Nil w1 (((w1.alloc (.cells #[.slice none 0 0] 31)).alloc (.map #[] 0)).alloc (.cells #[.map (some (w1.heap.size + 1))] 58)) := (((But.refl _ _).alloc _).alloc _).alloc _
    have hk3 := hk2.trans_nil hb3
    have hI : InvR w1.heap.size w1.heap.size (w1.heap.size + 1 + 1) (w1.heap.size + 1) [] (((w1.alloc (.cells #[.slice none 0 0] 31)).alloc (.map #[] 0)).alloc (.cells #[.map (some (w1.heap.size + 1))] 58)) :=
      ⟨.slice none 0 0, heap_old (heap_old (heap_new rfl)), World.ownsRow_nil _ _ _ _, heap_new (by simp), by
        have := MapI.made 3 (w1.alloc (.cells #[.slice none 0 0] 31)) (fun _ => 1)
        rw [show (w1.alloc (.cells #[.slice none 0 0] 31)).heap.size = w1.heap.size + 1 from by simp] at this
        exact this.but ((But.refl Nil _).alloc _) id, by simp, by simp⟩
    refine (apply_any (vars1_clo w1.heap.size w1.heap.size (w1.heap.size + 1 + 1) (w1.heap.size + 1) (Nat.le_refl _) (by omega)) t [] _ _ (TmAt.keeps hk2.size hk3.keeps_nil _ h) (valid_fits Hv.out) (by simp; omega) hI).mono ?_
    rintro e w2 ⟨u, rfl, hnew, hI2, hb2⟩
    have hbn : But Nil w w2 := hk3.trans hb2 fun i hi _ => .inr (by have := hi.1; omega)
    obtain ⟨va, hl, hrow, -, -, hV⟩ := hI2
    have hlc := cell_of_one hl
    have hll := lt_of_heap hl
    have hlen := hV.len
    have Hl := Lib.hid hl
    clear hl
    go_wp2_with fail
    go_ret
    have e1 : varsT t = (appT varG [] t).1 := by simp [varsT, Hv.out]
    rw [e1]
    obtain ⟨A', cap', rfl, hc1, hc2, hin⟩ := IntsIn.of_row hrow
    exact ⟨A', cap', rfl, hc1, hc2, hin.but (But.refl Nil _) (fun k hk => ⟨id, by have := hk2.size; omega⟩), hlen, hbn⟩

end Go.Proofs.Ytgedgmdbpembiaa
