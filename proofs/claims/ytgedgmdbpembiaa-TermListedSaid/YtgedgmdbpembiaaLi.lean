/-
  term.List: the walk.
-/
import Derived.Test.YtgedgmdbpembiaaVn
import Derived.Test.YtgedgmdbpembiaaIn
namespace Go.Proofs.Ytgedgmdbpembiaa
open Go.RowKit Go.Maps
set_option linter.unusedVariables false

/-- The sizes of the elements, added to s, stay within the limit, and each element is valid. -/
def lszB : List Tm → Int → Bool
  | [], _ => true
  | x :: l, s => if 2000 < s + (1 + sizeT x) then false else fitsT x && lszB l (s + (1 + sizeT x))

def consT (x t : Tm) : Tm := .mk 3 0 ⟨#[46]⟩ [x, t]
def consL (l : List Tm) (t : Tm) : Tm := l.foldr (fun x t => consT (cloneT x) t) t
def listT (l : List Tm) (tail : Tm) : Tm := if decide (l.length ≤ 2000) && validT tail && lszB l (sizeT tail) then consL l (cloneT tail) else zeroT

theorem consL_drop {l : List Tm} {j : Nat} (hj : j < l.length) (t : Tm) : consL (l.drop j) t = consT (cloneT l[j]) (consL (l.drop (j + 1)) t) := by
  rw [List.drop_eq_getElem_cons hj]
  rfl

theorem wf64_int {w : World} {D : Nat → Prop} {t : Tm} {v : Value} (h : TmIn w D t v) : wf64 t.kind ∧ wf64 t.num := let ⟨_, _, _, h1, h2, _⟩ := h.form; ⟨h1, h2⟩

/-- A cons of two terms. -/
theorem cons_in {w : World} {D : Nat → Prop} {b : Nat} {cs : Array Value} {f : Nat × Nat} {t t' : Tm} {A A' : Option Addr} {cap cap' : Nat} (hb : w.heap[b]? = some (.cells cs 24 f)) (hB : D b) (hc : cs.toList = C4 t A cap ++ C4 t' A' cap')
    (ht : TmIn w D t (VT t A cap)) (ht' : TmIn w D t' (VT t' A' cap')) : TmIn w D (consT t t') (.agg #[.int .i64 3, .int .i64 0, .string ⟨#[46]⟩, .slice (some ⟨b, 0, none⟩) 2 2]) := by
  have hcs : cs = (C4 t A cap ++ C4 t' A' cap').toArray := by rw [← hc]
  subst hcs
  unfold consT TmIn ArgsIn ArgsIn ArgsIn
  exact ⟨_, _, _, rfl, by unfold wf64; omega, by unfold wf64; omega, by decide, rfl, by omega, by omega, by unfold maxLen; omega,
    ⟨b, 0, _, _, _, _, rfl, hB, cell_of_row _ _ 0 _ _ _ hb, cell_of_row _ _ 1 _ _ _ hb, cell_of_row _ _ 2 _ _ _ hb, cell_of_row _ _ 3 _ _ _ hb, ht⟩,
    ⟨b, 0, _, _, _, _, rfl, hB, cell_of_row _ _ 4 _ _ _ hb, cell_of_row _ _ 5 _ _ _ hb, cell_of_row _ _ 6 _ _ _ hb, cell_of_row _ _ 7 _ _ _ hb, ht'⟩, trivial⟩

theorem OBlk.nil {w w' : World} {b : Nat} (h : OBlk w b) (hb : But Nil w w') : OBlk w' b := h.but hb id

/-- One step of List: the new cons. -/
theorem list_step {w wr w5 : World} {g : Nat} {x t : Tm} {A2 A3 : Option Addr} {cap2 cap3 : Nat} (hwr : But Nil w wr) (hg : w.heap.size ≤ g)
    (hblk : wr.heap[g]? = some (TB t A2 cap2)) (ht : TmIn wr (fun b => w.heap.size ≤ b ∧ OBlk wr b ∧ b ≠ g) t (VT t A2 cap2)) (hb5 : But Nil wr.drew w5) (hx : TmNew w5 wr.drew.heap.size x (VT x A3 cap3)) :
    ((((((w5.setCell ⟨g, 0, none⟩ (.int .i64 3)).setCell ⟨g, 1, none⟩ (.int .i64 0)).setCell ⟨g, 2, none⟩ (.string ⟨#[46]⟩)).setCell ⟨g, 3, none⟩ (.slice (some ⟨w5.heap.size, 0, none⟩) 2 2))).alloc (.cells (C4 x A3 cap3 ++ C4 t A2 cap2).toArray 24)).heap[g]? = some (TB (consT x t) (some ⟨w5.heap.size, 0, none⟩) 2) ∧
    TmIn ((((((w5.setCell ⟨g, 0, none⟩ (.int .i64 3)).setCell ⟨g, 1, none⟩ (.int .i64 0)).setCell ⟨g, 2, none⟩ (.string ⟨#[46]⟩)).setCell ⟨g, 3, none⟩ (.slice (some ⟨w5.heap.size, 0, none⟩) 2 2))).alloc (.cells (C4 x A3 cap3 ++ C4 t A2 cap2).toArray 24)) (fun b => w.heap.size ≤ b ∧ OBlk ((((((w5.setCell ⟨g, 0, none⟩ (.int .i64 3)).setCell ⟨g, 1, none⟩ (.int .i64 0)).setCell ⟨g, 2, none⟩ (.string ⟨#[46]⟩)).setCell ⟨g, 3, none⟩ (.slice (some ⟨w5.heap.size, 0, none⟩) 2 2))).alloc (.cells (C4 x A3 cap3 ++ C4 t A2 cap2).toArray 24)) b ∧ b ≠ g) (consT x t) (VT (consT x t) (some ⟨w5.heap.size, 0, none⟩) 2) ∧
    But (· = g) w5 ((((((w5.setCell ⟨g, 0, none⟩ (.int .i64 3)).setCell ⟨g, 1, none⟩ (.int .i64 0)).setCell ⟨g, 2, none⟩ (.string ⟨#[46]⟩)).setCell ⟨g, 3, none⟩ (.slice (some ⟨w5.heap.size, 0, none⟩) 2 2))).alloc (.cells (C4 x A3 cap3 ++ C4 t A2 cap2).toArray 24)) := by
  have hgl := lt_of_heap hblk
  have hwd : wr.drew.heap.size = wr.heap.size := rfl
  have hs5 := hb5.size
  have hb4 := (But.refl (· = g) w5).set4 (.inl rfl) (.int .i64 3) (.int .i64 0) (.string ⟨#[46]⟩) (.slice (some ⟨w5.heap.size, 0, none⟩) 2 2)
  have hss : ((((w5.setCell ⟨g, 0, none⟩ (.int .i64 3)).setCell ⟨g, 1, none⟩ (.int .i64 0)).setCell ⟨g, 2, none⟩ (.string ⟨#[46]⟩)).setCell ⟨g, 3, none⟩ (.slice (some ⟨w5.heap.size, 0, none⟩) 2 2)).heap.size = w5.heap.size := by simp [World.setCell]
  have hbx : But Nil wr w5 := (But.refl Nil wr).drew.trans_nil hb5
  have hset := set4 (a' := .int .i64 3) (b' := .int .i64 0) (c' := .string ⟨#[46]⟩) (d' := .slice (some ⟨w5.heap.size, 0, none⟩) 2 2) (hbx.heap id hblk)
  generalize (((w5.setCell ⟨g, 0, none⟩ (.int .i64 3)).setCell ⟨g, 1, none⟩ (.int .i64 0)).setCell ⟨g, 2, none⟩ (.string ⟨#[46]⟩)).setCell ⟨g, 3, none⟩ (.slice (some ⟨w5.heap.size, 0, none⟩) 2 2) = ws at *
  have hba : But Nil ws (ws.alloc (.cells (C4 x A3 cap3 ++ C4 t A2 cap2).toArray 24)) := (But.refl _ _).alloc _
  refine ⟨heap_old hset, ?_, hb4.trans_nil hba⟩
  exact cons_in (heap_new hss.symm) ⟨by have := hwr.size; omega, ⟨_, heap_new hss.symm⟩, by omega⟩ (by simp)
      (TmIn.keeps (fun k o hk hd => ⟨heap_old (hb4.heap (by have := hd.1; omega) hk), by have := hd.1; have := hwr.size; omega, (hd.2.but hb4 (by have := hd.1; omega)).nil hba, by have := hd.1; omega⟩) _ hx)
      (TmIn.keeps (fun k o hk hd => ⟨heap_old (hb4.heap hd.2.2 (hbx.heap id hk)), hd.1, ((hd.2.1.nil hbx).but hb4 hd.2.2).nil hba, hd.2.2⟩) _ ht)

set_option maxHeartbeats 2000000 in
theorem list_any (l : List Tm) (tail : Tm) (A : Option Addr) (cap : Nat) (w : World) (y : Value) (h5 : l.length ≤ cap) (h6 : l.length ≤ 140737488351232) (hm : cap ≤ maxLen) (hl : ArgsAt w w.heap.size l A 0) (h : TmAt w w.heap.size tail y) :
    Calls Try.prog 35 #[.slice A l.length cap, y] w fun e w' => ∃ u, e = .returned u ∧ TmNew w' w.heap.size (listT l tail) u ∧ But Nil w w' := by
  obtain ⟨A', cap', rfl, -⟩ := h.form
  have hk1 : But Nil w ((w.alloc (TB tail A' cap')).alloc (TB zeroT none 0)) := ((But.refl _ _).alloc _).alloc _
  have hz0 := heap_new (w := w.alloc (TB tail A' cap')) (o := TB zeroT none 0) (k := w.heap.size + 1) (by simp)
  have ht0 := heap_old (o := TB zeroT none 0) (heap_new (w := w) (o := TB tail A' cap') rfl)
  have HL := Lib.hid hl
  have HT := Lib.hid h
  clear hl h
  by_cases hlen : l.length ≤ 2000
  case neg =>
    have e1 : listT l tail = zeroT := by simp [listT, hlen]
    have He1 := Lib.hid e1
    have Hz0 := Lib.hid hz0
    have d1 : decide (2000 < (l.length : Int)) = true := by simp; omega
    clear e1 hz0 ht0 hlen
    go_enter Try.func35, Try.ntmps35
    go_wp2_with fail
    have hb4 := ((But.refl Nil w).alloc (TB tail A' cap')).alloc (TB zeroT none 0)
    refine bodyPost_ret (v := .agg #[.int .i64 0, .int .i64 0, .string ⟨#[]⟩, .slice none 0 0]) (by simp [results, Try.results35, go_sem]) rfl ?_
    rw [He1.out]
    exact ⟨_, rfl, zero_new _ _, hb4⟩
  case pos =>
    have d1 : decide (2000 < (l.length : Int)) = false := by simp; omega
    have Hz0 := Lib.hid hz0
    have Ht0 := Lib.hid ht0
    clear hz0 ht0
    go_enter Try.func35, Try.ntmps35
    go_wp2_with fail
    refine (valid_any tail _ _ (HT.out.nil hk1)).mono ?_
    rintro e w1 ⟨rfl, hb1⟩
    have hk2 := hk1.trans_nil hb1
    have hz := hb1.heap id Hz0.out
    have ht := hb1.heap id Ht0.out
    cases hv : validT tail
    · have e1 : listT l tail = zeroT := by simp [listT, hv]
      have He1 := Lib.hid e1
      obtain ⟨p0, p1, p2, p3⟩ := blk4 hz
      have f0 := frz hz
      have Hset := Lib.hid (set4 (a' := .int .i64 0) (b' := .int .i64 0) (c' := .string ⟨#[]⟩) (d' := .slice none 0 0) hz)
      clear e1 hz ht hv
      go_wp2_with fail
      obtain ⟨r0, r1, r2, r3⟩ := blk4 Hset.out
      have hb4 := (But.refl (· = w.heap.size + 1) w1).set4 (.inl rfl) (.int .i64 0) (.int .i64 0) (.string ⟨#[]⟩) (.slice none 0 0)
      refine bodyPost_ret (v := .agg #[.int .i64 0, .int .i64 0, .string ⟨#[]⟩, .slice none 0 0]) (by simp [results, Try.results35, go_sem, r0, r1, r2, r3]) rfl ?_
      rw [He1.out]
      exact ⟨_, rfl, zero_new _ _, hk2.trans hb4 fun i hi _ => .inr (by subst hi; omega)⟩
    · have Hv := Lib.hid hv
      obtain ⟨t0, t1, t2, t3⟩ := blk4 ht
      have Hz := Lib.hid hz
      have Ht := Lib.hid ht
      clear hz ht hv
      go_wp2_with fail
      refine (size_any tail _ _ (HT.out.nil hk2)).mono ?_
      rintro e w2 ⟨rfl, hb2⟩
      have hk3 := hk2.trans_nil hb2
      have hz2 := Lib.hid (hb2.heap id Hz.out)
      have ht2 := Lib.hid (hb2.heap id Ht.out)
      have hsb := size_bd tail
      clear t0 t1 t2 t3
      go_wp2_with fail
      go_loopw [5, 23] (fun c i wr => ∃ (j : Nat) (s : Int), j ≤ l.length ∧ i = .int .i64 j ∧ c = .int .i64 s ∧ 1 ≤ s ∧ s ≤ 2001 ∧ lszB (l.drop j) s = lszB l (sizeT tail) ∧ But Nil w2 wr) (fun _ i _ => l.length - (intOf i).toNat)
      case atStart => exact ⟨0, _, by omega, rfl, rfl, by omega, by omega, by simp, But.refl _ _⟩
      case round =>
        obtain ⟨j, s, hj, rfl, rfl, hs1, hs2, hlsz, hbut⟩ := hrel
        have Hlsz := Lib.hid hlsz
        clear hlsz
        by_cases hjl : j < l.length
        · have hk4 := hk3.trans_nil hbut
          have hargs := ArgsAt.keeps hk4.size hk4.keeps_nil HL.out
          obtain ⟨b, o, A0, cap0, rfl, hb, e0, e1, e2, e3, hte⟩ := hargs.get hjl
          have hd : l.drop j = l[j] :: l.drop (j + 1) := List.drop_eq_getElem_cons hjl
          have Hd := Lib.hid hd
          have hxb := size_bd l[j]
          have hbx : But Nil wr (wr.alloc (TB l[j] A0 cap0)) := (But.refl _ _).alloc _
          have hX := heap_new (w := wr) (o := TB l[j] A0 cap0) rfl
          have HX := Lib.hid hX
          have Hte := Lib.hid (TmAt.nil hte hbx)
          clear hd hargs hte hX
          go_wp2_with fail
          refine (size_any l[j] _ _ Hte.out).mono ?_
          rintro e w3 ⟨rfl, hb3⟩
          have hk5 := (hbut.trans_nil hbx).trans_nil hb3
          obtain ⟨x0, x1, x2, x3⟩ := blk4 (hb3.heap id HX.out)
          have hz3 := hk5.heap id hz2.out
          by_cases hbig : 2000 < s + (1 + sizeT l[j])
          · have e1 : listT l tail = zeroT := by
              have := Hlsz.out
              rw [Hd.out] at this
              simp only [lszB, if_pos hbig] at this
              simp [listT, ← this]
            have He1 := Lib.hid e1
            obtain ⟨p0, p1, p2, p3⟩ := blk4 hz3
            have f0 := frz hz3
            have Hset := Lib.hid (set4 (a' := .int .i64 0) (b' := .int .i64 0) (c' := .string ⟨#[]⟩) (d' := .slice none 0 0) hz3)
            have d2 : decide (2000 < s + (1 + sizeT l[j])) = true := by simp; omega
            clear e1 hz3
            go_wp2_with fail
            obtain ⟨r0, r1, r2, r3⟩ := blk4 Hset.out
            have hb4 := (But.refl (· = w.heap.size + 1) w3).set4 (.inl rfl) (.int .i64 0) (.int .i64 0) (.string ⟨#[]⟩) (.slice none 0 0)
            refine bodyPost_ret (v := .agg #[.int .i64 0, .int .i64 0, .string ⟨#[]⟩, .slice none 0 0]) (by simp [results, Try.results35, go_sem, r0, r1, r2, r3]) rfl ?_
            rw [He1.out]
            exact ⟨_, rfl, zero_new _ _, (hk3.trans_nil hk5).trans hb4 fun i hi _ => .inr (by subst hi; omega)⟩
          · have d2 : decide (2000 < s + (1 + sizeT l[j])) = false := by simp; omega
            have Hz3 := Lib.hid hz3
            clear hz3
            go_wp2_with fail
            refine (fits_any l[j] _ _ (Hte.out.nil hb3)).mono ?_
            rintro e w4 ⟨rfl, hb4⟩
            have hk6 := hk5.trans_nil hb4
            have hz4 := hb4.heap id Hz3.out
            cases hf : fitsT l[j]
            · have e1 : listT l tail = zeroT := by
                have := Hlsz.out
                rw [Hd.out] at this
                simp only [lszB, if_neg (show ¬ 2000 < s + (1 + sizeT l[j]) by omega), hf, Bool.false_and] at this
                simp [listT, ← this]
              have He1 := Lib.hid e1
              obtain ⟨p0, p1, p2, p3⟩ := blk4 hz4
              have f0 := frz hz4
              have Hset := Lib.hid (set4 (a' := .int .i64 0) (b' := .int .i64 0) (c' := .string ⟨#[]⟩) (d' := .slice none 0 0) hz4)
              clear e1 hz4 hf
              go_wp2_with fail
              obtain ⟨r0, r1, r2, r3⟩ := blk4 Hset.out
              have hb5 := (But.refl (· = w.heap.size + 1) w4).set4 (.inl rfl) (.int .i64 0) (.int .i64 0) (.string ⟨#[]⟩) (.slice none 0 0)
              refine bodyPost_ret (v := .agg #[.int .i64 0, .int .i64 0, .string ⟨#[]⟩, .slice none 0 0]) (by simp [results, Try.results35, go_sem, r0, r1, r2, r3]) rfl ?_
              rw [He1.out]
              exact ⟨_, rfl, zero_new _ _, (hk3.trans_nil hk6).trans hb5 fun i hi _ => .inr (by subst hi; omega)⟩
            · have Hf := Lib.hid hf
              clear hf hz4
              go_wp2_with fail
              go_roundw
              case rel =>
                refine ⟨j + 1, _, by omega, by go_num, rfl, by omega, by omega, ?_, hk6⟩
                rw [← Hlsz.out, Hd.out]
                simp only [lszB, if_neg (show ¬ 2000 < s + (1 + sizeT l[j]) by omega), Hf.out, Bool.true_and]
              case measure => simp [intOf]; omega
        · have e1 : listT l tail = consL l (cloneT tail) := by
            have := Hlsz.out
            rw [List.drop_eq_nil_of_le (by omega)] at this
            simp only [lszB] at this
            simp [listT, ← this, hlen, Hv.out]
          have He1 := Lib.hid e1
          have hk4 := hk3.trans_nil hbut
          have hz3 := Lib.hid (hbut.heap id hz2.out)
          obtain ⟨t0, t1, t2, t3⟩ := blk4 (hbut.heap id ht2.out)
          clear e1
          go_wp2_with fail
          refine (clone_any tail _ _ (HT.out.nil hk4)).mono ?_
          rintro e w3 ⟨u, rfl, hnew, hb3⟩
          obtain ⟨A1, cap1, hu, -⟩ := hnew.form
          have Hnew := Lib.hid hnew
          have Hu := Lib.hid hu
          rw [hu]
          clear hu hnew t0 t1 t2 t3
          go_wp2_with fail
          have hk5 := hk4.trans_nil hb3
          have hw3 : w.heap.size + 1 < w3.heap.size := by have := lt_of_heap hz3.out; have := hb3.size; omega
          have hz4 := Lib.hid (hb3.heap id hz3.out)
          have hk23 := hbut.trans_nil hb3
          have hw2 : w.heap.size + 1 < w2.heap.size := lt_of_heap hz2.out
          have hw23 := hk23.size
          go_loopw [9] (fun i wr => ∃ (q : Int) (A2 : Option Addr) (cap2 : Nat), -1 ≤ q ∧ q < l.length ∧ i = .int .i64 q ∧ wr.heap[w3.heap.size]? = some (TB (consL (l.drop (q + 1).toNat) (cloneT tail)) A2 cap2) ∧
              TmIn wr (fun b => w2.heap.size ≤ b ∧ OBlk wr b ∧ b ≠ w3.heap.size) (consL (l.drop (q + 1).toNat) (cloneT tail)) (VT (consL (l.drop (q + 1).toNat) (cloneT tail)) A2 cap2) ∧ But Nil w3 wr) (fun i _ => (intOf i + 1).toNat)
          case atStart =>
            refine ⟨_, A1, cap1, by omega, by omega, rfl, ?_, ?_, (But.refl _ _).alloc _⟩
            · rw [show ((l.length : Int) - 1 + 1).toNat = l.length by omega, List.drop_length]
              exact heap_new rfl
            · rw [show ((l.length : Int) - 1 + 1).toNat = l.length by omega, List.drop_length]
              have hn := Hnew.out
              rw [Hu.out] at hn
              exact TmIn.keeps (fun k o hk hd => ⟨heap_old hk, by have := hd.1; have := hbut.size; omega, hd.2.nil ((But.refl Nil w3).alloc _), by have := lt_of_heap hk; omega⟩) _ hn
          case round =>
            obtain ⟨q, A2, cap2, hq1, hq2, rfl, hblk, hterm, hbr⟩ := hrel
            obtain ⟨x0, x1, x2, x3⟩ := blk4 hblk
            have hgl := lt_of_heap hblk
            have Hblk := Lib.hid hblk
            have Hterm := Lib.hid hterm
            have hk6 := hk5.trans_nil hbr
            clear hblk hterm
            by_cases hq : 0 ≤ q
            · obtain ⟨m, rfl⟩ := Int.eq_ofNat_of_zero_le hq
              have hml : m < l.length := by omega
              have hargs := ArgsAt.keeps hk6.size hk6.keeps_nil HL.out
              obtain ⟨b, o, A0, cap0, rfl, hb, e0, e1, e2, e3, hte⟩ := hargs.get hml
              have Hte := Lib.hid (TmAt.nil hte (But.refl Nil wr).drew)
              have hcd := consL_drop hml (cloneT tail)
              have Hcd := Lib.hid hcd
              have hto : ((m : Int) + 1).toNat = m + 1 := by omega
              have Hto := Lib.hid hto
              clear hargs hte hcd hto
              go_wp2_with fail
              go_region_law ((go_simp; go_at_call 23; refine (clone_any l[m] _ _ Hte.out).mono ?_; rintro e w5 ⟨u5, rfl, hnew5, hb5⟩; obtain ⟨A3, cap3, rfl, -⟩ := hnew5.form; have hblk5 := hb5.heap id Hblk.out; obtain ⟨y0, y1, y2, y3⟩ := blk4 hblk5; have f5 := frz hblk5; have hl5 := lt_of_heap hblk5; clear hblk5))
              all_goals
                have hterm := Hterm.out
                have hblk := Hblk.out
                rw [Hto.out] at hterm hblk
                have R := list_step (hk23.trans_nil hbr) hw23 hblk hterm hb5 hnew5
                clear hterm hblk
                go_wp2_with fail
                go_roundw
                case rel =>
                  refine ⟨(m : Int) - 1, some ⟨w5.heap.size, 0, none⟩, 2, by omega, by omega, by go_num, ?_, ?_, ?_⟩
                  · rw [show ((m : Int) - 1 + 1).toNat = m from by omega, Hcd.out]
                    exact R.1
                  · rw [show ((m : Int) - 1 + 1).toNat = m from by omega, Hcd.out]
                    exact R.2.1
                  · exact ((hbr.drew.trans_nil hb5).trans R.2.2 fun i hi _ => .inr (by subst hi; omega))
                case measure => simp [intOf]
            · have hqm : q = -1 := by omega
              have Hqm := Lib.hid hqm
              have hz5 := hbr.heap id hz4.out
              obtain ⟨p0, p1, p2, p3⟩ := blk4 hz5
              have f0 := frz hz5
              have Hset := Lib.hid (set4 (a' := .int .i64 (consL (l.drop (q + 1).toNat) (cloneT tail)).kind) (b' := .int .i64 (consL (l.drop (q + 1).toNat) (cloneT tail)).num) (c' := .string (consL (l.drop (q + 1).toNat) (cloneT tail)).name) (d' := .slice A2 (consL (l.drop (q + 1).toNat) (cloneT tail)).args.length cap2) hz5)
              clear hqm hz5
              go_wp2_with fail
              obtain ⟨r0, r1, r2, r3⟩ := blk4 Hset.out
              have hb6 := (But.refl (· = w.heap.size + 1) wr).set4 (.inl rfl) (.int .i64 (consL (l.drop (q + 1).toNat) (cloneT tail)).kind) (.int .i64 (consL (l.drop (q + 1).toNat) (cloneT tail)).num) (.string (consL (l.drop (q + 1).toNat) (cloneT tail)).name) (.slice A2 (consL (l.drop (q + 1).toNat) (cloneT tail)).args.length cap2)
              refine bodyPost_ret (v := VT (consL (l.drop (q + 1).toNat) (cloneT tail)) A2 cap2) (by simp [results, Try.results35, go_sem, r0, r1, r2, r3]) rfl ?_
              have hd0 : l.drop (q + 1).toNat = l := by rw [Hqm.out]; rfl
              have hterm := Hterm.out
              rw [hd0] at hterm hb6 ⊢
              rw [He1.out]
              refine ⟨_, rfl, TmIn.keeps (fun k o hk hd => ?_) _ hterm, hk6.trans hb6 fun i hi _ => .inr (by subst hi; omega)⟩
              have hne : k ≠ w.heap.size + 1 := by have := hd.1; omega
              exact ⟨hb6.heap hne hk, by have := hd.1; omega, hd.2.1.but hb6 hne⟩

end Go.Proofs.Ytgedgmdbpembiaa
