/-
  term.apply, with any function that replaces variables: the walk.
-/
import Derived.Test.YtloekfnlidclcaaRo
import Derived.Deep.RegionLaw
import Derived.BigRegion
namespace Go.Proofs.Ytloekfnlidclcaa
open Go.RowKit
set_option linter.unusedVariables false

theorem Try.infoTerm : (Try.prog.info? 24).map (fun i => (i.zero, i.size, i.bytes)) = some (some (.agg #[.int .i64 0, .int .i64 0, .string ⟨#[]⟩, .slice none 0 0]), 4, 56) := by kernel_rfl

/-- What apply may ask of its function: g on the state s; the state's memory lies from B on, in no row of terms. -/
structure Clo {σ : Type} (F : Nat) (cp : Array Value) (g : σ → Tm → σ × Tm) (Inv : σ → World → Prop) (B : Nat) : Prop where
  call : ∀ s t w v, t.kind = 0 → nodeB t = true → B ≤ w.heap.size → TmAt w B t v → Inv s w → Calls Try.prog F (#[v] ++ cp) w fun e w' => ∃ u, e = .returned u ∧ TmNew w' w.heap.size (g s t).2 u ∧ Inv (g s t).1 w' ∧ But (Off B w) w w'
  enter : ∀ args w, (callFunc F args).run Try.prog w = .ok (.enter F args) w
  keep : ∀ s w w', Inv s w → But (TBk B w) w w' → Inv s w'

mutual
def appT {σ : Type} (g : σ → Tm → σ × Tm) (s : σ) : Tm → σ × Tm
  | .mk k n nm l => if k = 0 then g s (.mk k n nm l) else ((appL g s l).1, .mk k n nm (appL g s l).2)
def appL {σ : Type} (g : σ → Tm → σ × Tm) (s : σ) : List Tm → σ × List Tm
  | [] => (s, [])
  | t :: l => ((appL g (appT g s t).1 l).1, (appT g s t).2 :: (appL g (appT g s t).1 l).2)
end

theorem fitsL_get {l : List Tm} (h : fitsL l = true) : ∀ j (hj : j < l.length), fitsT l[j] = true := by
  induction l with
  | nil => intro j hj; simp at hj
  | cons t l ih =>
    intro j hj
    simp only [fitsL, Bool.and_eq_true] at h
    rcases j with _ | j
    · exact h.1
    · exact ih h.2 j (by simpa using hj)

theorem node_args {k n : Int} {nm : ByteArray} {l : List Tm} (h : nodeB (.mk k n nm l) = true) : l.length ≤ 8 := by
  simp only [nodeB, Bool.or_eq_true, Bool.and_eq_true, decide_eq_true_eq, beq_iff_eq] at h
  omega

/-- What one more argument does to the relation of apply's loop. -/
theorem apply_step {w d w1 w2 : World} {B g cap2 cap1 : Nat} {k n : Int} {nm : ByteArray} {va : Value} {ts : List Tm} {t : Tm} {xs : List Value} {A1 : Option Addr}
    (hown : d.ownsRow (w.heap.size + 3) 24 4 va ts.length xs) (hx : RowE d (w.heap.size + 3) va ts xs) (hbw : But (Off B w) w d) (hb1 : But (Off B d) d w1) (hB : B ≤ w.heap.size)
    (hnew : TmNew w1 d.heap.size t (.agg #[.int .i64 t.kind, .int .i64 t.num, .string t.name, .slice A1 t.args.length cap1]))
    (hown2 : w2.ownsRow (w.heap.size + 3) 24 4 (.slice (some ⟨g, 0, none⟩) (ts.length + 1) cap2) (ts.length + 1) (xs ++ [.int .i64 t.kind, .int .i64 t.num, .string t.name, .slice A1 t.args.length cap1]))
    (hgrow : (w1.alloc (TB t A1 cap1)).grownBy w2 va.ownBlock) (hat : va.ownBlock = some g ∨ g = w1.heap.size + 1)
    (h1 : w1.heap[w.heap.size + 1]? = some (.cells #[.int .i64 0, .int .i64 0, .string ⟨#[]⟩, .slice none 0 0] 24 (0, 0)))
    (h2 : w1.heap[w.heap.size + 1 + 1]? = some (.cells #[.int .i64 k, .int .i64 n, .string nm, va] 24 (0, 0)))
    (hd : w.heap.size + 1 + 1 < d.heap.size) (hgl : ∀ g, va.ownBlock = some g → g < d.heap.size) :
    (w2.setCell ⟨w.heap.size + 1 + 1, 3, none⟩ (.slice (some ⟨g, 0, none⟩) (ts.length + 1) cap2)).heap[w.heap.size + 1]? = some (.cells #[.int .i64 0, .int .i64 0, .string ⟨#[]⟩, .slice none 0 0] 24 (0, 0)) ∧
    (w2.setCell ⟨w.heap.size + 1 + 1, 3, none⟩ (.slice (some ⟨g, 0, none⟩) (ts.length + 1) cap2)).heap[w.heap.size + 1 + 1]? = some (.cells #[.int .i64 k, .int .i64 n, .string nm, .slice (some ⟨g, 0, none⟩) (ts.length + 1) cap2] 24 (0, 0)) ∧
    RowT (w2.setCell ⟨w.heap.size + 1 + 1, 3, none⟩ (.slice (some ⟨g, 0, none⟩) (ts.length + 1) cap2)) (w.heap.size + 3) (.slice (some ⟨g, 0, none⟩) (ts.length + 1) cap2) (ts ++ [t]) ∧
    But (TBk B w1) w1 (w2.setCell ⟨w.heap.size + 1 + 1, 3, none⟩ (.slice (some ⟨g, 0, none⟩) (ts.length + 1) cap2)) ∧
    But (Off B w) w (w2.setCell ⟨w.heap.size + 1 + 1, 3, none⟩ (.slice (some ⟨g, 0, none⟩) (ts.length + 1) cap2)) := by
  have hown1 : w1.ownsRow (w.heap.size + 3) 24 4 va ts.length xs := own_but hown hb1 (fun g hg hs => hs.2 (own_tblk hown hg).1.tblk)
  have hn2 : ∀ k, k < w.heap.size + 3 → ¬ va.ownBlock = some k := fun k hk e => by have := (own_tblk hown1 e).2; omega
  have hba : But Nil w1 (w1.alloc (TB t A1 cap1)) := (But.refl _ _).alloc _
  have hb2 : But (fun k => va.ownBlock = some k) (w1.alloc (TB t A1 cap1)) w2 := (But.refl _ _).grown hgrow (fun k hk => .inl hk)
  have hb3 : But (· = w.heap.size + 1 + 1) w2 (w2.setCell ⟨w.heap.size + 1 + 1, 3, none⟩ (.slice (some ⟨g, 0, none⟩) (ts.length + 1) cap2)) := (But.refl (· = w.heap.size + 1 + 1) w2).setCell (p := ⟨w.heap.size + 1 + 1, 3, none⟩) (.inl rfl) _
  have hx1 : RowE (w1.alloc (TB t A1 cap1)) (w.heap.size + 3) va ts xs := (hx.but hb1 fun k hk => .inr hk.2).but hba fun k hk => hk.elim
  have hT2 : TBlk w1 (w.heap.size + 1 + 1) := ⟨_, _, h2⟩
  have hrow2 : RowT w2 (w.heap.size + 3) (.slice (some ⟨g, 0, none⟩) (ts.length + 1) cap2) (ts ++ [t]) :=
    RowT.push (hown1.alloc _) hx1 rfl (hnew.but hba (fun k hk => hk.elim) (Nat.le_refl _)) (by omega) hgl hown2 hgrow (hat.imp id (fun e => by simp; omega))
  refine ⟨hb3.heap (by simp) (hb2.heap (hn2 _ (by omega)) (heap_old h1)), ?_, hrow2.but hb3 (fun k hk => .inl (by subst hk; omega)), ?_, ?_⟩
  · have := set_blk (i := 3) (hb2.heap (hn2 _ (by omega)) (heap_old h2)) (.slice (some ⟨g, 0, none⟩) (ts.length + 1) cap2)
    simpa using this
  · refine ((hba.of_nil (S := TBk B w1)).trans hb2 fun i hi _ => .inl ⟨by have := (own_tblk hown1 hi).2; omega, (own_tblk hown1 hi).1.tblk⟩).trans hb3 fun i hi _ => .inl (by subst hi; exact ⟨by omega, hT2⟩)
  · refine (((hbw.trans hb1 fun i hi _ => .inl (hbw.off_back (fun k hk => hk.2) hi)).trans_nil hba).trans hb2 fun i hi _ => .inr ?_).trans hb3 fun i hi _ => .inr (by subst hi; omega)
    have := (own_tblk hown1 hi).2
    omega

theorem appL_drop {σ : Type} (g : σ → Tm → σ × Tm) (s : σ) {l : List Tm} {j : Nat} (hj : j < l.length) : appL g s (l.drop j) = ((appL g (appT g s l[j]).1 (l.drop (j + 1))).1, (appT g s l[j]).2 :: (appL g (appT g s l[j]).1 (l.drop (j + 1))).2) := by
  rw [List.drop_eq_getElem_cons hj]
  rfl

set_option maxHeartbeats 1000000 in
theorem apply_any {σ : Type} {F : Nat} {cp : Array Value} {g : σ → Tm → σ × Tm} {Inv : σ → World → Prop} {B : Nat} (hc : Clo F cp g Inv B) (t : Tm) : ∀ (s : σ) (w : World) (v : Value),
    TmAt w B t v → fitsT t = true → B ≤ w.heap.size → Inv s w →
    Calls Try.prog 81 #[v, .func (.func F) #[] cp] w fun e w' => ∃ u, e = .returned u ∧ TmNew w' w.heap.size (appT g s t).2 u ∧ Inv (appT g s t).1 w' ∧ But (Off B w) w w' := by
  induction t using Tm.ind with
  | h k n nm l ih =>
  intro s w v hv hfit hB hinv
  have hv' := hv
  unfold TmAt TmIn at hv
  obtain ⟨A, len, cap, rfl, h1, h2, h3, rfl, h5, h6, -, h7⟩ := hv
  have IH := Lib.hid ih
  have hent := hc.enter
  have HC := Lib.hid hc
  have HI := Lib.hid hinv
  clear ih hc hinv
  by_cases hk : k = 0
  · subst hk
    go_enter Try.func81, Try.ntmps81
    go_wp2_with fail
    have hb2 : But (TBk B w) w ((w.alloc (.cells #[.int .i64 0, .int .i64 n, .string nm, .slice A l.length cap] 24)).alloc (.cells #[.int .i64 0, .int .i64 0, .string ⟨#[]⟩, .slice none 0 0] 24)) := ((But.refl _ _).alloc _).alloc _
    have hb2' : But Nil w ((w.alloc (.cells #[.int .i64 0, .int .i64 n, .string nm, .slice A l.length cap] 24)).alloc (.cells #[.int .i64 0, .int .i64 0, .string ⟨#[]⟩, .slice none 0 0] 24)) := ((But.refl _ _).alloc _).alloc _
    have hfit' : nodeB (.mk 0 n nm l) = true := by
      unfold fitsT at hfit
      simp only [Bool.and_eq_true] at hfit
      exact hfit.1
    refine (HC.out.call s (.mk 0 n nm l) _ _ rfl hfit' (by simp; omega) (TmAt.keeps (Nat.le_refl _) hb2'.keeps_nil _ hv') (HC.out.keep _ _ _ HI.out hb2)).mono ?_
    rintro e w1 ⟨u, rfl, hnew, hinv, hb⟩
    obtain ⟨A1, cap1, hu, -⟩ := hnew.form
    have hp := hb.heap (k := w.heap.size + 1) (fun hs => hs.2 ⟨_, _, heap_new (by simp)⟩) (heap_new (by simp))
    obtain ⟨q0, q1, q2, q3⟩ := blk4 hp
    have f0 := frz hp
    have hp' := Lib.hid hp
    have HU := Lib.hid hu
    have hset := set4 (a' := .int .i64 (g s (.mk 0 n nm l)).2.kind) (b' := .int .i64 (g s (.mk 0 n nm l)).2.num) (c' := .string (g s (.mk 0 n nm l)).2.name) (d' := .slice A1 (g s (.mk 0 n nm l)).2.args.length cap1) hp
    clear hp
    rw [hu]
    clear hu
    go_wp2_with fail
    obtain ⟨r0, r1, r2, r3⟩ := blk4 hset
    refine bodyPost_ret (v := .agg #[.int .i64 (g s (.mk 0 n nm l)).2.kind, .int .i64 (g s (.mk 0 n nm l)).2.num, .string (g s (.mk 0 n nm l)).2.name, .slice A1 (g s (.mk 0 n nm l)).2.args.length cap1])
      (by simp [results, Try.results81, go_sem, r0, r1, r2, r3]) rfl ?_
    rw [← HU.out]
    have hT1 : TBlk w1 (w.heap.size + 1) := ⟨_, _, hp'.out⟩
    have hb3 := (But.refl (· = w.heap.size + 1) w1).set4 (.inl rfl) (.int .i64 (g s (.mk 0 n nm l)).2.kind) (.int .i64 (g s (.mk 0 n nm l)).2.num) (.string (g s (.mk 0 n nm l)).2.name) (.slice A1 (g s (.mk 0 n nm l)).2.args.length cap1)
    simp only [appT, if_pos]
    refine ⟨u, rfl, hnew.far hb3 (fun k hk => .inl (by subst hk; simp)) (by simp; omega), HC.out.keep _ _ _ hinv (hb3.mono fun i hi _ => by subst hi; exact ⟨by omega, hT1⟩), ?_⟩
    exact ((hb2'.of_nil (S := Off B w)).trans hb fun i hi _ => hi.back hb2').trans hb3 fun i hi _ => .inr (by subst hi; omega)
  · have hk' : (k == 0) = false := by simpa using hk
    have Hk := Lib.hid hk
    obtain ⟨i0, hi0, hz0, hz1, hz2⟩ := info_parts Try.infoTerm
    have hfl : fitsL l = true := by
      unfold fitsT at hfit
      simp only [Bool.and_eq_true] at hfit
      exact hfit.2
    have hl8 : l.length ≤ 8 := by
      unfold fitsT at hfit
      simp only [Bool.and_eq_true] at hfit
      exact node_args hfit.1
    have hwf1 := h1
    have hwf2 := h2
    clear hk hfit h1 h2
    have hb3 : But Nil w (((w.alloc (.cells #[.int .i64 k, .int .i64 n, .string nm, .slice A l.length cap] 24)).alloc (.cells #[.int .i64 0, .int .i64 0, .string ⟨#[]⟩, .slice none 0 0] 24)).alloc
      (.cells #[.int .i64 k, .int .i64 n, .string nm, .slice none 0 0] 24)) := (((But.refl _ _).alloc _).alloc _).alloc _
    have hb3' : But (TBk B w) w (((w.alloc (.cells #[.int .i64 k, .int .i64 n, .string nm, .slice A l.length cap] 24)).alloc (.cells #[.int .i64 0, .int .i64 0, .string ⟨#[]⟩, .slice none 0 0] 24)).alloc
      (.cells #[.int .i64 k, .int .i64 n, .string nm, .slice none 0 0] 24)) := hb3.of_nil
    go_enter Try.func81, Try.ntmps81
    go_wp2_with fail
    go_loopw [24] (fun i wr => ∃ (j : Nat) (s' : σ) (va : Value) (ts : List Tm), j ≤ l.length ∧ i = .int .i64 j ∧
        wr.heap[w.heap.size + 1]? = some (.cells #[.int .i64 0, .int .i64 0, .string ⟨#[]⟩, .slice none 0 0] 24 (0, 0)) ∧
        wr.heap[w.heap.size + 1 + 1]? = some (.cells #[.int .i64 k, .int .i64 n, .string nm, va] 24 (0, 0)) ∧ RowT wr (w.heap.size + 3) va ts ∧ ts.length = j ∧
        (appL g s' (l.drop j)).1 = (appL g s l).1 ∧ ts ++ (appL g s' (l.drop j)).2 = (appL g s l).2 ∧ Inv s' wr ∧ But (Off B w) w wr) (fun i _ => l.length - (intOf i).toNat)
    case atStart =>
      exact ⟨0, s, _, [], by omega, rfl, heap_old (heap_new (by simp)), heap_new (by simp), RowT.nil _ _, rfl, by simp, by simp, HC.out.keep _ _ _ HI.out hb3', hb3.of_nil⟩
    case round =>
      obtain ⟨j, s', va, ts, hj, rfl, hblk1, hblk2, hrow, htl, hs1, hs2, hinv, hbut⟩ := hrel
      have HI' := Lib.hid hinv
      have Hs1 := Lib.hid hs1
      have Hs2 := Lib.hid hs2
      have Htl := Lib.hid htl
      clear hinv hs1 hs2 htl
      by_cases hjl : j < l.length
      · obtain ⟨b, o, A0, cap0, rfl, hb, e0, e1, e2, e3, ht⟩ := h7.get hjl
        have hkp : Keeps B w wr := hbut.keeps fun k hk => hk
        have hbo : ¬ Off B w b := fun h => hb.elim (fun hl => by have := h.1; omega) h.2
        have g0 := hbut.cell hbo e0
        have g1 := hbut.cell hbo e1
        have g2 := hbut.cell hbo e2
        have g3 := hbut.cell hbo e3
        have ht' := TmAt.keeps (Nat.le_refl _) hkp _ ht
        clear e0 e1 e2 e3 ht hkp hbo
        go_wp2_with fail
        have hbx : But Nil wr (wr.alloc (TB l[j] A0 cap0)).drew := ((But.refl _ _).alloc _).drew
        have hblk1' := hbx.heap id hblk1
        have hblk2' := hbx.heap id hblk2
        obtain ⟨-, -, -, q3⟩ := blk4 (heap_old (o := TB l[j] A0 cap0) hblk2)
        obtain ⟨p0, p1, p2, p3⟩ := blk4 (heap_new (w := wr) (o := TB l[j] A0 cap0) rfl)
        have hblk3' : (wr.alloc (TB l[j] A0 cap0)).drew.heap[wr.heap.size]? = _ := heap_new (w := wr) (o := TB l[j] A0 cap0) rfl
        have hbw := hbut.trans_nil hbx
        have ht'' := TmAt.keeps (Nat.le_refl _) hbx.keeps_nil _ ht'
        have HIx : Hid (Inv s' (wr.alloc (TB l[j] A0 cap0)).drew) := HC.out.keep _ _ _ HI'.out hbx.of_nil
        have hrow' := hrow.but hbx fun k hk => .inl hk.elim
        have hsz : (wr.alloc (TB l[j] A0 cap0)).heap.size = wr.heap.size + 1 := by simp
        have hlt2 := lt_of_heap hblk2
        generalize wr.alloc (TB l[j] A0 cap0) = wx at *
        obtain ⟨xs, hown, hxs⟩ := hrow'
        have hgl : ∀ g, va.ownBlock = some g → g < wr.heap.size := fun g hg => by obtain ⟨_, h, _⟩ := hrow; exact (h.lt g hg).2
        have Hxs := Lib.hid hxs
        clear hxs hblk1 hblk2 HI' hrow ht' hbx
        have hfj := fitsL_get hfl j hjl
        have Hfj := Lib.hid hfj
        have hts : ts.length + 1 ≤ 9 := by have := Htl.out; omega
        clear hfj
        go_region_law (first
            | (refine step_append_lies _ (by rfl) _ _ _ (by rfl) (w.heap.size + 3) 24 i0 _ 4 56 Try.underlying22 hi0 hz0 hz1 hz2 rfl (by omega) va ts.length xs (by rfl) (hown1.alloc _) ⟨w1.heap.size, 0, none⟩ 1 1
                 [.int .i64 (appT g s' l[j]).2.kind, .int .i64 (appT g s' l[j]).2.num, .string (appT g s' l[j]).2.name, .slice A1 (appT g s' l[j]).2.args.length cap1] (by rfl) (by rfl)
                 (World.news_of_block (cs := #[.int .i64 (appT g s' l[j]).2.kind, .int .i64 (appT g s' l[j]).2.num, .string (appT g s' l[j]).2.name, .slice A1 (appT g s' l[j]).2.args.length cap1]) (t := 24) (fr := (0, 0)) (heap_alloc_new w1 _))
                 (by simp [Value.oneCell']) (by omega) (by unfold maxLen; omega) (by omega) (by simp; omega) (w1.heap.size + 1) (by simp) ?_
               intro gg cap2 w2 hown2 hgrow hat hlt
               have hb2 : But (fun k => va.ownBlock = some k) (w1.alloc (TB (appT g s' l[j]).2 A1 cap1)) w2 := (But.refl _ _).grown hgrow (fun k hk => .inl hk)
               have hn2 : ∀ k, k < w.heap.size + 3 → ¬ va.ownBlock = some k := fun k hk e => by have := (own_tblk hown1 e).2; omega
               have hblk1_2 := hb2.heap (hn2 _ (by omega)) (heap_old hblk1'')
               have hblk2_2 := hb2.heap (hn2 _ (by omega)) (heap_old hblk2'')
               have c3'' := (blk4 hblk2_2).2.2.2
               have hfz := frz hblk2_2
               obtain ⟨d0'', d1'', d2'', d3''⟩ := blk4 (hb2.heap (fun e => by have := hgl _ e; omega) (heap_old hblk3'')))
            | (go_simp; go_at_call 81; refine (IH.out l[j] (List.getElem_mem hjl) s' _ _ ht'' Hfj.out (by show _ ≤ wx.heap.size; omega) HIx.out).mono ?_; rintro e w1 ⟨u, rfl, hnew, hinv1, hb1⟩; obtain ⟨A1, cap1, rfl, -⟩ := hnew.form
               have hnB : ∀ k, Off B wx.drew k → ¬ TBlk wx.drew k := fun k hk => hk.2
               have hblk1'' := hb1.heap (fun hs => hs.2 ⟨_, _, hblk1'⟩) hblk1'
               have hblk2'' := hb1.heap (fun hs => hs.2 ⟨_, _, hblk2'⟩) hblk2'
               have hblk3'' := hb1.heap (fun hs => hs.2 ⟨_, _, hblk3'⟩) hblk3'
               have c3' := (blk4 hblk2'').2.2.2
               obtain ⟨d0', d1', d2', d3'⟩ := blk4 hblk3''
               have hown1 := own_but hown hb1 (fun g hg hs => hs.2 (own_tblk hown hg).1.tblk)
               have hw1 : wr.heap.size + 1 ≤ w1.heap.size := by have h : wx.heap.size ≤ w1.heap.size := hb1.size; omega
               have hlq : w.heap.size + 1 + 1 < w1.heap.size := by omega))
        all_goals
          have R := apply_step (va := va) hown Hxs.out hbw hb1 hB hnew hown2 hgrow hat hblk1'' hblk2'' (by show _ < wx.heap.size; omega) (fun g hg => by show _ < wx.heap.size; have := hgl g hg; omega)
          have HIn := Lib.hid hinv1
          have Happ := Lib.hid (appL_drop g s' hjl)
          clear hinv1 hown2 hgrow hat hblk1'' hblk2'' hown1 hnew hb1 hb2
          go_wp2_with fail
          go_roundw
          case rel => exact ⟨j + 1, (appT g s' l[j]).1, _, _, by omega, by go_num, R.1, R.2.1, R.2.2.1, by simp [Htl.out], by rw [← Hs1.out, Happ.out], by rw [← Hs2.out, Happ.out]; simp, HC.out.keep _ _ _ HIn.out R.2.2.2.1, R.2.2.2.2⟩
          case measure => simp [intOf]; omega
      · obtain ⟨A', cap', rfl, hc1, hc2, hargs⟩ := hrow.args
        obtain ⟨p0, p1, p2, p3⟩ := blk4 hblk2
        obtain ⟨q0, q1, q2, q3⟩ := blk4 hblk1
        have f0 := frz hblk1
        have hlt1 := lt_of_heap hblk1
        have hset := set4 (a' := .int .i64 k) (b' := .int .i64 n) (c' := .string nm) (d' := .slice A' ts.length cap') hblk1
        have Hset := Lib.hid hset
        have Hb1 := Lib.hid hblk1
        clear hblk1 hblk2 hset
        go_wp2_with fail
        obtain ⟨r0, r1, r2, r3⟩ := blk4 Hset.out
        refine bodyPost_ret (v := .agg #[.int .i64 k, .int .i64 n, .string nm, .slice A' ts.length cap'])
          (by simp [results, Try.results81, go_sem, r0, r1, r2, r3]) rfl ?_
        have hT1 : TBlk wr (w.heap.size + 1) := ⟨_, _, Hb1.out⟩
        have hb4 := (But.refl (· = w.heap.size + 1) wr).set4 (.inl rfl) (.int .i64 k) (.int .i64 n) (.string nm) (.slice A' ts.length cap')
        have e1 := Hs1.out
        have e2 := Hs2.out
        rw [List.drop_eq_nil_of_le (by omega)] at e1 e2
        simp only [appL, List.append_nil] at e1 e2
        have hk0 := Hk.out
        unfold appT
        rw [if_neg hk0, ← e1, ← e2]
        refine ⟨_, rfl, ?_, HC.out.keep _ _ _ HI'.out (hb4.mono fun i hi _ => by subst hi; exact ⟨by omega, hT1⟩), hbut.trans hb4 fun i hi _ => .inr (by subst hi; omega)⟩
        unfold TmNew TmIn
        exact ⟨A', ts.length, cap', rfl, hwf1, hwf2, h3, rfl, hc1, by have := Htl.out; omega, hc2, ArgsIn.keeps (fun k _ hk hd => ⟨hb4.heap (fun e => by have := hd.1; omega) hk, by have := hd.1; omega, hd.2.but hb4 (fun e => by have := hd.1; omega)⟩) hargs⟩

end Go.Proofs.Ytloekfnlidclcaa

