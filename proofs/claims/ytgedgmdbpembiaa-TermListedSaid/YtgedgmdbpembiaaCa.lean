/-
  term.Canon: the walk.
-/
import Derived.Test.YtgedgmdbpembiaaCl
import Derived.Test.YtgedgmdbpembiaaMp
namespace Go.Proofs.Ytgedgmdbpembiaa
open Go.RowKit Go.Maps
set_option linter.unusedVariables false

def addV (l : List Int) (n : Int) : List Int := if n ∈ l then l else l ++ [n]
/-- The canonical form: l are the variables that were met before. -/
def canG (l : List Int) (t : Tm) : List Int × Tm := (addV l t.num, .mk 0 ((addV l t.num).idxOf t.num) ⟨#[]⟩ [])

structure InvV (l : List Int) : Prop where
  nodup : l.Nodup
  bd : ∀ x ∈ l, 0 ≤ x ∧ x ≤ 1099511627776

theorem InvV.len {l : List Int} (h : InvV l) : l.length ≤ 1099511627777 := nodup_le 1099511627777 l h.nodup fun x hx => by have := h.bd x hx; omega

theorem InvV.add {l : List Int} (h : InvV l) {n : Int} (h0 : 0 ≤ n) (h1 : n ≤ 1099511627776) : InvV (addV l n) := by
  unfold addV
  split
  · exact h
  · rename_i hn
    refine ⟨?_, fun x hx => ?_⟩
    · rw [List.nodup_append]
      exact ⟨h.nodup, by simp, fun a ha b hb => by simp at hb; subst hb; intro e; subst e; exact hn ha⟩
    · rcases List.mem_append.1 hx with hx | hx
      · exact h.bd x hx
      · simp at hx; omega

theorem var_bd {t : Tm} (hk : t.kind = 0) (h : nodeB t = true) : 0 ≤ t.num ∧ t.num ≤ 1099511627776 := by
  cases t with
  | mk k n s l =>
    simp only [Tm.kind] at hk
    subst hk
    simp [nodeB] at h
    exact h.1.1

def InvC (B pm mb : Nat) (l : List Int) (w : World) : Prop :=
  w.heap[pm]? = some (.cells #[.map (some mb)] 55 (0, 0)) ∧ MapI 2 w mb l (fun n => (l.idxOf n : Int)) ∧ InvV l

theorem zeroE64 (w : World) : (zeroValue 2).run Try.prog w = .ok (.int .i64 0) w := by kernel_rfl

set_option maxHeartbeats 400000 in
theorem canon1_any (t : Tm) (w : World) (v : Value) (B pm mb : Nat) (l : List Int) (hk : t.kind = 0) (hn : nodeB t = true) (h : TmAt w B t v) (hB : B ≤ mb) (hI : InvC B pm mb l w) :
    Calls Try.prog 61 #[v, .pointer (some ⟨pm, 0, none⟩)] w fun e w' => ∃ u, e = .returned u ∧ TmNew w' w.heap.size (canG l t).2 u ∧ InvC B pm mb (canG l t).1 w' ∧ But (Off B w) w w' := by
  obtain ⟨A, cap, rfl, h1, h2, h3, h5, h6, hm, h7⟩ := h.form
  obtain ⟨hp, ⟨D, hown, hat, hhas, hsz⟩, hV⟩ := hI
  have hpl := lt_of_heap hp
  have hpc := cell_of_one hp
  have hmt : ¬ TBlk w mb := by
    rintro ⟨c, f, hc⟩
    obtain ⟨es, clock, h0, -⟩ := hown
    rw [hc] at h0
    cases h0
  have hbd := var_bd hk hn
  have hlen := hV.len
  have hml := hown.lt
  have hne : pm ≠ mb := by
    rintro rfl
    obtain ⟨es, clock, h0, -⟩ := hown
    rw [hp] at h0
    cases h0
  have Hk := Lib.hid hk
  have Hp := Lib.hid hp
  have Hat := Lib.hid hat
  have Hhas := Lib.hid hhas
  have Hsz := Lib.hid hsz
  clear hk hn hp hat hhas hsz
  have hown2 := (hown.alloc (TB t A cap)).alloc (TB zeroT none 0)
  have tok1 : True := trivial
  by_cases hin : t.num ∈ l
  · have hhx : Maps.has D (.int .i64 t.num) = true := by rw [Hhas.out]; simpa using hin
    have hidx : ((l.idxOf t.num : Nat) : Int) ≤ 1099511627777 := by have := List.idxOf_le_length (a := t.num) (l := l); omega
    have Hin := Lib.hid hin
    clear hin
    go_enter Try.func61, Try.ntmps61
    go_wp2_with (at_lookup; have _t := tok1; refine wpList_lookup_own_ok_int _ rfl _ _ 55 rfl 2 2 .i64 lawI Try.underlying55 Try.underlying2 (zeroE64 _) mb l.length D rfl hown2 _ _ rfl (keyOf_int_mk Try.underlying2 (WalkArith.wf_i64 (by omega))) ?_; intro c hc hwc; clear tok1)
    have hc' : c = (l.idxOf t.num : Int) := by
      have := hc
      rw [Hat.out, if_pos Hin.out] at this
      injection this with this
      injection this with _ this
      exact this.symm
    have hadd : addV l t.num = l := by unfold addV; rw [if_pos Hin.out]
    refine bodyPost_ret (v := .agg #[.int .i64 0, .int .i64 c, .string ⟨#[]⟩, .slice none 0 0]) (by simp [results, Try.results61, go_sem]) rfl
      ⟨_, rfl, ?_, ?_, (((But.refl _ _).alloc _).alloc _)⟩
    · rw [hc']
      simp only [canG, hadd]
      unfold TmNew TmIn
      exact ⟨none, 0, 0, rfl, by unfold wf64; omega, by unfold wf64; omega, by decide, rfl, by simp, by simp, by unfold maxLen; omega, by unfold ArgsIn; trivial⟩
    · simp only [canG, hadd]
      have hb2 : But Nil w ((w.alloc (TB t A cap)).alloc (.cells #[.int .i64 0, .int .i64 c, .string ⟨#[]⟩, .slice none 0 0] 24)) := ((But.refl _ _).alloc _).alloc _
      exact ⟨hb2.heap id Hp.out, MapI.but ⟨D, hown, Hat.out, Hhas.out, Hsz.out⟩ hb2 id, hV⟩
  · have hhx : Maps.has D (.int .i64 t.num) = false := by rw [Hhas.out]; simpa using hin
    have Hin := Lib.hid hin
    clear hin
    have tok2 : True := trivial
    go_enter Try.func61, Try.ntmps61
    go_wp2_with (first
      | (at_lookup; have _t := tok1; refine wpList_lookup_own_ok_int _ rfl _ _ 55 rfl 2 2 .i64 lawI Try.underlying55 Try.underlying2 (zeroE64 _) mb l.length D rfl hown2 _ _ rfl (keyOf_int_mk Try.underlying2 (WalkArith.wf_i64 (by omega))) ?_; intro c hc hwc; clear tok1)
      | (at_len; refine wpList_len_own _ rfl _ 55 rfl 2 2 Try.underlying55 _ mb l.length D rfl hown2 ?_; rw [Hsz.out])
      | (at_mapUpdate; refine wpList_mapUpdate_own _ rfl _ _ _ 55 rfl 2 2 lawI Try.underlying55 _ mb l.length D rfl hown2 (by unfold maxLen; omega) _ _ _ rfl rfl (keyOf_int_mk Try.underlying2 (WalkArith.wf_i64 (by omega))) (.lit (.int .i64 l.length)) [] (plainElem_int Try.underlying2 (WalkArith.wf_i64 (by omega))) ?_; intro w1 hown1 hgrow1
         have hb1 : But (· = mb) ((w.alloc (TB t A cap)).alloc (TB zeroT none 0)) w1 := (But.refl _ _).grown hgrow1 (fun k hk => .inl (by cases hk; rfl))
         have hz := hb1.heap (k := w.heap.size + 1) (by show ¬ (_ = mb); omega) (heap_new (by simp))
         obtain ⟨p0, p1, p2, p3⟩ := blk4 hz
         have f0 := frz hz
         have Hz := Lib.hid hz
         clear hz))
    have hb2 : But Nil w ((w.alloc (TB t A cap)).alloc (TB zeroT none 0)) := ((But.refl _ _).alloc _).alloc _
    have hb4 := (But.refl (· = w.heap.size + 1) w1).set4 (.inl rfl) (.int .i64 0) (.int .i64 l.length) (.string ⟨#[]⟩) (.slice none 0 0)
    obtain ⟨r0, r1, r2, r3⟩ := blk4 (set4 (a' := .int .i64 0) (b' := .int .i64 l.length) (c' := .string ⟨#[]⟩) (d' := .slice none 0 0) Hz.out)
    have hadd : addV l t.num = l ++ [t.num] := by unfold addV; rw [if_neg Hin.out]
    have hidx : (l ++ [t.num]).idxOf t.num = l.length := by rw [List.idxOf_append, if_neg Hin.out]; simp
    refine bodyPost_ret (v := .agg #[.int .i64 0, .int .i64 l.length, .string ⟨#[]⟩, .slice none 0 0]) (by simp [results, Try.results61, go_sem, r0, r1, r2, r3]) rfl
      ⟨_, rfl, ?_, ?_, ((hb2.of_nil (S := Off B w)).trans hb1 fun i hi _ => .inl (by subst hi; exact ⟨hB, hmt⟩)).trans hb4 fun i hi _ => .inr (by subst hi; omega)⟩
    · simp only [canG, hadd, hidx]
      unfold TmNew TmIn
      exact ⟨none, 0, 0, rfl, by unfold wf64; omega, by unfold wf64; omega, by decide, rfl, by simp, by simp, by unfold maxLen; omega, by unfold ArgsIn; trivial⟩
    · simp only [canG]
      have hVa := hV.add hbd.1 hbd.2
      rw [hadd] at hVa ⊢
      refine ⟨hb4.heap (by show ¬ (_ = _); omega) (hb1.heap hne (hb2.heap id Hp.out)), ?_, hVa⟩
      refine (MapI.put (f := fun n => (l.idxOf n : Int)) hown1 hown2.isMap (hown2.tidy lawI) Hat.out Hhas.out Hsz.out Hin.out ?_ ?_).but hb4 (by show ¬ (_ = _); omega)
      · rw [hidx]
      · intro n hn
        rw [List.idxOf_append, if_pos hn]

theorem canon1_enter (args : Array Value) (w : World) : (callFunc 61 args).run Try.prog w = .ok (.enter 61 args) w := by kernel_rfl

theorem InvC.keep {B pm mb : Nat} {l : List Int} {w w' : World} (h : InvC B pm mb l w) (hb : But (TBk B w) w w') : InvC B pm mb l w' := by
  obtain ⟨hp, hm, hV⟩ := h
  refine ⟨hb.heap (fun ⟨_, c, f, hc⟩ => by rw [hp] at hc; cases hc) hp, hm.but hb fun ⟨_, c, f, hc⟩ => ?_, hV⟩
  obtain ⟨es, clock, h0⟩ := hm.isMap
  rw [h0] at hc
  cases hc

theorem canon1_clo (B pm mb : Nat) (hB : B ≤ mb) : Clo 61 #[.pointer (some ⟨pm, 0, none⟩)] canG (InvC B pm mb) B where
  call s t w v hk hn _ ht hI := canon1_any t w v B pm mb s hk hn ht hB hI
  enter := canon1_enter
  keep _ _ _ hI hb := hI.keep hb

/-- The canonical form. -/
def canonT (t : Tm) : Tm := if validT t then (appT canG [] t).2 else zeroT

set_option maxHeartbeats 400000 in
theorem canon_any (t : Tm) (w : World) (v : Value) (h : TmAt w w.heap.size t v) :
    Calls Try.prog 22 #[v] w fun e w' => ∃ u, e = .returned u ∧ TmNew w' w.heap.size (canonT t) u ∧ But Nil w w' := by
  obtain ⟨A, cap, rfl, -⟩ := h.form
  have hk1 : But Nil w ((w.alloc (TB t A cap)).alloc (TB zeroT none 0)) := ((But.refl _ _).alloc _).alloc _
  have hmm := @run_makeMap Try.prog
  go_enter Try.func22, Try.ntmps22
  go_wp2_with fail
  refine (valid_any t _ _ (h.nil hk1)).mono ?_
  rintro e w1 ⟨rfl, hb1⟩
  have hk2 := hk1.trans_nil hb1
  obtain ⟨q0, q1, q2, q3⟩ := new4 (((But.refl Nil _).alloc _).trans_nil hb1) (w := w) id
  have hz := hb1.heap id (heap_new (w := w.alloc (TB t A cap)) (o := TB zeroT none 0) (k := w.heap.size + 1) (by simp))
  cases hv : validT t
  · have Hv := Lib.hid hv
    obtain ⟨p0, p1, p2, p3⟩ := blk4 hz
    have f0 := frz hz
    have hset := set4 (a' := .int .i64 0) (b' := .int .i64 0) (c' := .string ⟨#[]⟩) (d' := .slice none 0 0) hz
    have Hset := Lib.hid hset
    clear hset hz hv
    go_wp2_with fail
    obtain ⟨r0, r1, r2, r3⟩ := blk4 Hset.out
    have hb4 := (But.refl (· = w.heap.size + 1) w1).set4 (.inl rfl) (.int .i64 0) (.int .i64 0) (.string ⟨#[]⟩) (.slice none 0 0)
    refine bodyPost_ret (v := .agg #[.int .i64 0, .int .i64 0, .string ⟨#[]⟩, .slice none 0 0]) (by simp [results, Try.results22, go_sem, r0, r1, r2, r3]) rfl
      ⟨_, rfl, by simp only [canonT, Hv.out]; exact zero_new _ _, hk2.trans hb4 fun i hi _ => .inr (by subst hi; omega)⟩
  · have Hv := Lib.hid hv
    have Hz := Lib.hid hz
    have hlt := lt_of_heap Hz.out
    have hlt0 : w.heap.size < w1.heap.size := by omega
    clear hv hz
    go_wp2_with fail
    have hb3 : But Nil w1 ((w1.alloc (.map #[] 0)).alloc (.cells #[.map (some w1.heap.size)] 55)) := ((But.refl _ _).alloc _).alloc _
    have hk3 := hk2.trans_nil hb3
    have hI : InvC w1.heap.size (w1.heap.size + 1) w1.heap.size [] ((w1.alloc (.map #[] 0)).alloc (.cells #[.map (some w1.heap.size)] 55)) :=
      ⟨heap_new (by simp), (MapI.made _ _ _).but ((But.refl Nil _).alloc _) id, by simp, by simp⟩
    refine (apply_any (canon1_clo w1.heap.size (w1.heap.size + 1) w1.heap.size (Nat.le_refl _)) t [] _ _ (TmAt.keeps hk2.size hk3.keeps_nil _ h) (valid_fits Hv.out) (by simp; omega) hI).mono ?_
    rintro e w2 ⟨u, rfl, hnew, -, hb2⟩
    obtain ⟨A1, cap1, hu, -⟩ := hnew.form
    have hz2 := hb2.heap (fun hs => by have := hs.1; omega) (hb3.heap id Hz.out)
    obtain ⟨p0, p1, p2, p3⟩ := blk4 hz2
    have f0 := frz hz2
    have hset := set4 (a' := .int .i64 (appT canG [] t).2.kind) (b' := .int .i64 (appT canG [] t).2.num) (c' := .string (appT canG [] t).2.name) (d' := .slice A1 (appT canG [] t).2.args.length cap1) hz2
    have Hset := Lib.hid hset
    have Hu := Lib.hid hu
    have hbn : But Nil w w2 := hk3.trans hb2 fun i hi _ => .inr (by have := hi.1; omega)
    rw [hu]
    clear hset hz2 hu
    go_wp2_with fail
    obtain ⟨r0, r1, r2, r3⟩ := blk4 Hset.out
    have hb4 := (But.refl (· = w.heap.size + 1) w2).set4 (.inl rfl) (.int .i64 (appT canG [] t).2.kind) (.int .i64 (appT canG [] t).2.num) (.string (appT canG [] t).2.name) (.slice A1 (appT canG [] t).2.args.length cap1)
    refine bodyPost_ret (v := .agg #[.int .i64 (appT canG [] t).2.kind, .int .i64 (appT canG [] t).2.num, .string (appT canG [] t).2.name, .slice A1 (appT canG [] t).2.args.length cap1])
      (by simp [results, Try.results22, go_sem, r0, r1, r2, r3]) rfl ?_
    rw [← Hu.out]
    exact ⟨_, rfl, by simp only [canonT, Hv.out]; exact hnew.far hb4 (fun k hk => .inl (by subst hk; simp; omega)) (by simp; omega), hbn.trans hb4 fun i hi _ => .inr (by subst hi; omega)⟩

end Go.Proofs.Ytgedgmdbpembiaa
