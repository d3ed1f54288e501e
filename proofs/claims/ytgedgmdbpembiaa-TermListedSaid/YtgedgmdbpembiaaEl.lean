/-
  term.Elems: the walk.
-/
import Derived.Test.YtgedgmdbpembiaaLi
import Derived.Deep.LoopGhost
namespace Go.Proofs.Ytgedgmdbpembiaa
open Go.RowKit Go.Maps
set_option linter.unusedVariables false

mutual
/-- The elements of a list, and its tail. -/
def elT : Tm → List Tm × Tm
  | .mk k n s l => if k = 3 ∧ s = ⟨#[46]⟩ then elA (.mk k n s l) l else ([], .mk k n s l)
def elA (whole : Tm) : List Tm → List Tm × Tm
  | [a, b] => (a :: (elT b).1, (elT b).2)
  | _ => ([], whole)
end

def isCons (t : Tm) : Bool := decide (t.kind = 3) && (decide (t.name = ⟨#[46]⟩) && decide (t.args.length = 2))

theorem elT_cons {t : Tm} (h : isCons t = true) (h0 : 0 < t.args.length) (h1 : 1 < t.args.length) : elT t = (t.args[0] :: (elT t.args[1]).1, (elT t.args[1]).2) := by
  cases t with
  | mk k n s l =>
    simp only [isCons, Bool.and_eq_true] at h
    obtain ⟨h1, h2, h3⟩ := h
    have e1 : k = 3 := of_decide_eq_true h1
    have e2 : s = ⟨#[46]⟩ := of_decide_eq_true h2
    have h2 : l.length = 2 := of_decide_eq_true h3
    subst e1 e2
    match l, h2 with
    | [a, b], _ => simp [elT, elA, Tm.args]

theorem elT_else {t : Tm} (h : isCons t = false) : elT t = ([], t) := by
  cases t with
  | mk k n s l =>
    simp only [isCons, Tm.kind, Tm.name, Tm.args] at h
    unfold elT
    split
    · rename_i hks
      obtain ⟨rfl, rfl⟩ := hks
      match l, h with
      | [], _ => rfl
      | [a], _ => rfl
      | [a, b], h => simp at h
      | a :: b :: c :: r, _ => rfl
    · rfl

theorem cons_len {t : Tm} (h : isCons t = true) : t.args.length = 2 := by
  simp only [isCons, Bool.and_eq_true] at h
  exact of_decide_eq_true h.2.2

theorem nodes_args {t : Tm} {j : Nat} (hj : j < t.args.length) : nodesT t.args[j] + 1 ≤ nodesT t := by
  cases t with
  | mk k n s l =>
    have := nodes_get (l := l) hj
    simp only [nodesT, Tm.args]
    omega

theorem valid_args {t : Tm} (h : validT t = true) {j : Nat} (hj : j < t.args.length) : validT t.args[j] = true := by
  cases t with
  | mk k n s l => exact valid_arg h hj

def elemsT (t : Tm) : List Tm × Tm := if validT t then ((elT t).1.map cloneT, cloneT (elT t).2) else ([], zeroT)

/-- One more element. -/
theorem elems_step {w w1 wr w3 w4 : World} {g cap3 cap4 : Nat} {va : Value} {done : List Tm} {x : Tm} {xs : List Value} {A3 : Option Addr}
    (hw : w.heap.size < w1.heap.size) (hw1 : w1.heap.size ≤ wr.heap.size) (hown : wr.ownsRow w1.heap.size 24 4 va done.length xs) (hx : RowE wr w1.heap.size va done xs) (hb3 : But Nil wr w3)
    (hnew : TmNew w3 wr.heap.size x (VT x A3 cap3))
    (hown4 : w4.ownsRow w1.heap.size 24 4 (.slice (some ⟨g, 0, none⟩) (done.length + 1) cap4) (done.length + 1) (xs ++ C4 x A3 cap3))
    (hgrow : (w3.alloc (TB x A3 cap3)).grownBy w4 va.ownBlock) (hat : va.ownBlock = some g ∨ g = w3.heap.size + 1) :
    But (fun k => va.ownBlock = some k) w3 w4 ∧ (∀ k, va.ownBlock = some k → w1.heap.size ≤ k) ∧ RowT w4 w1.heap.size (.slice (some ⟨g, 0, none⟩) (done.length + 1) cap4) (done ++ [x]) := by
  have hba : But Nil w3 (w3.alloc (TB x A3 cap3)) := (But.refl _ _).alloc _
  have hb4 : But (fun k => va.ownBlock = some k) (w3.alloc (TB x A3 cap3)) w4 := (But.refl _ _).grown hgrow (fun k hk => .inl hk)
  refine ⟨(hba.of_nil).trans_same hb4, fun k hk => (hown.lt k hk).1, ?_⟩
  exact RowT.push ((own_but hown hb3 (fun _ _ => id)).alloc _) ((hx.but hb3 fun k hk => hk.elim).but hba fun k hk => hk.elim) rfl (hnew.but hba (fun k hk => hk.elim) (Nat.le_refl _)) hw1
    (fun k hk => (hown.lt k hk).2) hown4 hgrow (hat.imp id (fun e => by simp; omega))

set_option maxHeartbeats 2000000 in
theorem elems_any (t : Tm) (w : World) (v : Value) (h : TmAt w w.heap.size t v) :
    Calls Try.prog 37 #[v] w fun e w' => ∃ A cap u, e = .returned (.tuple #[.slice A (elemsT t).1.length cap, u]) ∧ (elemsT t).1.length ≤ cap ∧ (elemsT t).1.length ≤ 2000 ∧ cap ≤ maxLen ∧
      ArgsIn w' (fun b => w.heap.size ≤ b ∧ OBlk w' b) (elemsT t).1 A 0 ∧ TmNew w' w.heap.size (elemsT t).2 u ∧ But Nil w w' := by
  obtain ⟨A, cap, rfl, -⟩ := h.form
  obtain ⟨i0, hi0, hz0, hz1, hz2⟩ := info_parts Try.infoTerm
  have hk1 : But Nil w ((w.alloc (TB t A cap)).alloc (TB zeroT none 0)) := ((But.refl _ _).alloc _).alloc _
  have HT := Lib.hid h
  clear h
  go_enter Try.func37, Try.ntmps37
  go_wp2_with fail
  refine (valid_any t _ _ (HT.out.nil hk1)).mono ?_
  rintro e w1 ⟨rfl, hb1⟩
  have hk2 := hk1.trans_nil hb1
  have hz := hb1.heap id (heap_new (w := w.alloc (TB t A cap)) (o := TB zeroT none 0) (k := w.heap.size + 1) (by simp))
  have ht := hb1.heap id (heap_old (o := TB zeroT none 0) (heap_new (w := w) (o := TB t A cap) rfl))
  cases hv : validT t
  · have e1 : elemsT t = ([], zeroT) := by simp [elemsT, hv]
    have He1 := Lib.hid e1
    obtain ⟨p0, p1, p2, p3⟩ := blk4 hz
    have f0 := frz hz
    have Hset := Lib.hid (set4 (a' := .int .i64 0) (b' := .int .i64 0) (c' := .string ⟨#[]⟩) (d' := .slice none 0 0) hz)
    clear e1 hz ht hv
    go_wp2_with fail
    obtain ⟨r0, r1, r2, r3⟩ := blk4 Hset.out
    have hb4 := (But.refl (· = w.heap.size + 1) w1).set4 (.inl rfl) (.int .i64 0) (.int .i64 0) (.string ⟨#[]⟩) (.slice none 0 0)
    refine bodyPost_ret (v := .tuple #[.slice none 0 0, .agg #[.int .i64 0, .int .i64 0, .string ⟨#[]⟩, .slice none 0 0]]) (by simp [results, Try.results37, go_sem, r0, r1, r2, r3]) rfl ?_
    rw [He1.out]
    exact ⟨_, _, _, rfl, by simp, by simp, by unfold maxLen; omega, by unfold ArgsIn; trivial, zero_new _ _, hk2.trans hb4 fun i hi _ => .inr (by subst hi; omega)⟩
  · have Hv := Lib.hid hv
    have hn := valid_nodes hv
    have Hz := Lib.hid hz
    have Ht := Lib.hid ht
    have hlt1 := lt_of_heap hz
    have hlt1' : w.heap.size < w1.heap.size := by omega
    clear hz ht hv
    go_wp2_with fail
    go_loopg [4] (nodesT t) (fun k va wr => ∃ (cur : Tm) (A1 : Option Addr) (cap1 : Nat) (done : List Tm), nodesT cur = k ∧ validT cur = true ∧ done.length + nodesT cur ≤ 2000 ∧ wr.heap[w.heap.size]? = some (TB cur A1 cap1) ∧ TmIn wr (fun b => b < w.heap.size) cur (VT cur A1 cap1) ∧
        RowT wr w1.heap.size va done ∧ done ++ (elT cur).1.map cloneT = (elT t).1.map cloneT ∧ (elT cur).2 = (elT t).2 ∧ But (· = w.heap.size) w1 wr)
    case atStart => exact ⟨t, A, cap, [], rfl, Hv.out, by simp; omega, Ht.out, TmIn.keeps (fun k o hk hd => ⟨hk2.heap id hk, hd⟩) _ HT.out.lt, RowT.nil _ _, by simp, rfl, But.refl _ _⟩
    case round =>
      obtain ⟨cur, A1, cap1, done, hk, hvc, hdn, hblk, hcur, hrow, he1, he2, hbr⟩ := hrel
      obtain ⟨x0, x1, x2, x3⟩ := blk4 hblk
      have hgl := lt_of_heap hblk
      have HK := Lib.hid hk
      have Hvc := Lib.hid hvc
      have Hblk := Lib.hid hblk
      have Hcur := Lib.hid hcur
      have He1 := Lib.hid he1
      have He2 := Lib.hid he2
      clear hk hvc hblk hcur he1 he2
      by_cases hc : isCons cur = true
      · have hlen := cons_len hc
        have hc' := hc
        simp only [isCons, Bool.and_eq_true] at hc'
        have d1 : (cur.kind == 3) = true := by simpa using of_decide_eq_true hc'.1
        have d2 : (cur.name.toList == [46]) = true := by rw [of_decide_eq_true hc'.2.1, ByteArray.toList_eq]; rfl
        have d3 : ((cur.args.length : Int) == 2) = true := by simp; omega
        have Hc := Lib.hid hc
        have hl0 : 0 < cur.args.length := by omega
        have hl1 : 1 < cur.args.length := by omega
        obtain ⟨_, _, hve, -, -, -, -, -, -, hargs⟩ := Hcur.out.form
        injection hve with hve
        obtain ⟨rfl, rfl⟩ : A1 = _ ∧ cap1 = _ := by simpa using hve
        obtain ⟨b, o, A2, cap2, rfl, hb, e0, e1, e2, e3, hta⟩ := hargs.get hl0
        obtain ⟨b', o', A3, cap3, hbo, hb', g0, g1, g2, g3, htb⟩ := hargs.get hl1
        obtain ⟨rfl, rfl⟩ : b = b' ∧ o = o' := by simpa using hbo
        simp only [Nat.zero_mul, Nat.add_zero, Nat.one_mul] at e0 e1 e2 e3 g0 g1 g2 g3
        have Hta := Lib.hid hta
        have Htb := Lib.hid htb
        clear hc hc' hlen hargs hta htb hve hbo
        have hcons := elT_cons Hc.out hl0 hl1
        have Hcons := Lib.hid hcons
        have hnb := nodes_args hl1
        have hv1 := valid_args Hvc.out hl1
        have Hv1 := Lib.hid hv1
        obtain ⟨xs, hown, hxs⟩ := hrow
        have Hxs := Lib.hid hxs
        have hown' := Lib.hid hown
        have hat0 : TmAt wr wr.heap.size cur.args[0] _ := TmIn.keeps (fun k o hk hd => ⟨hk, .inl (lt_of_heap hk)⟩) _ Hta.out
        have Hat0 := Lib.hid hat0
        have hw1 := hbr.size
        have hbw1 : b < w1.heap.size := by have : b < w.heap.size := hb; omega
        have hdl : done.length + 1 ≤ 2000 := by have := nodes_pos cur; omega
        clear hcons hv1 hxs hat0
        go_wp2_with fail
        refine (clone_any cur.args[0] _ _ Hat0.out).mono ?_
        rintro e w3 ⟨u3, rfl, hnew3, hb3⟩
        obtain ⟨A4, cap4, rfl, -⟩ := hnew3.form
        have hw3 := hb3.size
        have hown3 := own_but hown hb3 (fun _ _ => id)
        have hg0 := hb3.cell id g0
        have hg1 := hb3.cell id g1
        have hg2 := hb3.cell id g2
        have hg3 := hb3.cell id g3
        have hblk3 := hb3.heap id Hblk.out
        have hbl : b < w3.heap.size := lt_of_cell hg0
        have Hblk3 := Lib.hid hblk3
        clear e0 e1 e2 e3 g0 g1 g2 g3 hown hblk3 x0 x1 x2 x3
        go_wp2_with (first
          | (at_builtin; refine wpList_append_lies _ rfl _ _ 22 rfl w1.heap.size 24 i0 _ 4 56 Try.underlying22 hi0 hz0 hz1 hz2 rfl (by omega) u4 done.length xs rfl (hown3.alloc _) ⟨w3.heap.size, 0, none⟩ 1 1 (C4 (cloneT cur.args[0]) A4 cap4) rfl rfl (World.news_of_block (cs := (C4 (cloneT cur.args[0]) A4 cap4).toArray) (t := 24) (fr := (0, 0)) (heap_alloc_new w3 _)) (by simp [Value.oneCell']) (by omega) (by unfold maxLen; omega) (by omega) (by simp; omega) (w3.heap.size + 1) (by simp) ?_
             intro gg cap5 w4 hown4 hgrow hat hlt
             obtain ⟨hb4, hrb, hrow4⟩ := elems_step hlt1' hw1 hown'.out Hxs.out hb3 hnew3 hown4 hgrow hat
             have hne : ∀ k, k < w1.heap.size → ¬ u4.ownBlock = some k := fun k hk e => by have := hrb k e; omega
             have hblk4 := hb4.heap (hne _ hlt1') Hblk3.out
             obtain ⟨x0, x1, x2, x3⟩ := blk4 hblk4
             have f4 := frz hblk4
             have hq0 := hb4.cell (hne _ hbw1) hg0
             have hq1 := hb4.cell (hne _ hbw1) hg1
             have hq2 := hb4.cell (hne _ hbw1) hg2
             have hq3 := hb4.cell (hne _ hbw1) hg3
             have hgl4 := lt_of_heap hblk4
             have Hblk4 := Lib.hid hblk4
             clear hblk4 hg0 hg1 hg2 hg3))
        go_roundg (nodesT cur.args[1])
        case measure => have := HK.out; omega
        case rel =>
          have hbs := (But.refl (· = w.heap.size) w4).set4 (.inl rfl) (.int .i64 cur.args[1].kind) (.int .i64 cur.args[1].num) (.string cur.args[1].name) (.slice A3 cur.args[1].args.length cap3)
          refine ⟨cur.args[1], A3, cap3, done ++ [cloneT cur.args[0]], rfl, Hv1.out, by simp; omega, set4 Hblk4.out, ?_, ?_, ?_, ?_, ?_⟩
          · exact TmIn.keeps (fun k o hk hd => ⟨hbs.heap (by show ¬ (_ = _); omega) (hb4.heap (hne _ (by omega)) (hb3.heap id hk)), hd⟩) _ Htb.out
          · exact hrow4.but hbs fun k hk => .inl (by subst hk; omega)
          · rw [← He1.out, Hcons.out]
            simp
          · rw [← He2.out, Hcons.out]
          · exact ((hbr.trans_nil hb3).trans hb4 fun i hi _ => .inr (hrb i hi)).trans_same hbs
      · have hfalse : isCons cur = false := by simpa using hc
        have Helse := Lib.hid (elT_else hfalse)
        have d0 : (cur.kind == 3) = true ∧ (cur.name.toList == [46]) = true → ((cur.args.length : Int) == 2) = false := fun ⟨h1, h2⟩ => by
          simp only [isCons] at hfalse
          rw [decide_eq_true (show cur.kind = 3 by simpa using h1)] at hfalse
          rw [decide_eq_true (show cur.name = ⟨#[46]⟩ from str_inj (by rw [ByteArray.toList_eq (⟨#[46]⟩ : ByteArray)]; simpa using h2))] at hfalse
          simp at hfalse
          simp
          omega
        have D0 := Lib.hid d0
        have hrow' := Lib.hid hrow
        clear hc hfalse d0 hrow
        have hcases : (cur.kind == 3) = false ∨ ((cur.kind == 3) = true ∧ (cur.name.toList == [46]) = false) ∨ ((cur.kind == 3) = true ∧ (cur.name.toList == [46]) = true ∧ ((cur.args.length : Int) == 2) = false) := by
          cases h1 : (cur.kind == 3)
          · exact .inl rfl
          · cases h2 : (cur.name.toList == [46])
            · exact .inr (.inl ⟨rfl, rfl⟩)
            · exact .inr (.inr ⟨rfl, rfl, D0.out ⟨h1, h2⟩⟩)
        have hw1 := hbr.size
        have hcat : TmAt wr wr.heap.size cur (VT cur A1 cap1) := TmIn.keeps (fun k o hk hd => ⟨hk, .inl (lt_of_heap hk)⟩) _ Hcur.out
        have Hcat := Lib.hid hcat
        have Hzr := Lib.hid (hbr.heap (by show ¬ (_ = _); omega) Hz.out)
        obtain ⟨Ad, capd, hud, hcd1, hcd2, hargs⟩ := hrow'.out.args
        have Hargs := Lib.hid hargs
        have Hud := Lib.hid hud
        clear hcat hargs hud
        rcases hcases with hd1 | ⟨hd1, hd2⟩ | ⟨hd1, hd2, hd3⟩
        all_goals
          go_wp2_with fail
          refine (clone_any cur _ _ Hcat.out).mono ?_
          rintro e w3 ⟨u3, rfl, hnew3, hb3⟩
          obtain ⟨A4, cap4, hu3, -⟩ := hnew3.form
          have hz3 := hb3.heap id Hzr.out
          obtain ⟨p0, p1, p2, p3⟩ := blk4 hz3
          have f0 := frz hz3
          have Hset := Lib.hid (set4 (a' := .int .i64 (cloneT cur).kind) (b' := .int .i64 (cloneT cur).num) (c' := .string (cloneT cur).name) (d' := .slice A4 (cloneT cur).args.length cap4) hz3)
          have Hu3 := Lib.hid hu3
          rw [hu3]
          clear hz3 hu3
          go_wp2_with fail
          obtain ⟨r0, r1, r2, r3⟩ := blk4 Hset.out
          have hb6 := (But.refl (· = w.heap.size + 1) w3).set4 (.inl rfl) (.int .i64 (cloneT cur).kind) (.int .i64 (cloneT cur).num) (.string (cloneT cur).name) (.slice A4 (cloneT cur).args.length cap4)
          rw [Hud.out]
          refine bodyPost_ret (v := .tuple #[.slice Ad done.length capd, VT (cloneT cur) A4 cap4]) (by simp [results, Try.results37, go_sem, r0, r1, r2, r3]) rfl ?_
          have e1 : elemsT t = (done, cloneT cur) := by
            have h1 := He1.out
            have h2 := He2.out
            rw [Helse.out] at h1 h2
            simp at h1 h2
            simp [elemsT, Hv.out, ← h1, ← h2]
          rw [e1, VT, ← Hu3.out]
          refine ⟨Ad, capd, u3, rfl, hcd1, by show done.length ≤ 2000; omega, hcd2, ArgsIn.keeps (fun k o hk hd => ?_) Hargs.out, ?_, ?_⟩
          · have hne : k ≠ w.heap.size + 1 := by have := hd.1; omega
            exact ⟨hb6.heap hne (hb3.heap id hk), by have := hd.1; omega, (hd.2.but hb3 id).but hb6 hne⟩
          · exact hnew3.far hb6 (fun k hk => .inl (by subst hk; omega)) (by omega)
          · exact ((hk2.trans hbr fun i hi _ => .inr (by subst hi; omega)).trans_nil hb3).trans hb6 fun i hi _ => .inr (by subst hi; omega)

end Go.Proofs.Ytgedgmdbpembiaa
