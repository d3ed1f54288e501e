/-
  Lemmas of the walk and plain laws, put together. No condition.
-/
import Derived.Test.YtcjapglipkmbhaaZc
namespace Go.Proofs.Ytcjapglipkmbhaa
open Go.RowKit
set_option linter.unusedVariables false

/-- The tree of a function with a range over slices.Backward. -/
def treeU (P : Program) (tbl : Tbl) (ann : Ann) (ct : Ct) (fn : Func) (cd : Code) : Tree :=
  toU P tbl ann ct.ar.length fn.ntmps cd (dataN ct.ars) (begS ct) (endT ct fn.results.toList)

def shut (w : World) (D : Nat) : World := w.putObj D (.deferred none)
def shutAll (w : World) (Ds : List Nat) : World := Ds.foldl shut w

theorem marks_end {F : Fence} {n : Nat} {fn : Func} {tmps : Array Value} {R : Ending → World → Prop} : ∀ (Ds : List Nat) (w : World), Ds.Nodup → (∀ D ∈ Ds, w.heap[D]? = some (.deferred (some []))) → LeavesIn F n Try.prog fn tmps R [] .returning (shutAll w Ds) → LeavesInM F n Try.prog fn tmps R (Ds.map markD) .returning w
  | [], w, _, _, h => h
  | D :: Ds, w, hn, hd, h => by
    obtain ⟨h1, h2⟩ := List.nodup_cons.1 hn
    exact ⟨by simp, .inl ⟨D, _, rfl, run_takeDeferred (hd D List.mem_cons_self), marks_end Ds _ h2 (fun D' hD' => (World.putObj_heap_other (fun e => h1 (by rw [← e]; exact hD'))).trans (hd D' (List.mem_cons_of_mem _ hD'))) h⟩⟩

theorem marks_same {A : Nat → Prop} {p : Pins} (pa : ∀ x b, p x = some b → A b) : ∀ (Ds : List Nat) (w : World), (∀ D ∈ Ds, ¬ A D) → Stab A no no p w p (shutAll w Ds)
  | [], w, _ => Stab.refl _ _ _ _ _
  | D :: Ds, w, h => by
    have h1 := turn_stab (w := w) (h D List.mem_cons_self) pa (.deferred none)
    have h2 := marks_same pa Ds (w.putObj D (.deferred none)) fun D' hD' => h D' (List.mem_cons_of_mem _ hD')
    exact ⟨Nat.le_trans h1.size h2.size, fun b hb ha hf => ⟨(h2.free b (Nat.lt_of_lt_of_le hb h1.size) ha hf).1.trans (h1.free b hb ha hf).1, hf⟩, fun x b _ hx => hx, fun x b _ hx => (h2.con x b rfl hx).trans (h1.con x b rfl hx)⟩

theorem marks_bs {A A' : Nat → Prop} {p : Pins} {w0 : World} {S0 : Nat → Prop} (pa : ∀ x b, p x = some b → A' b) : ∀ (Ds : List Nat) (w : World), Bs A w0 S0 p w → (∀ D ∈ Ds, w0.heap.size ≤ D ∧ ¬ A' D) → Bs A w0 S0 p (shutAll w Ds)
  | [], w, h, _ => h
  | D :: Ds, w, h, hD => by
    obtain ⟨h1, h2⟩ := hD D List.mem_cons_self
    refine marks_bs pa Ds (w.putObj D (.deferred none)) ⟨h.inj, fun x b hx => by simpa using h.bd x b hx, ⟨h.but.os, h.but.tape, h.but.output, by simpa using h.but.size, fun k hk hn => (World.putObj_heap_other (by omega)).trans (h.but.block k hk hn)⟩, h.pin, h.new, h.pa, fun x b hx => (h.obj x b hx).same (World.putObj_heap_other (fun e => h2 (by rw [← e]; exact pa x b hx)))⟩ fun D' hD' => hD D' (List.mem_cons_of_mem _ hD')

theorem ResL.chA {A A' : Nat → Prop} {p : Pins} {w : World} (hA : ∀ b, b < w.heap.size → A b → A' b) : ∀ {rs : List (Ty × Bool)} {k : Nat} {vs : List Value} {ds : List D}, ResL A p w rs k vs ds → ResL A' p w rs k vs ds
  | [], _, _, _, h => h
  | (t, own) :: l, k, vs, ds, ⟨v, r, d, ds', e1, e2, ⟨cs, hp, hc⟩, h⟩ => ⟨v, r, d, ds', e1, e2, ⟨cs, hp, hc.chA hA⟩, ResL.chA hA h⟩
theorem RefL.chA {A A' : Nat → Prop} {p p' : Pins} {w : World} (hA : ∀ b, b < w.heap.size → A b → A' b) : ∀ {all : List (Nat × Ar)} {ds : List D}, RefL A p p' w all ds → RefL A' p p' w all ds
  | [], _, h => h
  | (i, r) :: l, ds, h => by
    cases r with
    | ref t =>
      obtain ⟨d, ds', e, ⟨g, cs, T, h1, h2, h3, hc⟩, h⟩ := h
      exact ⟨d, ds', e, ⟨g, cs, T, h1, h2, h3, hc.chA hA⟩, RefL.chA hA h⟩
    | _ => exact RefL.chA hA (all := l) h

set_option maxHeartbeats 1000000 in
theorem fok_ofU {ct : Ct} {g : List D → Option (List D)} {tbl : Tbl} (ann : Ann) (fn : Func) (cd : Code) (htb : TblOk tbl) (hbw : ∀ e ∈ bwTab, ∀ (args : Array Value) (w : World), (callFunc e.2.1 args).run Try.prog w = .ok (.enter e.2.1 args) w) (hf : Try.prog.funcs[ct.f]? = some fn) (hb : fn.body = some cd)
    (hen : ∀ args w, (callFunc ct.f args).run Try.prog w = .ok (.enter ct.f args) w) (hsz : ct.ar.length ≤ fn.ntmps)
    (h : ∀ ds outs, WfA ct.ars ds → g ds = some outs → (treeU Try.prog tbl ann ct fn cd).go (tblS tbl) (fun o => o = outs) ds fun _ _ => False) : FOk ct g := by
  refine ⟨hen, fun A p w vs us ds outs hg hpre hvl hargs => callsIn_wide.1 (callsIn_of_wp_marks (F := FR none) (n := 5) hf hb trivial ?_)⟩
  obtain ⟨hwf, hdl, -⟩ := hargs.wf
  rw [all_map] at hwf hdl
  have hgo := h ds outs hwf hg
  let c : Cx := ⟨evl (tblS tbl) ds, A, ct.ar.length, fun k g => (k < ct.ar.length ∨ VB ≤ k) → p (k * 16) = some g, fun k g hk h2 h => absurd h (by omega), fun q => (vs ++ us).getD q undef⟩
  have hb0 : Bs c.A w (pinned p) p w := ⟨hpre.inj, hpre.bd, But.refl _ _, fun x b hx => .inl ⟨x, hx⟩, hpre.new, hpre.pa, hpre.obj⟩
  have hsf : SF (c.at (tblS tbl) ds) (begS ct) p w { tmps := vs.toArray ++ Array.replicate (fn.ntmps - vs.toArray.size) undef, defers := [] } := by
    refine ⟨fun t x hx => ?_, begM_ok (c := c.at (tblS tbl) ds) (A := A) rfl (fun k => rfl) hargs fun e he => List.mem_iff_getElem?.1 he⟩
    obtain ⟨h1, h2⟩ := begT_ok (c := c.at (tblS tbl) ds) (A := A) (n0 := ct.ar.length) rfl rfl rfl hargs (fun k => rfl) _ _ t x hx
    have hlt : t < vs.length := by omega
    refine ⟨(vs ++ us).getD t undef, ?_, h2⟩
    show (vs.toArray ++ _)[t]? = _
    rw [Array.getElem?_append_left (by simpa using hlt), List.getD_eq_getElem?_getD, List.getElem?_append_left hlt]
    simp [List.getElem?_eq_getElem hlt]
  refine toU_ok (nn := 5) (by omega) htb hbw cd (c := c) hgo rfl hdl hb0 hsf (by simp; omega) fun n' r σ' l' B' p' w' a' c2 hl' hpre' hgo' hlo2 hT2 hA2 hb' hbn hf' hd' hz' => ?_
  obtain ⟨Ds, hds, hnd, hDs⟩ := hd'
  have hds : a'.defers = Ds.map markD := by rw [hds]; simp
  have hst := marks_same hbn.pa Ds w' fun D hD => (hDs D hD).2.2
  have hbF := marks_bs hbn.pa Ds w' hb' fun D hD => ⟨(hDs D hD).1, (hDs D hD).2.2⟩
  have hfF : SF (c2.at (tblS tbl) l') σ' p' (shutAll w' Ds) a' := SF.same hst hf'
  have hbnF : Bs c2.A (shutAll w' Ds) (pinned p') p' (shutAll w' Ds) := ⟨hbF.inj, hbF.bd, But.refl _ _, fun x b hx => .inl ⟨x, hx⟩, fun b hb => hbn.new b (Nat.le_trans hst.size hb), hbn.pa, hbF.obj⟩
  have fin' : ∀ xs, fin ct fn.results.toList σ' = some xs → X.evs (evl (tblS tbl) l') xs = outs → ∃ v, (results fn a'.tmps).run Try.prog (shutAll w' Ds) = .ok v (shutAll w' Ds) ∧ ∃ rs p2, (Ending.returned v) = .returned (retV rs) ∧ Bs A w (pinned p) p2 (shutAll w' Ds) ∧ ResL A p2 (shutAll w' Ds) ct.rs ct.ar.length rs (outs.take ct.rs.length) ∧ RefL A p p2 (shutAll w' Ds) ct.all (outs.drop ct.rs.length) := by
    intro xs hfin hout
    unfold fin at hfin
    simp only at hfin
    split at hfin
    · rename_i hok
      simp only [Bool.and_eq_true] at hok
      split at hfin
      · rename_i xa xb hxa hxb
        injection hfin with hfin
        subst hfin
        have hb1 := hbnF.un (fun y => !hasN ((resRen σ' (fn.results.toList.zip ct.rs) ct.ar.length ++ refRen σ' ct.all).map (·.1) ++ (refKeys ct.all ++ cellKeys σ' fn.results.toList)) y)
        have hf1 := SF.un (c := c2.at (tblS tbl) l') (q := fun y => !hasN ((resRen σ' (fn.results.toList.zip ct.rs) ct.ar.length ++ refRen σ' ct.all).map (·.1) ++ (refKeys ct.all ++ cellKeys σ' fn.results.toList)) y) hbnF.inj hbnF.pa hfF
        obtain ⟨p2, hb2, hf2⟩ := ren_ok (c := c2.at (tblS tbl) l') hok.1 hb1 hf1
        obtain ⟨l, h1, h2, h3⟩ := resX_ok hf2 (Nat.eq_of_beq_eq_true hok.2) hxa
        have h4 := refX_ok (p0 := p) (n0 := ct.ar.length) hf2 hT2 (fun e he => all_key he) hxb
        have hev : X.evs (evl (tblS tbl) l') xa ++ X.evs (evl (tblS tbl) l') xb = outs := by rw [← evs_app]; exact hout
        have hla : (X.evs (evl (tblS tbl) l') xa).length = ct.rs.length := by rw [evs_len, h3]
        refine ⟨_, results_run h1, l, p2, rfl, hbF.up hb2 hA2, ResL.chA (A := c2.A) (fun b _ h => hA2 b h) ?_, RefL.chA (A := c2.A) (fun b _ h => hA2 b h) ?_⟩
        · rw [← hev, List.take_append_of_le_length (by omega), ← hla, List.take_length]
          exact h2
        · rw [← hev, ← hla, List.drop_left]
          exact h4
      · cases hfin
    · cases hfin
  have last : ∀ xs, fin ct fn.results.toList σ' = some xs → X.evs (evl (tblS tbl) l') xs = outs → LeavesInM (FR none) 5 Try.prog fn a'.tmps (fun e w' => ∃ rs p', e = .returned (retV rs) ∧ Bs A w (pinned p) p' w' ∧ ResL A p' w' ct.rs ct.ar.length rs (outs.take ct.rs.length) ∧ RefL A p p' w' ct.all (outs.drop ct.rs.length)) a'.defers .returning w' := fun xs hx ho => by
    rw [hds]
    exact marks_end Ds w' hnd (fun D hD => (hDs D hD).2.1) (fin' xs hx ho)
  cases r with
  | exit i => exact hgo'.elim
  | normal =>
    simp only [endT] at hgo'
    split at hgo'
    · rename_i xs hx
      exact last xs hx hgo'
    · exact hgo'.elim
  | ret =>
    simp only [endT] at hgo'
    split at hgo'
    · rename_i xs hx
      exact last xs hx hgo'
    · exact hgo'.elim
end Go.Proofs.Ytcjapglipkmbhaa

namespace Go.Proofs.Ytcjapglipkmbhaa
open Go.RowKit
set_option linter.unusedVariables false
set_option linter.unusedSimpArgs false

theorem int_i (n : Int) : (D.i n).int = n := rfl
theorem tt_b (x : Bool) : (D.b x).tt = x := by cases x <;> rfl
theorem rs_r (l : List D) : (D.r l).rs = l := rfl
theorem fs_a (l : List D) : (D.a l).fs = l := rfl
theorem str_s (x : ByteArray) : (D.s x).str = x := rfl
theorem ms_mp (l : List D) : (D.mp l).ms = l := rfl
theorem i_inj (m n : Int) : (D.i m = D.i n) = (m = n) := by simp
theorem b_inj (m n : Bool) : (D.b m = D.b n) = (m = n) := by simp
theorem s_inj (m n : ByteArray) : (D.s m = D.s n) = (m = n) := by simp
theorem a_inj (m n : List D) : (D.a m = D.a n) = (m = n) := by simp
theorem r_inj (m n : List D) : (D.r m = D.r n) = (m = n) := by simp

theorem go_need {S : Nat → List D → Option (List D)} {R : List D → Prop} {ns : List X} {t : Tree} {l : List D} {B : Nat → List D → Prop} : (Tree.need ns t).go S R l B = (allSay (evl S l) ns ∧ t.go S R l B) := rfl
theorem go_br {S : Nat → List D → Option (List D)} {R : List D → Prop} {x : X} {t e : Tree} {l : List D} {B : Nat → List D → Prop} : (Tree.br x t e).go S R l B = (((x.ev (evl S l)).tt = true → t.go S R l B) ∧ ((x.ev (evl S l)).tt = false → e.go S R l B)) := rfl
theorem go_leaf {S : Nat → List D → Option (List D)} {R : List D → Prop} {xs : List X} {l : List D} {B : Nat → List D → Prop} : (Tree.leaf xs).go S R l B = R (X.evs (evl S l) xs) := rfl
theorem go_back {S : Nat → List D → Option (List D)} {R : List D → Prop} {id : Nat} {xs : List X} {l : List D} {B : Nat → List D → Prop} : (Tree.back id xs).go S R l B = B id (X.evs (evl S l) xs) := rfl
theorem go_loop {S : Nat → List D → Option (List D)} {R : List D → Prop} {id n : Nat} {init : List X} {body : Tree} {l : List D} {B : Nat → List D → Prop} : (Tree.loop id n init body).go S R l B = ∃ (I : List D → Prop) (μ : List D → Nat), I (X.evs (evl S l) init) ∧
      ∀ st, st.length = init.length → I st → body.go S R (l.take n ++ st) (updB B id fun st' => I st' ∧ μ st' < μ st) := rfl
theorem rng64 {n : Int} : rngB .i64 n = true ↔ -9223372036854775808 ≤ n ∧ n ≤ 9223372036854775807 := by simp [rngB]

section
variable {α : Type} [Inhabited α]
theorem get_map (e : α → D) {l : List α} {i : Nat} (h : i < l.length) : (l.map e).getD i .u = e (l.getD i default) := by
  simp [List.getD_eq_getElem?_getD, h]
theorem get_r (e : α → D) {l : List α} {i : Int} (h0 : 0 ≤ i) (h : i < l.length) : (D.r (l.map e)).get i = e (l.getD i.toNat default) := get_map e (by omega)
theorem get_n (e : α → D) {l : List α} {i : Nat} (h : i < l.length) : (D.r (l.map e)).get (i : Int) = e (l.getD i default) := get_map e (by simpa using h)
omit [Inhabited α] in
theorem map_inj {e : α → D} (he : ∀ a b, e a = e b → a = b) : ∀ {l m : List α}, l.map e = m.map e → l = m
  | [], [], _ => rfl
  | a :: l, b :: m, h => by
    simp only [List.map_cons, List.cons.injEq] at h
    rw [he a b h.1, map_inj he h.2]
  | [], _ :: _, h => by simp at h
  | _ :: _, [], h => by simp at h
omit [Inhabited α] in
theorem of_all {e : α → D} {P : α → Prop} {l : List D} (h : ∀ x ∈ l, ∃ a, x = e a ∧ P a) : ∃ m : List α, l = m.map e ∧ ∀ a ∈ m, P a := by
  induction l with
  | nil => exact ⟨[], rfl, fun a ha => by cases ha⟩
  | cons x l ih =>
    obtain ⟨a, rfl, ha⟩ := h x List.mem_cons_self
    obtain ⟨m, rfl, hm⟩ := ih fun y hy => h y (List.mem_cons_of_mem _ hy)
    refine ⟨a :: m, rfl, fun b hb => ?_⟩
    rcases List.mem_cons.1 hb with rfl | hb
    · exact ha
    · exact hm b hb
theorem getD_mem {l : List α} {i : Nat} (h : i < l.length) : l.getD i default ∈ l := by
  rw [List.getD_eq_getElem?_getD, List.getElem?_eq_getElem h]
  exact List.getElem_mem h
theorem take_snoc {l : List α} {k : Nat} (h : k < l.length) : l.take (k + 1) = l.take k ++ [l.getD k default] := by
  rw [List.take_add_one, List.getElem?_eq_getElem h]
  simp [List.getD_eq_getElem?_getD, h]
end

theorem all_yes {n : Nat} {P : Nat → Bool} (h : ∀ j, j < n → P j = true) : (List.range n).all P = true := by
  rw [List.all_eq_true]
  exact fun j hj => h j (List.mem_range.1 hj)
theorem all_not {n k : Nat} {P : Nat → Bool} (hk : k < n) (h : P k = false) : (List.range n).all P = false := by
  cases ha : (List.range n).all P with
  | false => rfl
  | true => rw [List.all_eq_true.1 ha k (List.mem_range.2 hk)] at h; cases h
theorem all_of {n k : Nat} {P : Nat → Bool} (h : (List.range n).all P = true) (hk : k < n) : P k = true := List.all_eq_true.1 h k (List.mem_range.2 hk)
theorem upto_succ {P : Nat → Prop} {k : Nat} (h : ∀ j, j < k → P j) (hk : P k) : ∀ j, j < k + 1 → P j := fun j hj => by
  rcases Nat.lt_succ_iff_lt_or_eq.1 hj with h1 | h1
  · exact h j h1
  · exact h1 ▸ hk

theorem wfL2 {ds : List D} {t u : Ty} (h : WfL ds [t, u]) : ∃ a b, ds = [a, b] ∧ Wf a t ∧ Wf b u := by
  match ds, h with
  | [], h => cases h
  | [a], h => obtain ⟨t, ts, e, h1, h2⟩ := h; rw [h2] at e; cases e
  | [a, b], h =>
    obtain ⟨t, ts, e, h1, t2, ts2, e2, h2, -⟩ := h
    injection e with e e'
    subst e e'
    injection e2 with e2 e2'
    subst e2
    exact ⟨a, b, rfl, h1, h2⟩
  | a :: b :: c :: l, h => obtain ⟨t, ts, e, h1, t2, ts2, e2, h2, t3, ts3, e3, -⟩ := h; subst e2 e3; cases e
theorem wfL_cons {ds : List D} {t : Ty} {ts : List Ty} (h : WfL ds (t :: ts)) : ∃ a r, ds = a :: r ∧ Wf a t ∧ WfL r ts := by
  match ds, h with
  | [], h => cases h
  | a :: r, h =>
    obtain ⟨t, ts, e, h1, h2⟩ := h
    injection e with e e'
    subst e e'
    exact ⟨a, r, rfl, h1, h2⟩
theorem wfL_nil {ds : List D} (h : WfL ds []) : ds = [] := by
  match ds, h with
  | [], _ => rfl
  | a :: r, h => obtain ⟨t, ts, e, -⟩ := h; cases e
theorem Wf.st_of {d : D} {S : TypeId} {fs : List Ty} (h : Wf d (.st S)) (hf : flds S = some fs) : ∃ ds, d = .a ds ∧ WfL ds fs := by
  obtain ⟨ds, fs', rfl, hf', hl⟩ := h.st
  rw [hf] at hf'
  injection hf' with hf'
  subst hf'
  exact ⟨ds, rfl, hl⟩
theorem Wf.row_of {d : D} {E : TypeId} {te : Ty} (h : Wf d (.row E)) (hE : tyOf E = some te) : ∃ l, d = .r l ∧ l.length ≤ LIM ∧ ∀ x ∈ l, Wf x te := by
  obtain ⟨l, te', rfl, hE', h1, h2⟩ := h.row
  rw [hE] at hE'
  injection hE' with hE'
  subst hE'
  exact ⟨l, rfl, h1, h2⟩
end Go.Proofs.Ytcjapglipkmbhaa

namespace Go.Proofs.Ytcjapglipkmbhaa
open Go.RowKit
set_option linter.unusedVariables false

abbrev T_Cells : Ty := .row 29
abbrev T_Symbols : Ty := .row 59
abbrev T_Undos : Ty := .row 45
abbrev T_Wakes : Ty := .row 50
abbrev T_Store : Ty := .st 26
abbrev T_Cell : Ty := .st 28
abbrev T_Errno : Ty := .int .i64
abbrev T_Undo : Ty := .st 44
abbrev T_Wake : Ty := .st 49
abbrev T_Symbol : Ty := .st 58
def ct_trail_kept : Ct := ⟨34, [.val (.st 28)], [(.st 28, false)], []⟩
theorem enter_trail_kept (args : Array Value) (w : World) : (callFunc ct_trail_kept.f args).run Try.prog w = .ok (.enter ct_trail_kept.f args) w := by kernel_rfl
def ann_trail_kept : Ann := ⟨[0, 1, 2, 5], []⟩
def tree_trail_kept : Tree := (.br (.eq (.fld (.tok 0) 0) (.lit (.i 5))) (.leaf [(.set (.tok 0) 0 (.lit (.i 0)))]) (.leaf [(.tok 0)]))
set_option maxRecDepth 100000 in
theorem code_trail_kept : ∀ cd, Try.f34.body = some cd → treeOf Try.prog [] ann_trail_kept ct_trail_kept Try.f34 cd = tree_trail_kept := by
  intro cd h
  injection h with h
  subst h
  kernel_rfl
theorem fok_trail_kept {g : List D → Option (List D)}  (h : ∀ ds outs, WfA ct_trail_kept.ars ds → g ds = some outs → tree_trail_kept.go (tblS []) (fun o => o = outs) ds fun _ _ => False) : FOk ct_trail_kept g :=
  fok_of ann_trail_kept Try.f34 _ .nil rfl rfl enter_trail_kept (by decide) fun ds outs hw hg => by rw [code_trail_kept  _ rfl]; exact h ds outs hw hg

def ct_ref30_Kept : Ct := ⟨37, [.val (.st 28)], [(.st 28, false)], []⟩
theorem enter_ref30_Kept (args : Array Value) (w : World) : (callFunc ct_ref30_Kept.f args).run Try.prog w = .ok (.enter ct_ref30_Kept.f args) w := by kernel_rfl
def ann_ref30_Kept : Ann := ⟨[0, 1, 2, 5], []⟩
def tree_ref30_Kept : Tree := (.br (.eq (.fld (.tok 0) 0) (.lit (.i 5))) (.leaf [(.mk [(.lit (.i 0)), (.fld (.tok 0) 1)])]) (.leaf [(.tok 0)]))
set_option maxRecDepth 100000 in
theorem code_ref30_Kept : ∀ cd, Try.f37.body = some cd → treeOf Try.prog [] ann_ref30_Kept ct_ref30_Kept Try.f37 cd = tree_ref30_Kept := by
  intro cd h
  injection h with h
  subst h
  kernel_rfl
theorem fok_ref30_Kept {g : List D → Option (List D)}  (h : ∀ ds outs, WfA ct_ref30_Kept.ars ds → g ds = some outs → tree_ref30_Kept.go (tblS []) (fun o => o = outs) ds fun _ _ => False) : FOk ct_ref30_Kept g :=
  fok_of ann_ref30_Kept Try.f37 _ .nil rfl rfl enter_ref30_Kept (by decide) fun ds outs hw hg => by rw [code_ref30_Kept  _ rfl]; exact h ds outs hw hg

def ct_law31_ref : Ct := ⟨17, [.val (.int .i64)], [(.st 28, false)], []⟩
theorem enter_law31_ref (args : Array Value) (w : World) : (callFunc ct_law31_ref.f args).run Try.prog w = .ok (.enter ct_law31_ref.f args) w := by kernel_rfl
def ann_law31_ref : Ann := ⟨[0, 2], []⟩
def tree_law31_ref : Tree := (.leaf [(.mk [(.lit (.i 0)), (.tok 0)])])
set_option maxRecDepth 100000 in
theorem code_law31_ref : ∀ cd, Try.f17.body = some cd → treeOf Try.prog [] ann_law31_ref ct_law31_ref Try.f17 cd = tree_law31_ref := by
  intro cd h
  injection h with h
  subst h
  kernel_rfl
theorem fok_law31_ref {g : List D → Option (List D)}  (h : ∀ ds outs, WfA ct_law31_ref.ars ds → g ds = some outs → tree_law31_ref.go (tblS []) (fun o => o = outs) ds fun _ _ => False) : FOk ct_law31_ref g :=
  fok_of ann_law31_ref Try.f17 _ .nil rfl rfl enter_law31_ref (by decide) fun ds outs hw hg => by rw [code_law31_ref  _ rfl]; exact h ds outs hw hg

def ct_law31_num : Ct := ⟨18, [.val (.int .i64)], [(.st 28, false)], []⟩
theorem enter_law31_num (args : Array Value) (w : World) : (callFunc ct_law31_num.f args).run Try.prog w = .ok (.enter ct_law31_num.f args) w := by kernel_rfl
def ann_law31_num : Ann := ⟨[0, 2], []⟩
def tree_law31_num : Tree := (.leaf [(.mk [(.lit (.i 1)), (.tok 0)])])
set_option maxRecDepth 100000 in
theorem code_law31_num : ∀ cd, Try.f18.body = some cd → treeOf Try.prog [] ann_law31_num ct_law31_num Try.f18 cd = tree_law31_num := by
  intro cd h
  injection h with h
  subst h
  kernel_rfl
theorem fok_law31_num {g : List D → Option (List D)}  (h : ∀ ds outs, WfA ct_law31_num.ars ds → g ds = some outs → tree_law31_num.go (tblS []) (fun o => o = outs) ds fun _ _ => False) : FOk ct_law31_num g :=
  fok_of ann_law31_num Try.f18 _ .nil rfl rfl enter_law31_num (by decide) fun ds outs hw hg => by rw [code_law31_num  _ rfl]; exact h ds outs hw hg

def ct_law31_three : Ct := ⟨16, [], [(.st 26, true)], []⟩
theorem enter_law31_three (args : Array Value) (w : World) : (callFunc ct_law31_three.f args).run Try.prog w = .ok (.enter ct_law31_three.f args) w := by kernel_rfl
def ann_law31_three : Ann := ⟨[0], []⟩
def tree_law31_three : Tree := (.need [(.ok 0 [(.lit (.i 0))]), (.ok 0 [(.lit (.i 1))]), (.ok 1 [(.lit (.i 7))])] (.leaf [(.set (.set (.lit (.a [(.r []), (.r []), (.r []), (.r []), (.i 0), (.i 0)])) 0 (.row [(.call 0 0 [(.lit (.i 0))]), (.call 0 0 [(.lit (.i 1))]), (.call 1 0 [(.lit (.i 7))])])) 5 (.lit (.i 10)))]))
set_option maxRecDepth 100000 in
theorem code_law31_three (g0 g1 : List D → Option (List D)) : ∀ cd, Try.f16.body = some cd → treeOf Try.prog [(ct_law31_ref, g0), (ct_law31_num, g1)] ann_law31_three ct_law31_three Try.f16 cd = tree_law31_three := by
  intro cd h
  injection h with h
  subst h
  kernel_rfl
theorem fok_law31_three {g0 g1 : List D → Option (List D)} {g : List D → Option (List D)} (h0 : FOk ct_law31_ref g0) (h1 : FOk ct_law31_num g1) (h : ∀ ds outs, WfA ct_law31_three.ars ds → g ds = some outs → tree_law31_three.go (tblS [(ct_law31_ref, g0), (ct_law31_num, g1)]) (fun o => o = outs) ds fun _ _ => False) : FOk ct_law31_three g :=
  fok_of ann_law31_three Try.f16 _ (.cons h0 (.cons h1 .nil)) rfl rfl enter_law31_three (by decide) fun ds outs hw hg => by rw [code_law31_three g0 g1 _ rfl]; exact h ds outs hw hg

def ct_trail_Mark : Ct := ⟨12, [.val (.st 26)], [(.int .i64, false)], []⟩
theorem enter_trail_Mark (args : Array Value) (w : World) : (callFunc ct_trail_Mark.f args).run Try.prog w = .ok (.enter ct_trail_Mark.f args) w := by kernel_rfl
def ann_trail_Mark : Ann := ⟨[0, 1, 2], []⟩
def tree_trail_Mark : Tree := (.leaf [(.len (.fld (.tok 0) 2))])
set_option maxRecDepth 100000 in
theorem code_trail_Mark : ∀ cd, Try.f12.body = some cd → treeOf Try.prog [] ann_trail_Mark ct_trail_Mark Try.f12 cd = tree_trail_Mark := by
  intro cd h
  injection h with h
  subst h
  kernel_rfl
theorem fok_trail_Mark {g : List D → Option (List D)}  (h : ∀ ds outs, WfA ct_trail_Mark.ars ds → g ds = some outs → tree_trail_Mark.go (tblS []) (fun o => o = outs) ds fun _ _ => False) : FOk ct_trail_Mark g :=
  fok_of ann_trail_Mark Try.f12 _ .nil rfl rfl enter_trail_Mark (by decide) fun ds outs hw hg => by rw [code_trail_Mark  _ rfl]; exact h ds outs hw hg

def ct_law31_small : Ct := ⟨8, [.val (.st 26)], [(.bool, false)], []⟩
theorem enter_law31_small (args : Array Value) (w : World) : (callFunc ct_law31_small.f args).run Try.prog w = .ok (.enter ct_law31_small.f args) w := by kernel_rfl
def ann_law31_small : Ann := ⟨[0, 1, 2], []⟩
def tree_law31_small : Tree := (.leaf [(.and (.and (.and (.le (.len (.fld (.tok 0) 0)) (.lit (.i 300))) (.le (.len (.fld (.tok 0) 1)) (.lit (.i 100)))) (.le (.len (.fld (.tok 0) 2)) (.lit (.i 300)))) (.le (.len (.fld (.tok 0) 3)) (.lit (.i 50))))])
set_option maxRecDepth 100000 in
theorem code_law31_small : ∀ cd, Try.f8.body = some cd → treeOf Try.prog [] ann_law31_small ct_law31_small Try.f8 cd = tree_law31_small := by
  intro cd h
  injection h with h
  subst h
  kernel_rfl
theorem fok_law31_small {g : List D → Option (List D)}  (h : ∀ ds outs, WfA ct_law31_small.ars ds → g ds = some outs → tree_law31_small.go (tblS []) (fun o => o = outs) ds fun _ _ => False) : FOk ct_law31_small g :=
  fok_of ann_law31_small Try.f8 _ .nil rfl rfl enter_law31_small (by decide) fun ds outs hw hg => by rw [code_law31_small  _ rfl]; exact h ds outs hw hg

def ct_trail_in : Ct := ⟨30, [.rref (.st 26), .val (.int .i64)], [(.bool, false)], []⟩
theorem enter_trail_in (args : Array Value) (w : World) : (callFunc ct_trail_in.f args).run Try.prog w = .ok (.enter ct_trail_in.f args) w := by kernel_rfl
def ann_trail_in : Ann := ⟨[0, 1, 4], []⟩
def tree_trail_in : Tree := (.leaf [(.and (.le (.lit (.i 0)) (.tok 1)) (.lt (.tok 1) (.len (.fld (.tok 0) 0))))])
set_option maxRecDepth 100000 in
theorem code_trail_in : ∀ cd, Try.f30.body = some cd → treeOf Try.prog [] ann_trail_in ct_trail_in Try.f30 cd = tree_trail_in := by
  intro cd h
  injection h with h
  subst h
  kernel_rfl
theorem fok_trail_in {g : List D → Option (List D)}  (h : ∀ ds outs, WfA ct_trail_in.ars ds → g ds = some outs → tree_trail_in.go (tblS []) (fun o => o = outs) ds fun _ _ => False) : FOk ct_trail_in g :=
  fok_of ann_trail_in Try.f30 _ .nil rfl rfl enter_trail_in (by decide) fun ds outs hw hg => by rw [code_trail_in  _ rfl]; exact h ds outs hw hg

def ct_trail_settable : Ct := ⟨32, [.rref (.st 26), .val (.int .i64)], [(.bool, false)], []⟩
theorem enter_trail_settable (args : Array Value) (w : World) : (callFunc ct_trail_settable.f args).run Try.prog w = .ok (.enter ct_trail_settable.f args) w := by kernel_rfl
def ann_trail_settable : Ann := ⟨[0, 1, 4, 5, 14, 15, 21, 23], []⟩
def tree_trail_settable : Tree := (.need [(.le (.lit (.i 0)) (.tok 1)), (.lt (.tok 1) (.len (.fld (.tok 0) 0)))] (.br (.eq (.fld (.get (.fld (.tok 0) 0) (.tok 1)) 0) (.lit (.i 0))) (.leaf [(.eq (.get (.fld (.tok 0) 0) (.tok 1)) (.mk [(.lit (.i 0)), (.tok 1)]))]) (.br (.eq (.fld (.get (.fld (.tok 0) 0) (.tok 1)) 0) (.lit (.i 5))) (.leaf [(.lit (.b .true))]) (.br (.eq (.fld (.get (.fld (.tok 0) 0) (.tok 1)) 0) (.lit (.i 1))) (.br (.eq (.fld (.get (.fld (.tok 0) 0) (.tok 1)) 0) (.lit (.i 1))) (.need [(.imp (.le (.lit (.i 2)) (.tok 1)) (.rng .i64 (.sub (.tok 1) (.lit (.i 2))))), (.imp (.le (.lit (.i 2)) (.tok 1)) (.le (.lit (.i 0)) (.sub (.tok 1) (.lit (.i 2))))), (.imp (.le (.lit (.i 2)) (.tok 1)) (.lt (.sub (.tok 1) (.lit (.i 2))) (.len (.fld (.tok 0) 0))))] (.leaf [(.and (.le (.lit (.i 2)) (.tok 1)) (.eq (.fld (.get (.fld (.tok 0) 0) (.sub (.tok 1) (.lit (.i 2)))) 0) (.lit (.i 5))))])) (.leaf [(.lit (.b .false))])) (.br (.eq (.fld (.get (.fld (.tok 0) 0) (.tok 1)) 0) (.lit (.i 2))) (.br (.eq (.fld (.get (.fld (.tok 0) 0) (.tok 1)) 0) (.lit (.i 2))) (.need [(.imp (.le (.lit (.i 2)) (.tok 1)) (.rng .i64 (.sub (.tok 1) (.lit (.i 2))))), (.imp (.le (.lit (.i 2)) (.tok 1)) (.le (.lit (.i 0)) (.sub (.tok 1) (.lit (.i 2))))), (.imp (.le (.lit (.i 2)) (.tok 1)) (.lt (.sub (.tok 1) (.lit (.i 2))) (.len (.fld (.tok 0) 0))))] (.leaf [(.and (.le (.lit (.i 2)) (.tok 1)) (.eq (.fld (.get (.fld (.tok 0) 0) (.sub (.tok 1) (.lit (.i 2)))) 0) (.lit (.i 5))))])) (.leaf [(.lit (.b .false))])) (.br (.eq (.fld (.get (.fld (.tok 0) 0) (.tok 1)) 0) (.lit (.i 3))) (.need [(.imp (.le (.lit (.i 2)) (.tok 1)) (.rng .i64 (.sub (.tok 1) (.lit (.i 2))))), (.imp (.le (.lit (.i 2)) (.tok 1)) (.le (.lit (.i 0)) (.sub (.tok 1) (.lit (.i 2))))), (.imp (.le (.lit (.i 2)) (.tok 1)) (.lt (.sub (.tok 1) (.lit (.i 2))) (.len (.fld (.tok 0) 0))))] (.leaf [(.and (.le (.lit (.i 2)) (.tok 1)) (.eq (.fld (.get (.fld (.tok 0) 0) (.sub (.tok 1) (.lit (.i 2)))) 0) (.lit (.i 5))))])) (.leaf [(.lit (.b .false))])))))))
set_option maxRecDepth 100000 in
theorem code_trail_settable : ∀ cd, Try.f32.body = some cd → treeOf Try.prog [] ann_trail_settable ct_trail_settable Try.f32 cd = tree_trail_settable := by
  intro cd h
  injection h with h
  subst h
  kernel_rfl
theorem fok_trail_settable {g : List D → Option (List D)}  (h : ∀ ds outs, WfA ct_trail_settable.ars ds → g ds = some outs → tree_trail_settable.go (tblS []) (fun o => o = outs) ds fun _ _ => False) : FOk ct_trail_settable g :=
  fok_of ann_trail_settable Try.f32 _ .nil rfl rfl enter_trail_settable (by decide) fun ds outs hw hg => by rw [code_trail_settable  _ rfl]; exact h ds outs hw hg

def ct_trail_comes : Ct := ⟨33, [.rref (.st 26), .val (.st 28), .val (.int .i64)], [(.bool, false)], []⟩
theorem enter_trail_comes (args : Array Value) (w : World) : (callFunc ct_trail_comes.f args).run Try.prog w = .ok (.enter ct_trail_comes.f args) w := by kernel_rfl
def ann_trail_comes : Ann := ⟨[0, 1, 2, 4, 6, 7, 13, 14, 15, 25, 29, 40], [(2, ⟨[(6, .bool, false), (14, .int .i64, false)], [4], [15, 16, 17, 18, 19, 20, 21, 22, 23, 24, 25, 26, 27, 28, 29, 30, 31, 32, 33, 34, 35, 36, 37, 7, 38, 39, 40, 41, 42], []⟩)]⟩
def tree_trail_comes : Tree := (.need [(.rng .i64 (.add (.len (.fld (.tok 0) 0)) (.lit (.i 1))))] (.loop 2 3 [(.lit (.b .false)), (.lit (.i 0)), (.tok 1)] (.br (.lt (.tok 4) (.add (.len (.fld (.tok 0) 0)) (.lit (.i 1)))) (.need [(.imp (.not (.not (.eq (.fld (.tok 5) 0) (.lit (.i 0))))) (.ok 0 [(.tok 0), (.fld (.tok 5) 1)]))] (.br (.or (.not (.eq (.fld (.tok 5) 0) (.lit (.i 0)))) (.not (.call 0 0 [(.tok 0), (.fld (.tok 5) 1)]))) (.leaf [(.lit (.b .false))]) (.br (.eq (.fld (.tok 5) 1) (.tok 2)) (.leaf [(.lit (.b .true))]) (.need [(.le (.lit (.i 0)) (.fld (.tok 5) 1)), (.lt (.fld (.tok 5) 1) (.len (.fld (.tok 0) 0)))] (.br (.eq (.get (.fld (.tok 0) 0) (.fld (.tok 5) 1)) (.tok 5)) (.leaf [(.lit (.b .false))]) (.need [(.rng .i64 (.add (.tok 4) (.lit (.i 1))))] (.back 2 [(.tok 3), (.add (.tok 4) (.lit (.i 1))), (.get (.fld (.tok 0) 0) (.fld (.tok 5) 1))]))))))) (.leaf [(.lit (.b .false))]))))
set_option maxRecDepth 100000 in
theorem code_trail_comes (g0 : List D → Option (List D)) : ∀ cd, Try.f33.body = some cd → treeOf Try.prog [(ct_trail_in, g0)] ann_trail_comes ct_trail_comes Try.f33 cd = tree_trail_comes := by
  intro cd h
  injection h with h
  subst h
  kernel_rfl
theorem fok_trail_comes {g0 : List D → Option (List D)} {g : List D → Option (List D)} (h0 : FOk ct_trail_in g0) (h : ∀ ds outs, WfA ct_trail_comes.ars ds → g ds = some outs → tree_trail_comes.go (tblS [(ct_trail_in, g0)]) (fun o => o = outs) ds fun _ _ => False) : FOk ct_trail_comes g :=
  fok_of ann_trail_comes Try.f33 _ (.cons h0 .nil) rfl rfl enter_trail_comes (by decide) fun ds outs hw hg => by rw [code_trail_comes g0 _ rfl]; exact h ds outs hw hg

def ct_ref31_Settable : Ct := ⟨35, [.val (.st 26), .val (.int .i64)], [(.bool, false)], []⟩
theorem enter_ref31_Settable (args : Array Value) (w : World) : (callFunc ct_ref31_Settable.f args).run Try.prog w = .ok (.enter ct_ref31_Settable.f args) w := by kernel_rfl
def ann_ref31_Settable : Ann := ⟨[0, 1, 2, 4, 5, 18], []⟩
def tree_ref31_Settable : Tree := (.need [(.le (.lit (.i 0)) (.tok 1)), (.lt (.tok 1) (.len (.fld (.tok 0) 0)))] (.br (.or (.eq (.fld (.get (.fld (.tok 0) 0) (.tok 1)) 0) (.lit (.i 0))) (.eq (.fld (.get (.fld (.tok 0) 0) (.tok 1)) 0) (.lit (.i 5)))) (.leaf [(.eq (.fld (.get (.fld (.tok 0) 0) (.tok 1)) 1) (.tok 1))]) (.need [(.imp (.le (.lit (.i 2)) (.tok 1)) (.rng .i64 (.sub (.tok 1) (.lit (.i 2))))), (.imp (.le (.lit (.i 2)) (.tok 1)) (.le (.lit (.i 0)) (.sub (.tok 1) (.lit (.i 2))))), (.imp (.le (.lit (.i 2)) (.tok 1)) (.lt (.sub (.tok 1) (.lit (.i 2))) (.len (.fld (.tok 0) 0))))] (.leaf [(.and (.and (.le (.lit (.i 2)) (.tok 1)) (.eq (.fld (.get (.fld (.tok 0) 0) (.sub (.tok 1) (.lit (.i 2)))) 0) (.lit (.i 5)))) (.not (.eq (.fld (.get (.fld (.tok 0) 0) (.tok 1)) 0) (.lit (.i 4)))))]))))
set_option maxRecDepth 100000 in
theorem code_ref31_Settable : ∀ cd, Try.f35.body = some cd → treeOf Try.prog [] ann_ref31_Settable ct_ref31_Settable Try.f35 cd = tree_ref31_Settable := by
  intro cd h
  injection h with h
  subst h
  kernel_rfl
theorem fok_ref31_Settable {g : List D → Option (List D)}  (h : ∀ ds outs, WfA ct_ref31_Settable.ars ds → g ds = some outs → tree_ref31_Settable.go (tblS []) (fun o => o = outs) ds fun _ _ => False) : FOk ct_ref31_Settable g :=
  fok_of ann_ref31_Settable Try.f35 _ .nil rfl rfl enter_ref31_Settable (by decide) fun ds outs hw hg => by rw [code_ref31_Settable  _ rfl]; exact h ds outs hw hg

def ct_ref31_Comes : Ct := ⟨36, [.val (.st 26), .val (.st 28), .val (.int .i64)], [(.bool, false)], []⟩
theorem enter_ref31_Comes (args : Array Value) (w : World) : (callFunc ct_ref31_Comes.f args).run Try.prog w = .ok (.enter ct_ref31_Comes.f args) w := by kernel_rfl
def ann_ref31_Comes : Ann := ⟨[0, 1, 2, 3, 4, 6, 7, 30, 36], [(2, ⟨[(6, .bool, false), (7, .int .i64, false)], [4], [8, 9, 10, 11, 12, 13, 14, 15, 16, 17, 18, 19, 20, 21, 22, 23, 24, 25, 26, 27, 28, 29, 30, 33, 34, 35, 36, 37, 38, 39, 40, 41, 42, 31, 32], []⟩)]⟩
def tree_ref31_Comes : Tree := (.loop 2 3 [(.lit (.b .false)), (.lit (.i 0)), (.tok 1)] (.br (.and (.and (.and (.le (.tok 4) (.len (.fld (.tok 0) 0))) (.eq (.fld (.tok 5) 0) (.lit (.i 0)))) (.le (.lit (.i 0)) (.fld (.tok 5) 1))) (.lt (.fld (.tok 5) 1) (.len (.fld (.tok 0) 0)))) (.br (.eq (.fld (.tok 5) 1) (.tok 2)) (.leaf [(.lit (.b .true))]) (.need [(.le (.lit (.i 0)) (.fld (.tok 5) 1)), (.lt (.fld (.tok 5) 1) (.len (.fld (.tok 0) 0)))] (.need [(.rng .i64 (.add (.tok 4) (.lit (.i 1))))] (.back 2 [(.tok 3), (.add (.tok 4) (.lit (.i 1))), (.get (.fld (.tok 0) 0) (.fld (.tok 5) 1))])))) (.leaf [(.lit (.b .false))])))
set_option maxRecDepth 100000 in
theorem code_ref31_Comes : ∀ cd, Try.f36.body = some cd → treeOf Try.prog [] ann_ref31_Comes ct_ref31_Comes Try.f36 cd = tree_ref31_Comes := by
  intro cd h
  injection h with h
  subst h
  kernel_rfl
theorem fok_ref31_Comes {g : List D → Option (List D)}  (h : ∀ ds outs, WfA ct_ref31_Comes.ars ds → g ds = some outs → tree_ref31_Comes.go (tblS []) (fun o => o = outs) ds fun _ _ => False) : FOk ct_ref31_Comes g :=
  fok_of ann_ref31_Comes Try.f36 _ .nil rfl rfl enter_ref31_Comes (by decide) fun ds outs hw hg => by rw [code_ref31_Comes  _ rfl]; exact h ds outs hw hg

def ct_trail_marked : Ct := ⟨38, [.rref (.st 26), .val (.int .i64), .val (.int .i64)], [(.bool, false)], []⟩
theorem enter_trail_marked (args : Array Value) (w : World) : (callFunc ct_trail_marked.f args).run Try.prog w = .ok (.enter ct_trail_marked.f args) w := by kernel_rfl
def ann_trail_marked : Ann := ⟨[0, 1, 2, 6], []⟩
def tree_trail_marked : Tree := (.leaf [(.and (.and (.and (.le (.lit (.i 0)) (.tok 1)) (.le (.tok 1) (.len (.fld (.tok 0) 2)))) (.le (.lit (.i 0)) (.tok 2))) (.le (.tok 2) (.len (.fld (.tok 0) 0))))])
set_option maxRecDepth 100000 in
theorem code_trail_marked : ∀ cd, Try.f38.body = some cd → treeOf Try.prog [] ann_trail_marked ct_trail_marked Try.f38 cd = tree_trail_marked := by
  intro cd h
  injection h with h
  subst h
  kernel_rfl
theorem fok_trail_marked {g : List D → Option (List D)}  (h : ∀ ds outs, WfA ct_trail_marked.ars ds → g ds = some outs → tree_trail_marked.go (tblS []) (fun o => o = outs) ds fun _ _ => False) : FOk ct_trail_marked g :=
  fok_of ann_trail_marked Try.f38 _ .nil rfl rfl enter_trail_marked (by decide) fun ds outs hw hg => by rw [code_trail_marked  _ rfl]; exact h ds outs hw hg

def ct_ref31_within : Ct := ⟨42, [.rref (.st 26), .val (.int .i64), .val (.int .i64)], [(.bool, false)], []⟩
theorem enter_ref31_within (args : Array Value) (w : World) : (callFunc ct_ref31_within.f args).run Try.prog w = .ok (.enter ct_ref31_within.f args) w := by kernel_rfl
def ann_ref31_within : Ann := ⟨[0, 1, 2, 6], []⟩
def tree_ref31_within : Tree := (.leaf [(.and (.and (.and (.le (.lit (.i 0)) (.tok 1)) (.le (.tok 1) (.len (.fld (.tok 0) 2)))) (.le (.lit (.i 0)) (.tok 2))) (.le (.tok 2) (.len (.fld (.tok 0) 0))))])
set_option maxRecDepth 100000 in
theorem code_ref31_within : ∀ cd, Try.f42.body = some cd → treeOf Try.prog [] ann_ref31_within ct_ref31_within Try.f42 cd = tree_ref31_within := by
  intro cd h
  injection h with h
  subst h
  kernel_rfl
theorem fok_ref31_within {g : List D → Option (List D)}  (h : ∀ ds outs, WfA ct_ref31_within.ars ds → g ds = some outs → tree_ref31_within.go (tblS []) (fun o => o = outs) ds fun _ _ => False) : FOk ct_ref31_within g :=
  fok_of ann_ref31_within Try.f42 _ .nil rfl rfl enter_ref31_within (by decide) fun ds outs hw hg => by rw [code_ref31_within  _ rfl]; exact h ds outs hw hg

def ct_trail_marked_n : Ct := ⟨38, [.nilp, .val (.int .i64), .val (.int .i64)], [(.bool, false)], []⟩
theorem enter_trail_marked_n (args : Array Value) (w : World) : (callFunc ct_trail_marked_n.f args).run Try.prog w = .ok (.enter ct_trail_marked_n.f args) w := by kernel_rfl
def ann_trail_marked_n : Ann := ⟨[0, 1, 2, 6], []⟩
def tree_trail_marked_n : Tree := (.leaf [(.lit (.b .false))])
set_option maxRecDepth 100000 in
theorem code_trail_marked_n : ∀ cd, Try.f38.body = some cd → treeOf Try.prog [] ann_trail_marked_n ct_trail_marked_n Try.f38 cd = tree_trail_marked_n := by
  intro cd h
  injection h with h
  subst h
  kernel_rfl
theorem fok_trail_marked_n {g : List D → Option (List D)}  (h : ∀ ds outs, WfA ct_trail_marked_n.ars ds → g ds = some outs → tree_trail_marked_n.go (tblS []) (fun o => o = outs) ds fun _ _ => False) : FOk ct_trail_marked_n g :=
  fok_of ann_trail_marked_n Try.f38 _ .nil rfl rfl enter_trail_marked_n (by decide) fun ds outs hw hg => by rw [code_trail_marked_n  _ rfl]; exact h ds outs hw hg

def ct_ref30_arity : Ct := ⟨55, [.val (.st 26), .val (.int .i64)], [(.int .i64, false)], []⟩
theorem enter_ref30_arity (args : Array Value) (w : World) : (callFunc ct_ref30_arity.f args).run Try.prog w = .ok (.enter ct_ref30_arity.f args) w := by kernel_rfl
def ann_ref30_arity : Ann := ⟨[0, 1, 2, 4, 13], []⟩
def tree_ref30_arity : Tree := (.br (.or (.lt (.tok 1) (.lit (.i 0))) (.le (.len (.fld (.tok 0) 1)) (.tok 1))) (.leaf [(.lit (.i (-1)))]) (.need [(.le (.lit (.i 0)) (.tok 1)), (.lt (.tok 1) (.len (.fld (.tok 0) 1)))] (.leaf [(.fld (.get (.fld (.tok 0) 1) (.tok 1)) 1)])))
set_option maxRecDepth 100000 in
theorem code_ref30_arity : ∀ cd, Try.f55.body = some cd → treeOf Try.prog [] ann_ref30_arity ct_ref30_arity Try.f55 cd = tree_ref30_arity := by
  intro cd h
  injection h with h
  subst h
  kernel_rfl
theorem fok_ref30_arity {g : List D → Option (List D)}  (h : ∀ ds outs, WfA ct_ref30_arity.ars ds → g ds = some outs → tree_ref30_arity.go (tblS []) (fun o => o = outs) ds fun _ _ => False) : FOk ct_ref30_arity g :=
  fok_of ann_ref30_arity Try.f55 _ .nil rfl rfl enter_ref30_arity (by decide) fun ds outs hw hg => by rw [code_ref30_arity  _ rfl]; exact h ds outs hw hg

def ct_ref30_ranged : Ct := ⟨56, [.val (.st 26), .val (.int .i64)], [(.bool, false)], []⟩
theorem enter_ref30_ranged (args : Array Value) (w : World) : (callFunc ct_ref30_ranged.f args).run Try.prog w = .ok (.enter ct_ref30_ranged.f args) w := by kernel_rfl
def ann_ref30_ranged : Ann := ⟨[0, 1, 2, 4], []⟩
def tree_ref30_ranged : Tree := (.leaf [(.and (.le (.lit (.i 0)) (.tok 1)) (.lt (.tok 1) (.len (.fld (.tok 0) 0))))])
set_option maxRecDepth 100000 in
theorem code_ref30_ranged : ∀ cd, Try.f56.body = some cd → treeOf Try.prog [] ann_ref30_ranged ct_ref30_ranged Try.f56 cd = tree_ref30_ranged := by
  intro cd h
  injection h with h
  subst h
  kernel_rfl
theorem fok_ref30_ranged {g : List D → Option (List D)}  (h : ∀ ds outs, WfA ct_ref30_ranged.ars ds → g ds = some outs → tree_ref30_ranged.go (tblS []) (fun o => o = outs) ds fun _ _ => False) : FOk ct_ref30_ranged g :=
  fok_of ann_ref30_ranged Try.f56 _ .nil rfl rfl enter_ref30_ranged (by decide) fun ds outs hw hg => by rw [code_ref30_ranged  _ rfl]; exact h ds outs hw hg

def ct_ref30_tag : Ct := ⟨57, [.val (.st 26), .val (.int .i64)], [(.int .i64, false)], []⟩
theorem enter_ref30_tag (args : Array Value) (w : World) : (callFunc ct_ref30_tag.f args).run Try.prog w = .ok (.enter ct_ref30_tag.f args) w := by kernel_rfl
def ann_ref30_tag : Ann := ⟨[0, 1, 2, 4, 8], []⟩
def tree_ref30_tag : Tree := (.need [(.ok 0 [(.tok 0), (.tok 1)])] (.br (.not (.call 0 0 [(.tok 0), (.tok 1)])) (.leaf [(.lit (.i (-1)))]) (.need [(.le (.lit (.i 0)) (.tok 1)), (.lt (.tok 1) (.len (.fld (.tok 0) 0)))] (.leaf [(.fld (.get (.fld (.tok 0) 0) (.tok 1)) 0)]))))
set_option maxRecDepth 100000 in
theorem code_ref30_tag (g0 : List D → Option (List D)) : ∀ cd, Try.f57.body = some cd → treeOf Try.prog [(ct_ref30_ranged, g0)] ann_ref30_tag ct_ref30_tag Try.f57 cd = tree_ref30_tag := by
  intro cd h
  injection h with h
  subst h
  kernel_rfl
theorem fok_ref30_tag {g0 : List D → Option (List D)} {g : List D → Option (List D)} (h0 : FOk ct_ref30_ranged g0) (h : ∀ ds outs, WfA ct_ref30_tag.ars ds → g ds = some outs → tree_ref30_tag.go (tblS [(ct_ref30_ranged, g0)]) (fun o => o = outs) ds fun _ _ => False) : FOk ct_ref30_tag g :=
  fok_of ann_ref30_tag Try.f57 _ (.cons h0 .nil) rfl rfl enter_ref30_tag (by decide) fun ds outs hw hg => by rw [code_ref30_tag g0 _ rfl]; exact h ds outs hw hg

def ct_ref30_ends : Ct := ⟨58, [.val (.st 26), .val (.int .i64)], [(.bool, false)], []⟩
theorem enter_ref30_ends (args : Array Value) (w : World) : (callFunc ct_ref30_ends.f args).run Try.prog w = .ok (.enter ct_ref30_ends.f args) w := by kernel_rfl
def ann_ref30_ends : Ann := ⟨[0, 1, 2, 4, 5, 10, 26], [(2, ⟨[(4, .bool, false), (1, .int .i64, false), (5, .int .i64, false)], [], [6, 7, 8, 9, 10, 13, 14, 15, 16, 17, 18, 19, 20, 21, 22, 23, 24, 25, 26, 27, 28, 29, 30, 31, 32, 11, 12], []⟩)]⟩
def tree_ref30_ends : Tree := (.loop 2 2 [(.lit (.b .false)), (.tok 1), (.lit (.i 0))] (.br (.le (.tok 4) (.len (.fld (.tok 0) 0))) (.need [(.ok 0 [(.tok 0), (.tok 3)]), (.imp (.not (.not (.eq (.call 0 0 [(.tok 0), (.tok 3)]) (.lit (.i 0))))) (.le (.lit (.i 0)) (.tok 3))), (.imp (.not (.not (.eq (.call 0 0 [(.tok 0), (.tok 3)]) (.lit (.i 0))))) (.lt (.tok 3) (.len (.fld (.tok 0) 0))))] (.br (.or (.not (.eq (.call 0 0 [(.tok 0), (.tok 3)]) (.lit (.i 0)))) (.eq (.fld (.get (.fld (.tok 0) 0) (.tok 3)) 1) (.tok 3))) (.leaf [(.lit (.b .true))]) (.need [(.le (.lit (.i 0)) (.tok 3)), (.lt (.tok 3) (.len (.fld (.tok 0) 0)))] (.need [(.rng .i64 (.add (.tok 4) (.lit (.i 1))))] (.back 2 [(.tok 2), (.fld (.get (.fld (.tok 0) 0) (.tok 3)) 1), (.add (.tok 4) (.lit (.i 1)))]))))) (.leaf [(.lit (.b .false))])))
set_option maxRecDepth 100000 in
theorem code_ref30_ends (g0 : List D → Option (List D)) : ∀ cd, Try.f58.body = some cd → treeOf Try.prog [(ct_ref30_tag, g0)] ann_ref30_ends ct_ref30_ends Try.f58 cd = tree_ref30_ends := by
  intro cd h
  injection h with h
  subst h
  kernel_rfl
theorem fok_ref30_ends {g0 : List D → Option (List D)} {g : List D → Option (List D)} (h0 : FOk ct_ref30_tag g0) (h : ∀ ds outs, WfA ct_ref30_ends.ars ds → g ds = some outs → tree_ref30_ends.go (tblS [(ct_ref30_tag, g0)]) (fun o => o = outs) ds fun _ _ => False) : FOk ct_ref30_ends g :=
  fok_of ann_ref30_ends Try.f58 _ (.cons h0 .nil) rfl rfl enter_ref30_ends (by decide) fun ds outs hw hg => by rw [code_ref30_ends g0 _ rfl]; exact h ds outs hw hg

def ct_ref30_group : Ct := ⟨59, [.val (.st 26), .val (.int .i64)], [(.bool, false)], []⟩
theorem enter_ref30_group (args : Array Value) (w : World) : (callFunc ct_ref30_group.f args).run Try.prog w = .ok (.enter ct_ref30_group.f args) w := by kernel_rfl
def ann_ref30_group : Ann := ⟨[0, 1, 2, 4, 5], []⟩
def tree_ref30_group : Tree := (.need [(.rng .i64 (.add (.tok 1) (.lit (.i 2)))), (.ok 0 [(.tok 0), (.add (.tok 1) (.lit (.i 2)))])] (.need [(.imp (.and (.eq (.call 0 0 [(.tok 0), (.add (.tok 1) (.lit (.i 1)))]) (.lit (.i 1))) (.le (.lit (.i 1)) (.fld (.get (.fld (.tok 0) 0) (.add (.tok 1) (.lit (.i 1)))) 1))) (.le (.lit (.i 0)) (.add (.tok 1) (.lit (.i 1))))), (.imp (.and (.eq (.call 0 0 [(.tok 0), (.add (.tok 1) (.lit (.i 1)))]) (.lit (.i 1))) (.le (.lit (.i 1)) (.fld (.get (.fld (.tok 0) 0) (.add (.tok 1) (.lit (.i 1)))) 1))) (.lt (.add (.tok 1) (.lit (.i 1))) (.len (.fld (.tok 0) 0)))), (.imp (.and (.eq (.call 0 0 [(.tok 0), (.add (.tok 1) (.lit (.i 1)))]) (.lit (.i 1))) (.le (.lit (.i 1)) (.fld (.get (.fld (.tok 0) 0) (.add (.tok 1) (.lit (.i 1)))) 1))) (.rng .i64 (.add (.tok 1) (.lit (.i 1))))), (.imp (.and (.eq (.call 0 0 [(.tok 0), (.add (.tok 1) (.lit (.i 1)))]) (.lit (.i 1))) (.le (.lit (.i 1)) (.fld (.get (.fld (.tok 0) 0) (.add (.tok 1) (.lit (.i 1)))) 1))) (.le (.lit (.i 0)) (.add (.tok 1) (.lit (.i 1))))), (.imp (.and (.eq (.call 0 0 [(.tok 0), (.add (.tok 1) (.lit (.i 1)))]) (.lit (.i 1))) (.le (.lit (.i 1)) (.fld (.get (.fld (.tok 0) 0) (.add (.tok 1) (.lit (.i 1)))) 1))) (.lt (.add (.tok 1) (.lit (.i 1))) (.len (.fld (.tok 0) 0)))), (.imp (.and (.eq (.call 0 0 [(.tok 0), (.add (.tok 1) (.lit (.i 1)))]) (.lit (.i 1))) (.le (.lit (.i 1)) (.fld (.get (.fld (.tok 0) 0) (.add (.tok 1) (.lit (.i 1)))) 1))) (.rng .i64 (.add (.tok 1) (.lit (.i 1))))), (.imp (.and (.eq (.call 0 0 [(.tok 0), (.add (.tok 1) (.lit (.i 1)))]) (.lit (.i 1))) (.le (.lit (.i 1)) (.fld (.get (.fld (.tok 0) 0) (.add (.tok 1) (.lit (.i 1)))) 1))) (.rng .i64 (.add (.tok 1) (.lit (.i 1))))), (.imp (.and (.eq (.call 0 0 [(.tok 0), (.add (.tok 1) (.lit (.i 1)))]) (.lit (.i 1))) (.le (.lit (.i 1)) (.fld (.get (.fld (.tok 0) 0) (.add (.tok 1) (.lit (.i 1)))) 1))) (.rng .i64 (.add (.tok 1) (.lit (.i 1))))), (.imp (.eq (.call 0 0 [(.tok 0), (.add (.tok 1) (.lit (.i 1)))]) (.lit (.i 1))) (.le (.lit (.i 0)) (.add (.tok 1) (.lit (.i 1))))), (.imp (.eq (.call 0 0 [(.tok 0), (.add (.tok 1) (.lit (.i 1)))]) (.lit (.i 1))) (.lt (.add (.tok 1) (.lit (.i 1))) (.len (.fld (.tok 0) 0)))), (.imp (.eq (.call 0 0 [(.tok 0), (.add (.tok 1) (.lit (.i 1)))]) (.lit (.i 1))) (.rng .i64 (.add (.tok 1) (.lit (.i 1))))), (.ok 0 [(.tok 0), (.add (.tok 1) (.lit (.i 1)))]), (.rng .i64 (.add (.tok 1) (.lit (.i 1))))] (.leaf [(.and (.and (.and (.and (.and (.eq (.call 0 0 [(.tok 0), (.add (.tok 1) (.lit (.i 1)))]) (.lit (.i 1))) (.le (.lit (.i 1)) (.fld (.get (.fld (.tok 0) 0) (.add (.tok 1) (.lit (.i 1)))) 1))) (.le (.fld (.get (.fld (.tok 0) 0) (.add (.tok 1) (.lit (.i 1)))) 1) (.fld (.tok 0) 4))) (.le (.lit (.i 0)) (.call 0 0 [(.tok 0), (.add (.tok 1) (.lit (.i 2)))]))) (.not (.eq (.call 0 0 [(.tok 0), (.add (.tok 1) (.lit (.i 2)))]) (.lit (.i 4))))) (.not (.eq (.call 0 0 [(.tok 0), (.add (.tok 1) (.lit (.i 2)))]) (.lit (.i 5)))))])))
set_option maxRecDepth 100000 in
theorem code_ref30_group (g0 : List D → Option (List D)) : ∀ cd, Try.f59.body = some cd → treeOf Try.prog [(ct_ref30_tag, g0)] ann_ref30_group ct_ref30_group Try.f59 cd = tree_ref30_group := by
  intro cd h
  injection h with h
  subst h
  kernel_rfl
theorem fok_ref30_group {g0 : List D → Option (List D)} {g : List D → Option (List D)} (h0 : FOk ct_ref30_tag g0) (h : ∀ ds outs, WfA ct_ref30_group.ars ds → g ds = some outs → tree_ref30_group.go (tblS [(ct_ref30_tag, g0)]) (fun o => o = outs) ds fun _ _ => False) : FOk ct_ref30_group g :=
  fok_of ann_ref30_group Try.f59 _ (.cons h0 .nil) rfl rfl enter_ref30_group (by decide) fun ds outs hw hg => by rw [code_ref30_group g0 _ rfl]; exact h ds outs hw hg

def ct_cells_arity : Ct := ⟨60, [.val (.st 26), .val (.int .i64)], [(.int .i64, false)], []⟩
theorem enter_cells_arity (args : Array Value) (w : World) : (callFunc ct_cells_arity.f args).run Try.prog w = .ok (.enter ct_cells_arity.f args) w := by kernel_rfl
def ann_cells_arity : Ann := ⟨[0, 1, 2, 4, 13], []⟩
def tree_cells_arity : Tree := (.br (.or (.lt (.tok 1) (.lit (.i 0))) (.le (.len (.fld (.tok 0) 1)) (.tok 1))) (.leaf [(.lit (.i (-1)))]) (.need [(.le (.lit (.i 0)) (.tok 1)), (.lt (.tok 1) (.len (.fld (.tok 0) 1)))] (.leaf [(.fld (.get (.fld (.tok 0) 1) (.tok 1)) 1)])))
set_option maxRecDepth 100000 in
theorem code_cells_arity : ∀ cd, Try.f60.body = some cd → treeOf Try.prog [] ann_cells_arity ct_cells_arity Try.f60 cd = tree_cells_arity := by
  intro cd h
  injection h with h
  subst h
  kernel_rfl
theorem fok_cells_arity {g : List D → Option (List D)}  (h : ∀ ds outs, WfA ct_cells_arity.ars ds → g ds = some outs → tree_cells_arity.go (tblS []) (fun o => o = outs) ds fun _ _ => False) : FOk ct_cells_arity g :=
  fok_of ann_cells_arity Try.f60 _ .nil rfl rfl enter_cells_arity (by decide) fun ds outs hw hg => by rw [code_cells_arity  _ rfl]; exact h ds outs hw hg

def ct_cells_tag : Ct := ⟨61, [.val (.st 26), .val (.int .i64)], [(.int .i64, false)], []⟩
theorem enter_cells_tag (args : Array Value) (w : World) : (callFunc ct_cells_tag.f args).run Try.prog w = .ok (.enter ct_cells_tag.f args) w := by kernel_rfl
def ann_cells_tag : Ann := ⟨[0, 1, 2, 4, 13], []⟩
def tree_cells_tag : Tree := (.br (.or (.lt (.tok 1) (.lit (.i 0))) (.le (.len (.fld (.tok 0) 0)) (.tok 1))) (.leaf [(.lit (.i (-1)))]) (.need [(.le (.lit (.i 0)) (.tok 1)), (.lt (.tok 1) (.len (.fld (.tok 0) 0)))] (.leaf [(.fld (.get (.fld (.tok 0) 0) (.tok 1)) 0)])))
set_option maxRecDepth 100000 in
theorem code_cells_tag : ∀ cd, Try.f61.body = some cd → treeOf Try.prog [] ann_cells_tag ct_cells_tag Try.f61 cd = tree_cells_tag := by
  intro cd h
  injection h with h
  subst h
  kernel_rfl
theorem fok_cells_tag {g : List D → Option (List D)}  (h : ∀ ds outs, WfA ct_cells_tag.ars ds → g ds = some outs → tree_cells_tag.go (tblS []) (fun o => o = outs) ds fun _ _ => False) : FOk ct_cells_tag g :=
  fok_of ann_cells_tag Try.f61 _ .nil rfl rfl enter_cells_tag (by decide) fun ds outs hw hg => by rw [code_cells_tag  _ rfl]; exact h ds outs hw hg

def ct_cells_group : Ct := ⟨64, [.val (.st 26), .val (.int .i64)], [(.bool, false)], []⟩
theorem enter_cells_group (args : Array Value) (w : World) : (callFunc ct_cells_group.f args).run Try.prog w = .ok (.enter ct_cells_group.f args) w := by kernel_rfl
def ann_cells_group : Ann := ⟨[0, 1, 2, 4, 5, 6, 11], []⟩
def tree_cells_group : Tree := (.need [(.rng .i64 (.add (.tok 1) (.lit (.i 1)))), (.ok 0 [(.tok 0), (.add (.tok 1) (.lit (.i 1)))])] (.br (.not (.eq (.call 0 0 [(.tok 0), (.add (.tok 1) (.lit (.i 1)))]) (.lit (.i 1)))) (.leaf [(.lit (.b .false))]) (.need [(.ok 0 [(.tok 0), (.add (.tok 1) (.lit (.i 2)))]), (.rng .i64 (.add (.tok 1) (.lit (.i 2)))), (.le (.lit (.i 0)) (.add (.tok 1) (.lit (.i 1)))), (.lt (.add (.tok 1) (.lit (.i 1))) (.len (.fld (.tok 0) 0))), (.rng .i64 (.add (.tok 1) (.lit (.i 1))))] (.leaf [(.and (.and (.and (.and (.le (.lit (.i 1)) (.fld (.get (.fld (.tok 0) 0) (.add (.tok 1) (.lit (.i 1)))) 1)) (.le (.fld (.get (.fld (.tok 0) 0) (.add (.tok 1) (.lit (.i 1)))) 1) (.fld (.tok 0) 4))) (.le (.lit (.i 0)) (.call 0 0 [(.tok 0), (.add (.tok 1) (.lit (.i 2)))]))) (.not (.eq (.call 0 0 [(.tok 0), (.add (.tok 1) (.lit (.i 2)))]) (.lit (.i 4))))) (.not (.eq (.call 0 0 [(.tok 0), (.add (.tok 1) (.lit (.i 2)))]) (.lit (.i 5)))))]))))
set_option maxRecDepth 100000 in
theorem code_cells_group (g0 : List D → Option (List D)) : ∀ cd, Try.f64.body = some cd → treeOf Try.prog [(ct_cells_tag, g0)] ann_cells_group ct_cells_group Try.f64 cd = tree_cells_group := by
  intro cd h
  injection h with h
  subst h
  kernel_rfl
theorem fok_cells_group {g0 : List D → Option (List D)} {g : List D → Option (List D)} (h0 : FOk ct_cells_tag g0) (h : ∀ ds outs, WfA ct_cells_group.ars ds → g ds = some outs → tree_cells_group.go (tblS [(ct_cells_tag, g0)]) (fun o => o = outs) ds fun _ _ => False) : FOk ct_cells_group g :=
  fok_of ann_cells_group Try.f64 _ (.cons h0 .nil) rfl rfl enter_cells_group (by decide) fun ds outs hw hg => by rw [code_cells_group g0 _ rfl]; exact h ds outs hw hg

def ct_ref30_ValidCell : Ct := ⟨29, [.val (.st 26), .val (.st 28)], [(.bool, false)], []⟩
theorem enter_ref30_ValidCell (args : Array Value) (w : World) : (callFunc ct_ref30_ValidCell.f args).run Try.prog w = .ok (.enter ct_ref30_ValidCell.f args) w := by kernel_rfl
def ann_ref30_ValidCell : Ann := ⟨[0, 1, 2, 3, 4, 6, 7, 20, 22, 29, 36], []⟩
def tree_ref30_ValidCell : Tree := (.br (.eq (.fld (.tok 1) 0) (.lit (.i 0))) (.need [(.ok 0 [(.tok 0), (.fld (.tok 1) 1)]), (.imp (.call 0 0 [(.tok 0), (.fld (.tok 1) 1)]) (.ok 1 [(.tok 0), (.fld (.tok 1) 1)]))] (.leaf [(.and (.call 0 0 [(.tok 0), (.fld (.tok 1) 1)]) (.not (.eq (.call 1 0 [(.tok 0), (.fld (.tok 1) 1)]) (.lit (.i 4)))))])) (.br (.eq (.fld (.tok 1) 0) (.lit (.i 1))) (.leaf [(.lit (.b .true))]) (.br (.eq (.fld (.tok 1) 0) (.lit (.i 2))) (.need [(.ok 2 [(.tok 0), (.fld (.tok 1) 1)])] (.leaf [(.eq (.call 2 0 [(.tok 0), (.fld (.tok 1) 1)]) (.lit (.i 0)))])) (.br (.eq (.fld (.tok 1) 0) (.lit (.i 3))) (.need [(.ok 1 [(.tok 0), (.fld (.tok 1) 1)])] (.leaf [(.eq (.call 1 0 [(.tok 0), (.fld (.tok 1) 1)]) (.lit (.i 4)))])) (.br (.eq (.fld (.tok 1) 0) (.lit (.i 5))) (.need [(.ok 1 [(.tok 0), (.fld (.tok 1) 1)])] (.leaf [(.eq (.call 1 0 [(.tok 0), (.fld (.tok 1) 1)]) (.lit (.i 5)))])) (.leaf [(.lit (.b .false))]))))))
set_option maxRecDepth 100000 in
theorem code_ref30_ValidCell (g0 g1 g2 : List D → Option (List D)) : ∀ cd, Try.f29.body = some cd → treeOf Try.prog [(ct_ref30_ranged, g0), (ct_ref30_tag, g1), (ct_ref30_arity, g2)] ann_ref30_ValidCell ct_ref30_ValidCell Try.f29 cd = tree_ref30_ValidCell := by
  intro cd h
  injection h with h
  subst h
  kernel_rfl
theorem fok_ref30_ValidCell {g0 g1 g2 : List D → Option (List D)} {g : List D → Option (List D)} (h0 : FOk ct_ref30_ranged g0) (h1 : FOk ct_ref30_tag g1) (h2 : FOk ct_ref30_arity g2) (h : ∀ ds outs, WfA ct_ref30_ValidCell.ars ds → g ds = some outs → tree_ref30_ValidCell.go (tblS [(ct_ref30_ranged, g0), (ct_ref30_tag, g1), (ct_ref30_arity, g2)]) (fun o => o = outs) ds fun _ _ => False) : FOk ct_ref30_ValidCell g :=
  fok_of ann_ref30_ValidCell Try.f29 _ (.cons h0 (.cons h1 (.cons h2 .nil))) rfl rfl enter_ref30_ValidCell (by decide) fun ds outs hw hg => by rw [code_ref30_ValidCell g0 g1 g2 _ rfl]; exact h ds outs hw hg

def ct_cells_ValidCell : Ct := ⟨31, [.val (.st 26), .val (.st 28)], [(.bool, false)], []⟩
theorem enter_cells_ValidCell (args : Array Value) (w : World) : (callFunc ct_cells_ValidCell.f args).run Try.prog w = .ok (.enter ct_cells_ValidCell.f args) w := by kernel_rfl
def ann_cells_ValidCell : Ann := ⟨[0, 1, 2, 3, 4, 5, 7, 8, 10, 17, 29, 36], []⟩
def tree_cells_ValidCell : Tree := (.br (.eq (.fld (.tok 1) 0) (.lit (.i 1))) (.leaf [(.lit (.b .true))]) (.br (.eq (.fld (.tok 1) 0) (.lit (.i 2))) (.need [(.ok 0 [(.tok 0), (.fld (.tok 1) 1)])] (.leaf [(.eq (.call 0 0 [(.tok 0), (.fld (.tok 1) 1)]) (.lit (.i 0)))])) (.br (.eq (.fld (.tok 1) 0) (.lit (.i 0))) (.need [(.ok 1 [(.tok 0), (.fld (.tok 1) 1)])] (.leaf [(.and (.le (.lit (.i 0)) (.call 1 0 [(.tok 0), (.fld (.tok 1) 1)])) (.not (.eq (.call 1 0 [(.tok 0), (.fld (.tok 1) 1)]) (.lit (.i 4)))))])) (.br (.eq (.fld (.tok 1) 0) (.lit (.i 3))) (.need [(.ok 1 [(.tok 0), (.fld (.tok 1) 1)])] (.leaf [(.eq (.call 1 0 [(.tok 0), (.fld (.tok 1) 1)]) (.lit (.i 4)))])) (.br (.eq (.fld (.tok 1) 0) (.lit (.i 5))) (.need [(.ok 1 [(.tok 0), (.fld (.tok 1) 1)])] (.leaf [(.eq (.call 1 0 [(.tok 0), (.fld (.tok 1) 1)]) (.lit (.i 5)))])) (.leaf [(.lit (.b .false))]))))))
set_option maxRecDepth 100000 in
theorem code_cells_ValidCell (g0 g1 : List D → Option (List D)) : ∀ cd, Try.f31.body = some cd → treeOf Try.prog [(ct_cells_arity, g0), (ct_cells_tag, g1)] ann_cells_ValidCell ct_cells_ValidCell Try.f31 cd = tree_cells_ValidCell := by
  intro cd h
  injection h with h
  subst h
  kernel_rfl
theorem fok_cells_ValidCell {g0 g1 : List D → Option (List D)} {g : List D → Option (List D)} (h0 : FOk ct_cells_arity g0) (h1 : FOk ct_cells_tag g1) (h : ∀ ds outs, WfA ct_cells_ValidCell.ars ds → g ds = some outs → tree_cells_ValidCell.go (tblS [(ct_cells_arity, g0), (ct_cells_tag, g1)]) (fun o => o = outs) ds fun _ _ => False) : FOk ct_cells_ValidCell g :=
  fok_of ann_cells_ValidCell Try.f31 _ (.cons h0 (.cons h1 .nil)) rfl rfl enter_cells_ValidCell (by decide) fun ds outs hw hg => by rw [code_cells_ValidCell g0 g1 _ rfl]; exact h ds outs hw hg

def ct_trail_Set : Ct := ⟨13, [.ref (.st 26), .val (.int .i64), .val (.st 28)], [(.int .i64, false)], []⟩
theorem enter_trail_Set (args : Array Value) (w : World) : (callFunc ct_trail_Set.f args).run Try.prog w = .ok (.enter ct_trail_Set.f args) w := by kernel_rfl
def ann_trail_Set : Ann := ⟨[0, 1, 2, 5, 6, 35], []⟩
def tree_trail_Set : Tree := (.need [(.imp (.not (.or (.or (.not (.call 0 0 [(.tok 0), (.tok 1)])) (.not (.call 1 0 [(.tok 0), (.tok 2)]))) (.not (.call 2 0 [(.tok 0), (.tok 1)])))) (.ok 4 [(.tok 0), (.call 3 0 [(.tok 2)]), (.tok 1)])), (.imp (.not (.or (.or (.not (.call 0 0 [(.tok 0), (.tok 1)])) (.not (.call 1 0 [(.tok 0), (.tok 2)]))) (.not (.call 2 0 [(.tok 0), (.tok 1)])))) (.ok 3 [(.tok 2)])), (.imp (.not (.or (.or (.not (.call 0 0 [(.tok 0), (.tok 1)])) (.not (.call 1 0 [(.tok 0), (.tok 2)]))) (.not (.call 2 0 [(.tok 0), (.tok 1)])))) (.ok 3 [(.tok 2)])), (.imp (.not (.or (.not (.call 0 0 [(.tok 0), (.tok 1)])) (.not (.call 1 0 [(.tok 0), (.tok 2)])))) (.ok 2 [(.tok 0), (.tok 1)])), (.imp (.not (.not (.call 0 0 [(.tok 0), (.tok 1)]))) (.ok 1 [(.tok 0), (.tok 2)])), (.ok 0 [(.tok 0), (.tok 1)])] (.br (.or (.or (.or (.not (.call 0 0 [(.tok 0), (.tok 1)])) (.not (.call 1 0 [(.tok 0), (.tok 2)]))) (.not (.call 2 0 [(.tok 0), (.tok 1)]))) (.call 4 0 [(.tok 0), (.call 3 0 [(.tok 2)]), (.tok 1)])) (.leaf [(.lit (.i 1)), (.tok 0)]) (.need [(.le (.lit (.i 0)) (.tok 1)), (.lt (.tok 1) (.len (.fld (.tok 0) 0))), (.le (.add (.len (.fld (.tok 0) 2)) (.lit (.i 1))) (.lit (.i 34359738368)))] (.need [(.ok 3 [(.tok 2)]), (.le (.lit (.i 0)) (.tok 1)), (.lt (.tok 1) (.len (.fld (.set (.tok 0) 2 (.app (.fld (.tok 0) 2) (.row [(.mk [(.tok 1), (.get (.fld (.tok 0) 0) (.tok 1))])]))) 0)))] (.leaf [(.lit (.i 0)), (.set (.set (.tok 0) 2 (.app (.fld (.tok 0) 2) (.row [(.mk [(.tok 1), (.get (.fld (.tok 0) 0) (.tok 1))])]))) 0 (.put (.fld (.set (.tok 0) 2 (.app (.fld (.tok 0) 2) (.row [(.mk [(.tok 1), (.get (.fld (.tok 0) 0) (.tok 1))])]))) 0) (.tok 1) (.call 3 0 [(.tok 2)])))])))))
set_option maxRecDepth 100000 in
theorem code_trail_Set (g0 g1 g2 g3 g4 : List D → Option (List D)) : ∀ cd, Try.f13.body = some cd → treeOf Try.prog [(ct_trail_in, g0), (ct_cells_ValidCell, g1), (ct_trail_settable, g2), (ct_trail_kept, g3), (ct_trail_comes, g4)] ann_trail_Set ct_trail_Set Try.f13 cd = tree_trail_Set := by
  intro cd h
  injection h with h
  subst h
  kernel_rfl
theorem fok_trail_Set {g0 g1 g2 g3 g4 : List D → Option (List D)} {g : List D → Option (List D)} (h0 : FOk ct_trail_in g0) (h1 : FOk ct_cells_ValidCell g1) (h2 : FOk ct_trail_settable g2) (h3 : FOk ct_trail_kept g3) (h4 : FOk ct_trail_comes g4) (h : ∀ ds outs, WfA ct_trail_Set.ars ds → g ds = some outs → tree_trail_Set.go (tblS [(ct_trail_in, g0), (ct_cells_ValidCell, g1), (ct_trail_settable, g2), (ct_trail_kept, g3), (ct_trail_comes, g4)]) (fun o => o = outs) ds fun _ _ => False) : FOk ct_trail_Set g :=
  fok_of ann_trail_Set Try.f13 _ (.cons h0 (.cons h1 (.cons h2 (.cons h3 (.cons h4 .nil))))) rfl rfl enter_trail_Set (by decide) fun ds outs hw hg => by rw [code_trail_Set g0 g1 g2 g3 g4 _ rfl]; exact h ds outs hw hg

def ct_ref31_Set : Ct := ⟨14, [.ref (.st 26), .val (.int .i64), .val (.st 28)], [(.int .i64, false)], []⟩
theorem enter_ref31_Set (args : Array Value) (w : World) : (callFunc ct_ref31_Set.f args).run Try.prog w = .ok (.enter ct_ref31_Set.f args) w := by kernel_rfl
def ann_ref31_Set : Ann := ⟨[0, 1, 2, 5, 6, 46], []⟩
def tree_ref31_Set : Tree := (.need [(.imp (.not (.or (.or (.or (.lt (.tok 1) (.lit (.i 0))) (.le (.len (.fld (.tok 0) 0)) (.tok 1))) (.not (.call 0 0 [(.tok 0), (.tok 2)]))) (.not (.call 1 0 [(.tok 0), (.tok 1)])))) (.ok 3 [(.tok 0), (.call 2 0 [(.tok 2)]), (.tok 1)])), (.imp (.not (.or (.or (.or (.lt (.tok 1) (.lit (.i 0))) (.le (.len (.fld (.tok 0) 0)) (.tok 1))) (.not (.call 0 0 [(.tok 0), (.tok 2)]))) (.not (.call 1 0 [(.tok 0), (.tok 1)])))) (.ok 2 [(.tok 2)])), (.imp (.not (.or (.or (.or (.lt (.tok 1) (.lit (.i 0))) (.le (.len (.fld (.tok 0) 0)) (.tok 1))) (.not (.call 0 0 [(.tok 0), (.tok 2)]))) (.not (.call 1 0 [(.tok 0), (.tok 1)])))) (.ok 2 [(.tok 2)])), (.imp (.not (.or (.or (.or (.lt (.tok 1) (.lit (.i 0))) (.le (.len (.fld (.tok 0) 0)) (.tok 1))) (.not (.call 0 0 [(.tok 0), (.tok 2)]))) (.not (.call 1 0 [(.tok 0), (.tok 1)])))) (.ok 2 [(.tok 2)])), (.imp (.not (.or (.or (.lt (.tok 1) (.lit (.i 0))) (.le (.len (.fld (.tok 0) 0)) (.tok 1))) (.not (.call 0 0 [(.tok 0), (.tok 2)])))) (.ok 1 [(.tok 0), (.tok 1)])), (.imp (.not (.or (.lt (.tok 1) (.lit (.i 0))) (.le (.len (.fld (.tok 0) 0)) (.tok 1)))) (.ok 0 [(.tok 0), (.tok 2)]))] (.br (.or (.or (.or (.or (.lt (.tok 1) (.lit (.i 0))) (.le (.len (.fld (.tok 0) 0)) (.tok 1))) (.not (.call 0 0 [(.tok 0), (.tok 2)]))) (.not (.call 1 0 [(.tok 0), (.tok 1)]))) (.call 3 0 [(.tok 0), (.call 2 0 [(.tok 2)]), (.tok 1)])) (.leaf [(.lit (.i 1)), (.tok 0)]) (.need [(.le (.lit (.i 0)) (.tok 1)), (.lt (.tok 1) (.len (.fld (.tok 0) 0))), (.le (.add (.len (.fld (.tok 0) 2)) (.lit (.i 1))) (.lit (.i 34359738368)))] (.need [(.ok 2 [(.tok 2)]), (.le (.lit (.i 0)) (.tok 1)), (.lt (.tok 1) (.len (.fld (.set (.tok 0) 2 (.app (.fld (.tok 0) 2) (.row [(.mk [(.tok 1), (.get (.fld (.tok 0) 0) (.tok 1))])]))) 0)))] (.leaf [(.lit (.i 0)), (.set (.set (.tok 0) 2 (.app (.fld (.tok 0) 2) (.row [(.mk [(.tok 1), (.get (.fld (.tok 0) 0) (.tok 1))])]))) 0 (.put (.fld (.set (.tok 0) 2 (.app (.fld (.tok 0) 2) (.row [(.mk [(.tok 1), (.get (.fld (.tok 0) 0) (.tok 1))])]))) 0) (.tok 1) (.call 2 0 [(.tok 2)])))])))))
set_option maxRecDepth 100000 in
theorem code_ref31_Set (g0 g1 g2 g3 : List D → Option (List D)) : ∀ cd, Try.f14.body = some cd → treeOf Try.prog [(ct_ref30_ValidCell, g0), (ct_ref31_Settable, g1), (ct_ref30_Kept, g2), (ct_ref31_Comes, g3)] ann_ref31_Set ct_ref31_Set Try.f14 cd = tree_ref31_Set := by
  intro cd h
  injection h with h
  subst h
  kernel_rfl
theorem fok_ref31_Set {g0 g1 g2 g3 : List D → Option (List D)} {g : List D → Option (List D)} (h0 : FOk ct_ref30_ValidCell g0) (h1 : FOk ct_ref31_Settable g1) (h2 : FOk ct_ref30_Kept g2) (h3 : FOk ct_ref31_Comes g3) (h : ∀ ds outs, WfA ct_ref31_Set.ars ds → g ds = some outs → tree_ref31_Set.go (tblS [(ct_ref30_ValidCell, g0), (ct_ref31_Settable, g1), (ct_ref30_Kept, g2), (ct_ref31_Comes, g3)]) (fun o => o = outs) ds fun _ _ => False) : FOk ct_ref31_Set g :=
  fok_of ann_ref31_Set Try.f14 _ (.cons h0 (.cons h1 (.cons h2 (.cons h3 .nil)))) rfl rfl enter_ref31_Set (by decide) fun ds outs hw hg => by rw [code_ref31_Set g0 g1 g2 g3 _ rfl]; exact h ds outs hw hg

def ct_trail_Set_n : Ct := ⟨13, [.nilp, .val (.int .i64), .val (.st 28)], [(.int .i64, false)], []⟩
theorem enter_trail_Set_n (args : Array Value) (w : World) : (callFunc ct_trail_Set_n.f args).run Try.prog w = .ok (.enter ct_trail_Set_n.f args) w := by kernel_rfl
def ct_trail_in_n : Ct := ⟨30, [.nilp, .val (.int .i64)], [(.bool, false)], []⟩
theorem enter_trail_in_n (args : Array Value) (w : World) : (callFunc ct_trail_in_n.f args).run Try.prog w = .ok (.enter ct_trail_in_n.f args) w := by kernel_rfl
def ct_trail_settable_n : Ct := ⟨32, [.nilp, .val (.int .i64)], [(.bool, false)], []⟩
theorem enter_trail_settable_n (args : Array Value) (w : World) : (callFunc ct_trail_settable_n.f args).run Try.prog w = .ok (.enter ct_trail_settable_n.f args) w := by kernel_rfl
def ct_trail_comes_n : Ct := ⟨33, [.nilp, .val (.st 28), .val (.int .i64)], [(.bool, false)], []⟩
theorem enter_trail_comes_n (args : Array Value) (w : World) : (callFunc ct_trail_comes_n.f args).run Try.prog w = .ok (.enter ct_trail_comes_n.f args) w := by kernel_rfl
def ann_trail_Set_n : Ann := ⟨[0, 1, 2, 5, 6, 35], []⟩
def tree_trail_Set_n : Tree := (.leaf [(.lit (.i 1))])
set_option maxRecDepth 100000 in
theorem code_trail_Set_n (g0 g1 g2 g3 g4 : List D → Option (List D)) : ∀ cd, Try.f13.body = some cd → treeOf Try.prog [(ct_trail_in_n, g0), (ct_cells_ValidCell, g1), (ct_trail_settable_n, g2), (ct_trail_kept, g3), (ct_trail_comes_n, g4)] ann_trail_Set_n ct_trail_Set_n Try.f13 cd = tree_trail_Set_n := by
  intro cd h
  injection h with h
  subst h
  kernel_rfl
theorem fok_trail_Set_n {g0 g1 g2 g3 g4 : List D → Option (List D)} {g : List D → Option (List D)} (h0 : FOk ct_trail_in_n g0) (h1 : FOk ct_cells_ValidCell g1) (h2 : FOk ct_trail_settable_n g2) (h3 : FOk ct_trail_kept g3) (h4 : FOk ct_trail_comes_n g4) (h : ∀ ds outs, WfA ct_trail_Set_n.ars ds → g ds = some outs → tree_trail_Set_n.go (tblS [(ct_trail_in_n, g0), (ct_cells_ValidCell, g1), (ct_trail_settable_n, g2), (ct_trail_kept, g3), (ct_trail_comes_n, g4)]) (fun o => o = outs) ds fun _ _ => False) : FOk ct_trail_Set_n g :=
  fok_of ann_trail_Set_n Try.f13 _ (.cons h0 (.cons h1 (.cons h2 (.cons h3 (.cons h4 .nil))))) rfl rfl enter_trail_Set_n (by decide) fun ds outs hw hg => by rw [code_trail_Set_n g0 g1 g2 g3 g4 _ rfl]; exact h ds outs hw hg

def ct_trail_Undo : Ct := ⟨19, [.ref (.st 26), .val (.int .i64), .val (.int .i64)], [(.int .i64, false)], []⟩
theorem enter_trail_Undo (args : Array Value) (w : World) : (callFunc ct_trail_Undo.f args).run Try.prog w = .ok (.enter ct_trail_Undo.f args) w := by kernel_rfl
def ann_trail_Undo : Ann := ⟨[0, 1, 2, 3, 6, 8, 13, 20, 21, 22, 26], [(4, ⟨[], [0], [8, 23, 24, 25, 26, 27, 28, 29, 30, 31, 32, 33, 34, 35], []⟩)]⟩
def tree_trail_Undo : Tree := (.need [(.ok 0 [(.tok 0), (.tok 1), (.tok 2)])] (.br (.not (.call 0 0 [(.tok 0), (.tok 1), (.tok 2)])) (.leaf [(.lit (.i 1)), (.tok 0)]) (.need [(.le (.lit (.i 0)) (.tok 1)), (.le (.tok 1) (.len (.fld (.tok 0) 2)))] (.loop 4 3 [(.tok 0), (.sub (.len (.cut (.fld (.tok 0) 2) (.tok 1) (.len (.fld (.tok 0) 2)))) (.lit (.i 1)))] (.br (.le (.lit (.i 0)) (.tok 4)) (.need [(.ok 1 [(.tok 3), (.fld (.get (.cut (.fld (.tok 0) 2) (.tok 1) (.len (.fld (.tok 0) 2))) (.tok 4)) 0)])] (.br (.call 1 0 [(.tok 3), (.fld (.get (.cut (.fld (.tok 0) 2) (.tok 1) (.len (.fld (.tok 0) 2))) (.tok 4)) 0)]) (.need [(.le (.lit (.i 0)) (.fld (.get (.cut (.fld (.tok 0) 2) (.tok 1) (.len (.fld (.tok 0) 2))) (.tok 4)) 0)), (.lt (.fld (.get (.cut (.fld (.tok 0) 2) (.tok 1) (.len (.fld (.tok 0) 2))) (.tok 4)) 0) (.len (.fld (.tok 3) 0)))] (.back 4 [(.set (.tok 3) 0 (.put (.fld (.tok 3) 0) (.fld (.get (.cut (.fld (.tok 0) 2) (.tok 1) (.len (.fld (.tok 0) 2))) (.tok 4)) 0) (.fld (.get (.cut (.fld (.tok 0) 2) (.tok 1) (.len (.fld (.tok 0) 2))) (.tok 4)) 1))), (.sub (.tok 4) (.lit (.i 1)))])) (.back 4 [(.tok 3), (.sub (.tok 4) (.lit (.i 1)))]))) (.need [(.le (.lit (.i 0)) (.tok 1)), (.le (.tok 1) (.len (.fld (.tok 3) 2)))] (.need [(.le (.lit (.i 0)) (.tok 2)), (.le (.tok 2) (.len (.fld (.set (.tok 3) 2 (.cut (.fld (.tok 3) 2) (.lit (.i 0)) (.tok 1))) 0)))] (.leaf [(.lit (.i 0)), (.set (.set (.tok 3) 2 (.cut (.fld (.tok 3) 2) (.lit (.i 0)) (.tok 1))) 0 (.cut (.fld (.set (.tok 3) 2 (.cut (.fld (.tok 3) 2) (.lit (.i 0)) (.tok 1))) 0) (.lit (.i 0)) (.tok 2)))]))))))))
set_option maxRecDepth 100000 in
theorem code_trail_Undo (g0 g1 : List D → Option (List D)) : ∀ cd, Try.f19.body = some cd → treeU Try.prog [(ct_trail_marked, g0), (ct_trail_in, g1)] ann_trail_Undo ct_trail_Undo Try.f19 cd = tree_trail_Undo := by
  intro cd h
  injection h with h
  subst h
  kernel_rfl
theorem fok_trail_Undo {g0 g1 : List D → Option (List D)} {g : List D → Option (List D)} (h0 : FOk ct_trail_marked g0) (h1 : FOk ct_trail_in g1) (h : ∀ ds outs, WfA ct_trail_Undo.ars ds → g ds = some outs → tree_trail_Undo.go (tblS [(ct_trail_marked, g0), (ct_trail_in, g1)]) (fun o => o = outs) ds fun _ _ => False) : FOk ct_trail_Undo g :=
  fok_ofU ann_trail_Undo Try.f19 _ (.cons h0 (.cons h1 .nil)) bw_enter2 rfl rfl enter_trail_Undo (by decide) fun ds outs hw hg => by rw [code_trail_Undo g0 g1 _ rfl]; exact h ds outs hw hg

def ct_trail_Undo_n : Ct := ⟨19, [.nilp, .val (.int .i64), .val (.int .i64)], [(.int .i64, false)], []⟩
theorem enter_trail_Undo_n (args : Array Value) (w : World) : (callFunc ct_trail_Undo_n.f args).run Try.prog w = .ok (.enter ct_trail_Undo_n.f args) w := by kernel_rfl
def ann_trail_Undo_n : Ann := ⟨[0, 1, 2, 3, 6, 8, 13, 20, 21, 22, 26], [(4, ⟨[], [], [8, 23, 24, 25, 26, 27, 28, 29, 30, 31, 32, 33, 34, 35], []⟩)]⟩
def tree_trail_Undo_n : Tree := (.need [(.ok 0 [(.tok 0), (.tok 1)])] (.br (.not (.call 0 0 [(.tok 0), (.tok 1)])) (.leaf [(.lit (.i 1))]) (.bad 3)))
set_option maxRecDepth 100000 in
theorem code_trail_Undo_n (g0 g1 : List D → Option (List D)) : ∀ cd, Try.f19.body = some cd → treeU Try.prog [(ct_trail_marked_n, g0), (ct_trail_in_n, g1)] ann_trail_Undo_n ct_trail_Undo_n Try.f19 cd = tree_trail_Undo_n := by
  intro cd h
  injection h with h
  subst h
  kernel_rfl
theorem fok_trail_Undo_n {g0 g1 : List D → Option (List D)} {g : List D → Option (List D)} (h0 : FOk ct_trail_marked_n g0) (h1 : FOk ct_trail_in_n g1) (h : ∀ ds outs, WfA ct_trail_Undo_n.ars ds → g ds = some outs → tree_trail_Undo_n.go (tblS [(ct_trail_marked_n, g0), (ct_trail_in_n, g1)]) (fun o => o = outs) ds fun _ _ => False) : FOk ct_trail_Undo_n g :=
  fok_ofU ann_trail_Undo_n Try.f19 _ (.cons h0 (.cons h1 .nil)) bw_enter2 rfl rfl enter_trail_Undo_n (by decide) fun ds outs hw hg => by rw [code_trail_Undo_n g0 g1 _ rfl]; exact h ds outs hw hg

def ct_ref31_Undo : Ct := ⟨21, [.ref (.st 26), .val (.int .i64), .val (.int .i64)], [(.int .i64, false)], []⟩
theorem enter_ref31_Undo (args : Array Value) (w : World) : (callFunc ct_ref31_Undo.f args).run Try.prog w = .ok (.enter ct_ref31_Undo.f args) w := by kernel_rfl
def ann_ref31_Undo : Ann := ⟨[0, 1, 2, 6, 7, 8, 13, 22, 43], [(4, ⟨[(7, .int .i64, false)], [0], [20, 21, 22, 25, 26, 27, 28, 29, 30, 31, 32, 8, 33, 34, 35, 36, 37, 38, 39, 40, 41, 42, 43, 44, 45, 46, 47, 48, 49, 50, 51, 52, 53, 54, 55, 56, 57, 23, 24], []⟩)]⟩
def tree_ref31_Undo : Tree := (.need [(.ok 0 [(.tok 0), (.tok 1), (.tok 2)])] (.br (.not (.call 0 0 [(.tok 0), (.tok 1), (.tok 2)])) (.leaf [(.lit (.i 1)), (.tok 0)]) (.need [(.rng .i64 (.sub (.len (.fld (.tok 0) 2)) (.lit (.i 1))))] (.loop 4 3 [(.sub (.len (.fld (.tok 0) 2)) (.lit (.i 1))), (.tok 0)] (.br (.le (.tok 1) (.tok 3)) (.need [(.le (.lit (.i 0)) (.tok 3)), (.lt (.tok 3) (.len (.fld (.tok 4) 2)))] (.br (.and (.le (.lit (.i 0)) (.fld (.get (.fld (.tok 4) 2) (.tok 3)) 0)) (.lt (.fld (.get (.fld (.tok 4) 2) (.tok 3)) 0) (.len (.fld (.tok 4) 0)))) (.need [(.le (.lit (.i 0)) (.tok 3)), (.lt (.tok 3) (.len (.fld (.tok 4) 2))), (.le (.lit (.i 0)) (.fld (.get (.fld (.tok 4) 2) (.tok 3)) 0)), (.lt (.fld (.get (.fld (.tok 4) 2) (.tok 3)) 0) (.len (.fld (.tok 4) 0)))] (.need [(.rng .i64 (.sub (.tok 3) (.lit (.i 1))))] (.back 4 [(.sub (.tok 3) (.lit (.i 1))), (.set (.tok 4) 0 (.put (.fld (.tok 4) 0) (.fld (.get (.fld (.tok 4) 2) (.tok 3)) 0) (.fld (.get (.fld (.tok 4) 2) (.tok 3)) 1)))]))) (.need [(.rng .i64 (.sub (.tok 3) (.lit (.i 1))))] (.back 4 [(.sub (.tok 3) (.lit (.i 1))), (.tok 4)])))) (.need [(.le (.lit (.i 0)) (.tok 1)), (.le (.tok 1) (.len (.fld (.tok 4) 2)))] (.need [(.le (.lit (.i 0)) (.tok 2)), (.le (.tok 2) (.len (.fld (.set (.tok 4) 2 (.cut (.fld (.tok 4) 2) (.lit (.i 0)) (.tok 1))) 0)))] (.leaf [(.lit (.i 0)), (.set (.set (.tok 4) 2 (.cut (.fld (.tok 4) 2) (.lit (.i 0)) (.tok 1))) 0 (.cut (.fld (.set (.tok 4) 2 (.cut (.fld (.tok 4) 2) (.lit (.i 0)) (.tok 1))) 0) (.lit (.i 0)) (.tok 2)))]))))))))
set_option maxRecDepth 100000 in
theorem code_ref31_Undo (g0 : List D → Option (List D)) : ∀ cd, Try.f21.body = some cd → treeOf Try.prog [(ct_ref31_within, g0)] ann_ref31_Undo ct_ref31_Undo Try.f21 cd = tree_ref31_Undo := by
  intro cd h
  injection h with h
  subst h
  kernel_rfl
theorem fok_ref31_Undo {g0 : List D → Option (List D)} {g : List D → Option (List D)} (h0 : FOk ct_ref31_within g0) (h : ∀ ds outs, WfA ct_ref31_Undo.ars ds → g ds = some outs → tree_ref31_Undo.go (tblS [(ct_ref31_within, g0)]) (fun o => o = outs) ds fun _ _ => False) : FOk ct_ref31_Undo g :=
  fok_of ann_ref31_Undo Try.f21 _ (.cons h0 .nil) rfl rfl enter_ref31_Undo (by decide) fun ds outs hw hg => by rw [code_ref31_Undo g0 _ rfl]; exact h ds outs hw hg

end Go.Proofs.Ytcjapglipkmbhaa

namespace Go.Proofs.Ytcjapglipkmbhaa
open Go.RowKit
set_option linter.unusedVariables false
set_option linter.unusedSimpArgs false

/-- A cell. -/
structure Ce where
  t : Int
  n : Int
/-- An element of the trail. -/
structure Un where
  at' : Int
  old : Ce
structure Wk where
  ser : Int
  att : Ce
  val : Ce
structure Sy where
  name : ByteArray
  ar : Int
structure So where
  cs : List Ce
  ys : List Sy
  tr : List Un
  wk : List Wk
  ser : Int
  mx : Int

instance : Inhabited Ce := ⟨⟨0, 0⟩⟩
instance : Inhabited Un := ⟨⟨0, default⟩⟩
instance : Inhabited Wk := ⟨⟨0, default, default⟩⟩
instance : Inhabited Sy := ⟨⟨⟨#[]⟩, 0⟩⟩

def eC (c : Ce) : D := .a [.i c.t, .i c.n]
def eU (u : Un) : D := .a [.i u.at', eC u.old]
def eW (w : Wk) : D := .a [.i w.ser, eC w.att, eC w.val]
def eY (y : Sy) : D := .a [.s y.name, .i y.ar]
def eS (s : So) : D := .a [.r (s.cs.map eC), .r (s.ys.map eY), .r (s.tr.map eU), .r (s.wk.map eW), .i s.ser, .i s.mx]
def dC (d : D) : Ce := ⟨(d.fld 0).int, (d.fld 1).int⟩
def dU (d : D) : Un := ⟨(d.fld 0).int, dC (d.fld 1)⟩
def dW (d : D) : Wk := ⟨(d.fld 0).int, dC (d.fld 1), dC (d.fld 2)⟩
def dY (d : D) : Sy := ⟨(d.fld 0).str, (d.fld 1).int⟩
def dS (d : D) : So := ⟨(d.fld 0).rs.map dC, (d.fld 1).rs.map dY, (d.fld 2).rs.map dU, (d.fld 3).rs.map dW, (d.fld 4).int, (d.fld 5).int⟩

theorem dC_eC (c : Ce) : dC (eC c) = c := rfl
theorem dU_eU (c : Un) : dU (eU c) = c := rfl
theorem dW_eW (c : Wk) : dW (eW c) = c := rfl
theorem dY_eY (c : Sy) : dY (eY c) = c := rfl
theorem map_id' {α : Type} {e : α → D} {d : D → α} (h : ∀ a, d (e a) = a) (l : List α) : (l.map e).map d = l := by
  rw [List.map_map]
  have : d ∘ e = id := funext h
  rw [this, List.map_id]
theorem dS_eS (s : So) : dS (eS s) = s := by
  show So.mk ((s.cs.map eC).map dC) ((s.ys.map eY).map dY) ((s.tr.map eU).map dU) ((s.wk.map eW).map dW) s.ser s.mx = s
  rw [map_id' dC_eC, map_id' dY_eY, map_id' dU_eU, map_id' dW_eW]
theorem eC_inj {a b : Ce} (h : eC a = eC b) : a = b := by rw [← dC_eC a, h, dC_eC b]
theorem eU_inj {a b : Un} (h : eU a = eU b) : a = b := by rw [← dU_eU a, h, dU_eU b]
theorem eW_inj {a b : Wk} (h : eW a = eW b) : a = b := by rw [← dW_eW a, h, dW_eW b]
theorem eY_inj {a b : Sy} (h : eY a = eY b) : a = b := by rw [← dY_eY a, h, dY_eY b]
theorem eS_inj {a b : So} (h : eS a = eS b) : a = b := by rw [← dS_eS a, h, dS_eS b]
theorem eC_eq (a b : Ce) : (eC a = eC b) = (a = b) := propext ⟨eC_inj, fun h => h ▸ rfl⟩
theorem eU_eq (a b : Un) : (eU a = eU b) = (a = b) := propext ⟨eU_inj, fun h => h ▸ rfl⟩
theorem eW_eq (a b : Wk) : (eW a = eW b) = (a = b) := propext ⟨eW_inj, fun h => h ▸ rfl⟩
theorem eY_eq (a b : Sy) : (eY a = eY b) = (a = b) := propext ⟨eY_inj, fun h => h ▸ rfl⟩
theorem eS_eq (a b : So) : (eS a = eS b) = (a = b) := propext ⟨eS_inj, fun h => h ▸ rfl⟩
instance : DecidableEq Ce := fun a b => if h : eC a = eC b then .isTrue (eC_inj h) else .isFalse fun e => h (e ▸ rfl)
instance : DecidableEq Un := fun a b => if h : eU a = eU b then .isTrue (eU_inj h) else .isFalse fun e => h (e ▸ rfl)
instance : DecidableEq Wk := fun a b => if h : eW a = eW b then .isTrue (eW_inj h) else .isFalse fun e => h (e ▸ rfl)
instance : DecidableEq Sy := fun a b => if h : eY a = eY b then .isTrue (eY_inj h) else .isFalse fun e => h (e ▸ rfl)
instance : DecidableEq So := fun a b => if h : eS a = eS b then .isTrue (eS_inj h) else .isFalse fun e => h (e ▸ rfl)
theorem Ce.ext' {a b : Ce} (h1 : a.t = b.t) (h2 : a.n = b.n) : a = b := by
  cases a; cases b; cases h1; cases h2; rfl

theorem eC_0 (c : Ce) : (eC c).fld 0 = .i c.t := rfl
theorem eC_1 (c : Ce) : (eC c).fld 1 = .i c.n := rfl
theorem eU_0 (c : Un) : (eU c).fld 0 = .i c.at' := rfl
theorem eU_1 (c : Un) : (eU c).fld 1 = eC c.old := rfl
theorem eW_0 (c : Wk) : (eW c).fld 0 = .i c.ser := rfl
theorem eW_1 (c : Wk) : (eW c).fld 1 = eC c.att := rfl
theorem eW_2 (c : Wk) : (eW c).fld 2 = eC c.val := rfl
theorem eY_0 (c : Sy) : (eY c).fld 0 = .s c.name := rfl
theorem eY_1 (c : Sy) : (eY c).fld 1 = .i c.ar := rfl
theorem eS_0 (s : So) : (eS s).fld 0 = .r (s.cs.map eC) := rfl
theorem eS_1 (s : So) : (eS s).fld 1 = .r (s.ys.map eY) := rfl
theorem eS_2 (s : So) : (eS s).fld 2 = .r (s.tr.map eU) := rfl
theorem eS_3 (s : So) : (eS s).fld 3 = .r (s.wk.map eW) := rfl
theorem eS_4 (s : So) : (eS s).fld 4 = .i s.ser := rfl
theorem eS_5 (s : So) : (eS s).fld 5 = .i s.mx := rfl
theorem eS_s0 (s : So) (l : List Ce) : D.a ((eS s).fs.set 0 (.r (l.map eC))) = eS { s with cs := l } := rfl
theorem eS_s1 (s : So) (l : List Sy) : D.a ((eS s).fs.set 1 (.r (l.map eY))) = eS { s with ys := l } := rfl
theorem eS_s2 (s : So) (l : List Un) : D.a ((eS s).fs.set 2 (.r (l.map eU))) = eS { s with tr := l } := rfl
theorem eS_s3 (s : So) (l : List Wk) : D.a ((eS s).fs.set 3 (.r (l.map eW))) = eS { s with wk := l } := rfl
theorem eS_s4 (s : So) (n : Int) : D.a ((eS s).fs.set 4 (.i n)) = eS { s with ser := n } := rfl
theorem eC_s0 (c : Ce) (n : Int) : D.a ((eC c).fs.set 0 (.i n)) = eC { c with t := n } := rfl
theorem eC_mk (t n : Int) : D.a [.i t, .i n] = eC ⟨t, n⟩ := rfl
theorem eU_mk (n : Int) (c : Ce) : D.a [.i n, eC c] = eU ⟨n, c⟩ := rfl

abbrev i64 (n : Int) : Prop := -9223372036854775808 ≤ n ∧ n ≤ 9223372036854775807
def Ce.ok (c : Ce) : Prop := i64 c.t ∧ i64 c.n
def Un.ok (c : Un) : Prop := i64 c.at' ∧ c.old.ok
def Wk.ok (c : Wk) : Prop := i64 c.ser ∧ c.att.ok ∧ c.val.ok
def Sy.ok (c : Sy) : Prop := c.name.size ≤ LIM ∧ i64 c.ar
structure So.ok (s : So) : Prop where
  cs : s.cs.length ≤ LIM ∧ ∀ c ∈ s.cs, c.ok
  ys : s.ys.length ≤ LIM ∧ ∀ c ∈ s.ys, c.ok
  tr : s.tr.length ≤ LIM ∧ ∀ c ∈ s.tr, c.ok
  wk : s.wk.length ≤ LIM ∧ ∀ c ∈ s.wk, c.ok
  ser : i64 s.ser
  mx : i64 s.mx

theorem wfI {d : D} (h : Wf d (.int .i64)) : ∃ n, d = .i n ∧ i64 n := by
  obtain ⟨n, rfl, hn⟩ := h.int
  exact ⟨n, rfl, rng64.1 hn⟩
theorem wfC {d : D} (h : Wf d T_Cell) : ∃ c, d = eC c ∧ c.ok := by
  obtain ⟨ds, rfl, hl⟩ := h.st_of (fs := [.int .i64, .int .i64]) rfl
  obtain ⟨a, b, rfl, ha, hb⟩ := wfL2 hl
  obtain ⟨x, rfl, hx⟩ := wfI ha
  obtain ⟨y, rfl, hy⟩ := wfI hb
  exact ⟨⟨x, y⟩, rfl, hx, hy⟩
theorem wfU {d : D} (h : Wf d T_Undo) : ∃ c, d = eU c ∧ c.ok := by
  obtain ⟨ds, rfl, hl⟩ := h.st_of (fs := [.int .i64, T_Cell]) rfl
  obtain ⟨a, b, rfl, ha, hb⟩ := wfL2 hl
  obtain ⟨x, rfl, hx⟩ := wfI ha
  obtain ⟨y, rfl, hy⟩ := wfC hb
  exact ⟨⟨x, y⟩, rfl, hx, hy⟩
theorem wfW {d : D} (h : Wf d T_Wake) : ∃ c, d = eW c ∧ c.ok := by
  obtain ⟨ds, rfl, hl⟩ := h.st_of (fs := [.int .i64, T_Cell, T_Cell]) rfl
  obtain ⟨a, r, rfl, ha, hr⟩ := wfL_cons hl
  obtain ⟨b, c, rfl, hb, hc⟩ := wfL2 hr
  obtain ⟨x, rfl, hx⟩ := wfI ha
  obtain ⟨y, rfl, hy⟩ := wfC hb
  obtain ⟨z, rfl, hz⟩ := wfC hc
  exact ⟨⟨x, y, z⟩, rfl, hx, hy, hz⟩
theorem wfY {d : D} (h : Wf d T_Symbol) : ∃ c, d = eY c ∧ c.ok := by
  obtain ⟨ds, rfl, hl⟩ := h.st_of (fs := [.str, .int .i64]) rfl
  obtain ⟨a, b, rfl, ha, hb⟩ := wfL2 hl
  obtain ⟨x, rfl, hx⟩ := ha.str
  obtain ⟨y, rfl, hy⟩ := wfI hb
  exact ⟨⟨x, y⟩, rfl, hx, hy⟩
theorem wfCs {d : D} (h : Wf d T_Cells) : ∃ l : List Ce, d = .r (l.map eC) ∧ l.length ≤ LIM ∧ ∀ c ∈ l, c.ok := by
  obtain ⟨l, rfl, h1, h2⟩ := h.row_of (te := T_Cell) rfl
  obtain ⟨m, rfl, h3⟩ := of_all (e := eC) (P := Ce.ok) fun x hx => wfC (h2 x hx)
  exact ⟨m, rfl, by simpa using h1, h3⟩
theorem wfUs {d : D} (h : Wf d T_Undos) : ∃ l : List Un, d = .r (l.map eU) ∧ l.length ≤ LIM ∧ ∀ c ∈ l, c.ok := by
  obtain ⟨l, rfl, h1, h2⟩ := h.row_of (te := T_Undo) rfl
  obtain ⟨m, rfl, h3⟩ := of_all (e := eU) (P := Un.ok) fun x hx => wfU (h2 x hx)
  exact ⟨m, rfl, by simpa using h1, h3⟩
theorem wfWs {d : D} (h : Wf d T_Wakes) : ∃ l : List Wk, d = .r (l.map eW) ∧ l.length ≤ LIM ∧ ∀ c ∈ l, c.ok := by
  obtain ⟨l, rfl, h1, h2⟩ := h.row_of (te := T_Wake) rfl
  obtain ⟨m, rfl, h3⟩ := of_all (e := eW) (P := Wk.ok) fun x hx => wfW (h2 x hx)
  exact ⟨m, rfl, by simpa using h1, h3⟩
theorem wfYs {d : D} (h : Wf d T_Symbols) : ∃ l : List Sy, d = .r (l.map eY) ∧ l.length ≤ LIM ∧ ∀ c ∈ l, c.ok := by
  obtain ⟨l, rfl, h1, h2⟩ := h.row_of (te := T_Symbol) rfl
  obtain ⟨m, rfl, h3⟩ := of_all (e := eY) (P := Sy.ok) fun x hx => wfY (h2 x hx)
  exact ⟨m, rfl, by simpa using h1, h3⟩
theorem wfS {d : D} (h : Wf d T_Store) : ∃ s, d = eS s ∧ s.ok := by
  obtain ⟨ds, rfl, hl⟩ := h.st_of (fs := [T_Cells, T_Symbols, T_Undos, T_Wakes, .int .i64, .int .i64]) rfl
  obtain ⟨d0, r, rfl, h0, hl⟩ := wfL_cons hl
  obtain ⟨d1, r, rfl, h1, hl⟩ := wfL_cons hl
  obtain ⟨d2, r, rfl, h2, hl⟩ := wfL_cons hl
  obtain ⟨d3, r, rfl, h3, hl⟩ := wfL_cons hl
  obtain ⟨d4, d5, rfl, h4, h5⟩ := wfL2 hl
  obtain ⟨cs, rfl, q0⟩ := wfCs h0
  obtain ⟨ys, rfl, q1⟩ := wfYs h1
  obtain ⟨tr, rfl, q2⟩ := wfUs h2
  obtain ⟨wk, rfl, q3⟩ := wfWs h3
  obtain ⟨x, rfl, q4⟩ := wfI h4
  obtain ⟨y, rfl, q5⟩ := wfI h5
  exact ⟨⟨cs, ys, tr, wk, x, y⟩, rfl, q0, q1, q2, q3, q4, q5⟩
end Go.Proofs.Ytcjapglipkmbhaa

namespace Go.Proofs.Ytcjapglipkmbhaa
open Go.RowKit
set_option linter.unusedVariables false

def ct_trail_Tidy : Ct := ⟨20, [.ref (.st 26), .val (.int .i64), .val (.int .i64)], [(.int .i64, false)], []⟩
theorem enter_trail_Tidy (args : Array Value) (w : World) : (callFunc ct_trail_Tidy.f args).run Try.prog w = .ok (.enter ct_trail_Tidy.f args) w := by kernel_rfl
def ann_trail_Tidy : Ann := ⟨[0, 1, 2, 5, 6, 7, 12], []⟩
def tree_trail_Tidy : Tree := (.need [(.ok 0 [(.tok 0), (.tok 1), (.tok 2)])] (.br (.not (.call 0 0 [(.tok 0), (.tok 1), (.tok 2)])) (.leaf [(.lit (.i 1)), (.tok 0)]) (.need [(.le (.lit (.i 0)) (.tok 1)), (.le (.tok 1) (.len (.fld (.tok 0) 2)))] (.need [(.rng .i64 (.add (.tok 1) (.len (.fn 7 [(.cut (.fld (.tok 0) 2) (.tok 1) (.len (.fld (.tok 0) 2))), (.tok 2)])))), (.le (.lit (.i 0)) (.add (.tok 1) (.len (.fn 7 [(.cut (.fld (.tok 0) 2) (.tok 1) (.len (.fld (.tok 0) 2))), (.tok 2)])))), (.le (.add (.tok 1) (.len (.fn 7 [(.cut (.fld (.tok 0) 2) (.tok 1) (.len (.fld (.tok 0) 2))), (.tok 2)]))) (.len (.fld (.fn 6 [(.tok 0), (.lit (.i 2)), (.tok 1), (.fn 5 [(.cut (.fld (.tok 0) 2) (.tok 1) (.len (.fld (.tok 0) 2))), (.tok 2)])]) 2)))] (.leaf [(.lit (.i 0)), (.set (.fn 6 [(.tok 0), (.lit (.i 2)), (.tok 1), (.fn 5 [(.cut (.fld (.tok 0) 2) (.tok 1) (.len (.fld (.tok 0) 2))), (.tok 2)])]) 2 (.cut (.fld (.fn 6 [(.tok 0), (.lit (.i 2)), (.tok 1), (.fn 5 [(.cut (.fld (.tok 0) 2) (.tok 1) (.len (.fld (.tok 0) 2))), (.tok 2)])]) 2) (.lit (.i 0)) (.add (.tok 1) (.len (.fn 7 [(.cut (.fld (.tok 0) 2) (.tok 1) (.len (.fld (.tok 0) 2))), (.tok 2)])))))])))))
set_option maxRecDepth 100000 in
theorem code_trail_Tidy (g0 : List D → Option (List D)) : ∀ cd, Try.f20.body = some cd → treeOf Try.prog [(ct_trail_marked, g0)] ann_trail_Tidy ct_trail_Tidy Try.f20 cd = tree_trail_Tidy := by
  intro cd h
  injection h with h
  subst h
  kernel_rfl
theorem fok_trail_Tidy {g0 : List D → Option (List D)} {g : List D → Option (List D)} (h0 : FOk ct_trail_marked g0) (h : ∀ ds outs, WfA ct_trail_Tidy.ars ds → g ds = some outs → tree_trail_Tidy.go (tblS [(ct_trail_marked, g0)]) (fun o => o = outs) ds fun _ _ => False) : FOk ct_trail_Tidy g :=
  fok_of ann_trail_Tidy Try.f20 _ (.cons h0 .nil) rfl rfl enter_trail_Tidy (by decide) fun ds outs hw hg => by rw [code_trail_Tidy g0 _ rfl]; exact h ds outs hw hg

def ct_trail_Tidy_n : Ct := ⟨20, [.nilp, .val (.int .i64), .val (.int .i64)], [(.int .i64, false)], []⟩
theorem enter_trail_Tidy_n (args : Array Value) (w : World) : (callFunc ct_trail_Tidy_n.f args).run Try.prog w = .ok (.enter ct_trail_Tidy_n.f args) w := by kernel_rfl
def ann_trail_Tidy_n : Ann := ⟨[0, 1, 2, 5, 6, 7, 12], []⟩
def tree_trail_Tidy_n : Tree := (.need [(.ok 0 [(.tok 0), (.tok 1)])] (.br (.not (.call 0 0 [(.tok 0), (.tok 1)])) (.leaf [(.lit (.i 1))]) (.bad 3)))
set_option maxRecDepth 100000 in
theorem code_trail_Tidy_n (g0 : List D → Option (List D)) : ∀ cd, Try.f20.body = some cd → treeOf Try.prog [(ct_trail_marked_n, g0)] ann_trail_Tidy_n ct_trail_Tidy_n Try.f20 cd = tree_trail_Tidy_n := by
  intro cd h
  injection h with h
  subst h
  kernel_rfl
theorem fok_trail_Tidy_n {g0 : List D → Option (List D)} {g : List D → Option (List D)} (h0 : FOk ct_trail_marked_n g0) (h : ∀ ds outs, WfA ct_trail_Tidy_n.ars ds → g ds = some outs → tree_trail_Tidy_n.go (tblS [(ct_trail_marked_n, g0)]) (fun o => o = outs) ds fun _ _ => False) : FOk ct_trail_Tidy_n g :=
  fok_of ann_trail_Tidy_n Try.f20 _ (.cons h0 .nil) rfl rfl enter_trail_Tidy_n (by decide) fun ds outs hw hg => by rw [code_trail_Tidy_n g0 _ rfl]; exact h ds outs hw hg

def ct_ref30_Clone : Ct := ⟨10, [.val (.st 26)], [(.st 26, true)], []⟩
theorem enter_ref30_Clone (args : Array Value) (w : World) : (callFunc ct_ref30_Clone.f args).run Try.prog w = .ok (.enter ct_ref30_Clone.f args) w := by kernel_rfl
def ann_ref30_Clone : Ann := ⟨[0, 1, 2, 3], []⟩
def tree_ref30_Clone : Tree := (.need [(.le (.len (.fld (.tok 0) 0)) (.lit (.i 34359738368)))] (.need [(.le (.len (.fld (.tok 0) 1)) (.lit (.i 34359738368)))] (.need [(.le (.len (.fld (.tok 0) 2)) (.lit (.i 34359738368)))] (.need [(.le (.len (.fld (.tok 0) 3)) (.lit (.i 34359738368)))] (.leaf [(.set (.set (.set (.set (.tok 0) 0 (.app (.lit (.r [])) (.fld (.tok 0) 0))) 1 (.app (.lit (.r [])) (.fld (.tok 0) 1))) 2 (.app (.lit (.r [])) (.fld (.tok 0) 2))) 3 (.app (.lit (.r [])) (.fld (.tok 0) 3)))])))))
set_option maxRecDepth 100000 in
theorem code_ref30_Clone : ∀ cd, Try.f10.body = some cd → treeOf Try.prog [] ann_ref30_Clone ct_ref30_Clone Try.f10 cd = tree_ref30_Clone := by
  intro cd h
  injection h with h
  subst h
  kernel_rfl
theorem fok_ref30_Clone {g : List D → Option (List D)}  (h : ∀ ds outs, WfA ct_ref30_Clone.ars ds → g ds = some outs → tree_ref30_Clone.go (tblS []) (fun o => o = outs) ds fun _ _ => False) : FOk ct_ref30_Clone g :=
  fok_of ann_ref30_Clone Try.f10 _ .nil rfl rfl enter_ref30_Clone (by decide) fun ds outs hw hg => by rw [code_ref30_Clone  _ rfl]; exact h ds outs hw hg

def ct_ref30_Valid : Ct := ⟨11, [.val (.st 26)], [(.bool, false)], []⟩
theorem enter_ref30_Valid (args : Array Value) (w : World) : (callFunc ct_ref30_Valid.f args).run Try.prog w = .ok (.enter ct_ref30_Valid.f args) w := by kernel_rfl
def ct_ref30_symbols : Ct := ⟨26, [.val (.row 59)], [(.bool, false)], []⟩
theorem enter_ref30_symbols (args : Array Value) (w : World) : (callFunc ct_ref30_symbols.f args).run Try.prog w = .ok (.enter ct_ref30_symbols.f args) w := by kernel_rfl
def ct_ref30_cell : Ct := ⟨27, [.val (.st 26), .val (.int .i64)], [(.bool, false)], []⟩
theorem enter_ref30_cell (args : Array Value) (w : World) : (callFunc ct_ref30_cell.f args).run Try.prog w = .ok (.enter ct_ref30_cell.f args) w := by kernel_rfl
def ct_ref30_old : Ct := ⟨28, [.val (.st 26), .val (.st 44)], [(.bool, false)], []⟩
theorem enter_ref30_old (args : Array Value) (w : World) : (callFunc ct_ref30_old.f args).run Try.prog w = .ok (.enter ct_ref30_old.f args) w := by kernel_rfl
def ann_ref30_Valid : Ann := ⟨[0, 1, 2, 3, 4, 5, 6, 33, 38, 44, 49, 59, 64, 95], [(4, ⟨[(2, .bool, false), (3, .int .i64, false)], [], [34, 35, 36, 37, 38, 41, 42, 43, 44, 39, 40], []⟩),
  (9, ⟨[(2, .bool, false), (4, .int .i64, false)], [], [45, 46, 47, 48, 49, 52, 53, 54, 55, 56, 57, 58, 59, 50, 51], []⟩),
  (14, ⟨[(2, .bool, false), (5, .int .i64, false)], [], [60, 61, 62, 63, 64, 67, 68, 69, 70, 71, 6, 72, 73, 74, 75, 76, 77, 78, 79, 80, 81, 82, 83, 84, 85, 86, 87, 88, 89, 90, 91, 92, 93, 94, 95, 65, 66], []⟩)]⟩
def tree_ref30_Valid : Tree := (.need [(.imp (.not (.or (.or (.or (.lt (.fld (.tok 0) 5) (.lit (.i 1))) (.lt (.lit (.i 1048576)) (.fld (.tok 0) 5))) (.lt (.fld (.tok 0) 5) (.len (.fld (.tok 0) 0)))) (.lt (.fld (.tok 0) 4) (.lit (.i 0))))) (.ok 0 [(.fld (.tok 0) 1)]))] (.br (.or (.or (.or (.or (.lt (.fld (.tok 0) 5) (.lit (.i 1))) (.lt (.lit (.i 1048576)) (.fld (.tok 0) 5))) (.lt (.fld (.tok 0) 5) (.len (.fld (.tok 0) 0)))) (.lt (.fld (.tok 0) 4) (.lit (.i 0)))) (.not (.call 0 0 [(.fld (.tok 0) 1)]))) (.leaf [(.lit (.b .false))]) (.loop 4 1 [(.lit (.b .false)), (.lit (.i 0))] (.br (.lt (.tok 2) (.len (.fld (.tok 0) 0))) (.need [(.ok 1 [(.tok 0), (.tok 2)])] (.br (.not (.call 1 0 [(.tok 0), (.tok 2)])) (.leaf [(.lit (.b .false))]) (.need [(.rng .i64 (.add (.tok 2) (.lit (.i 1))))] (.back 4 [(.tok 1), (.add (.tok 2) (.lit (.i 1)))])))) (.loop 9 3 [(.tok 1), (.lit (.i 0))] (.br (.lt (.tok 4) (.len (.fld (.tok 0) 2))) (.need [(.ok 2 [(.tok 0), (.get (.fld (.tok 0) 2) (.tok 4))]), (.le (.lit (.i 0)) (.tok 4)), (.lt (.tok 4) (.len (.fld (.tok 0) 2)))] (.br (.not (.call 2 0 [(.tok 0), (.get (.fld (.tok 0) 2) (.tok 4))])) (.leaf [(.lit (.b .false))]) (.need [(.rng .i64 (.add (.tok 4) (.lit (.i 1))))] (.back 9 [(.tok 3), (.add (.tok 4) (.lit (.i 1)))])))) (.loop 14 5 [(.tok 3), (.lit (.i 0))] (.br (.lt (.tok 6) (.len (.fld (.tok 0) 3))) (.need [(.le (.lit (.i 0)) (.tok 6)), (.lt (.tok 6) (.len (.fld (.tok 0) 3)))] (.need [(.imp (.not (.or (.lt (.fld (.get (.fld (.tok 0) 3) (.tok 6)) 0) (.lit (.i 1))) (.lt (.fld (.tok 0) 4) (.fld (.get (.fld (.tok 0) 3) (.tok 6)) 0)))) (.ok 3 [(.tok 0), (.fld (.get (.fld (.tok 0) 3) (.tok 6)) 1)])), (.imp (.not (.or (.or (.lt (.fld (.get (.fld (.tok 0) 3) (.tok 6)) 0) (.lit (.i 1))) (.lt (.fld (.tok 0) 4) (.fld (.get (.fld (.tok 0) 3) (.tok 6)) 0))) (.not (.call 3 0 [(.tok 0), (.fld (.get (.fld (.tok 0) 3) (.tok 6)) 1)])))) (.ok 3 [(.tok 0), (.fld (.get (.fld (.tok 0) 3) (.tok 6)) 2)]))] (.br (.or (.or (.or (.lt (.fld (.get (.fld (.tok 0) 3) (.tok 6)) 0) (.lit (.i 1))) (.lt (.fld (.tok 0) 4) (.fld (.get (.fld (.tok 0) 3) (.tok 6)) 0))) (.not (.call 3 0 [(.tok 0), (.fld (.get (.fld (.tok 0) 3) (.tok 6)) 1)]))) (.not (.call 3 0 [(.tok 0), (.fld (.get (.fld (.tok 0) 3) (.tok 6)) 2)]))) (.leaf [(.lit (.b .false))]) (.need [(.rng .i64 (.add (.tok 6) (.lit (.i 1))))] (.back 14 [(.tok 5), (.add (.tok 6) (.lit (.i 1)))]))))) (.leaf [(.lit (.b .true))])))))))))
set_option maxRecDepth 100000 in
theorem code_ref30_Valid (g0 g1 g2 g3 : List D → Option (List D)) : ∀ cd, Try.f11.body = some cd → treeOf Try.prog [(ct_ref30_symbols, g0), (ct_ref30_cell, g1), (ct_ref30_old, g2), (ct_ref30_ValidCell, g3)] ann_ref30_Valid ct_ref30_Valid Try.f11 cd = tree_ref30_Valid := by
  intro cd h
  injection h with h
  subst h
  kernel_rfl
theorem fok_ref30_Valid {g0 g1 g2 g3 : List D → Option (List D)} {g : List D → Option (List D)} (h0 : FOk ct_ref30_symbols g0) (h1 : FOk ct_ref30_cell g1) (h2 : FOk ct_ref30_old g2) (h3 : FOk ct_ref30_ValidCell g3) (h : ∀ ds outs, WfA ct_ref30_Valid.ars ds → g ds = some outs → tree_ref30_Valid.go (tblS [(ct_ref30_symbols, g0), (ct_ref30_cell, g1), (ct_ref30_old, g2), (ct_ref30_ValidCell, g3)]) (fun o => o = outs) ds fun _ _ => False) : FOk ct_ref30_Valid g :=
  fok_of ann_ref30_Valid Try.f11 _ (.cons h0 (.cons h1 (.cons h2 (.cons h3 .nil)))) rfl rfl enter_ref30_Valid (by decide) fun ds outs hw hg => by rw [code_ref30_Valid g0 g1 g2 g3 _ rfl]; exact h ds outs hw hg

def ct_ref30_Same : Ct := ⟨15, [.val (.st 26), .val (.st 26)], [(.bool, false)], []⟩
theorem enter_ref30_Same (args : Array Value) (w : World) : (callFunc ct_ref30_Same.f args).run Try.prog w = .ok (.enter ct_ref30_Same.f args) w := by kernel_rfl
def ann_ref30_Same : Ann := ⟨[0, 1, 2, 3, 4, 5, 6, 7, 8, 56, 61, 74, 79, 92, 97, 110, 115, 128], [(4, ⟨[(4, .bool, false), (5, .int .i64, false)], [], [57, 58, 59, 60, 61, 64, 65, 66, 67, 68, 69, 70, 71, 72, 73, 74, 62, 63], []⟩),
  (9, ⟨[(4, .bool, false), (6, .int .i64, false)], [], [75, 76, 77, 78, 79, 82, 83, 84, 85, 86, 87, 88, 89, 90, 91, 92, 80, 81], []⟩),
  (14, ⟨[(4, .bool, false), (7, .int .i64, false)], [], [93, 94, 95, 96, 97, 100, 101, 102, 103, 104, 105, 106, 107, 108, 109, 110, 98, 99], []⟩),
  (19, ⟨[(4, .bool, false), (8, .int .i64, false)], [], [111, 112, 113, 114, 115, 118, 119, 120, 121, 122, 123, 124, 125, 126, 127, 128, 116, 117], []⟩)]⟩
def tree_ref30_Same : Tree := (.br (.or (.or (.or (.or (.or (.not (.eq (.len (.fld (.tok 0) 0)) (.len (.fld (.tok 1) 0)))) (.not (.eq (.len (.fld (.tok 0) 1)) (.len (.fld (.tok 1) 1))))) (.not (.eq (.len (.fld (.tok 0) 2)) (.len (.fld (.tok 1) 2))))) (.not (.eq (.len (.fld (.tok 0) 3)) (.len (.fld (.tok 1) 3))))) (.not (.eq (.fld (.tok 0) 4) (.fld (.tok 1) 4)))) (.not (.eq (.fld (.tok 0) 5) (.fld (.tok 1) 5)))) (.leaf [(.lit (.b .false))]) (.loop 4 2 [(.lit (.b .false)), (.lit (.i 0))] (.br (.lt (.tok 3) (.len (.fld (.tok 0) 0))) (.need [(.le (.lit (.i 0)) (.tok 3)), (.lt (.tok 3) (.len (.fld (.tok 1) 0))), (.le (.lit (.i 0)) (.tok 3)), (.lt (.tok 3) (.len (.fld (.tok 0) 0)))] (.br (.not (.eq (.get (.fld (.tok 0) 0) (.tok 3)) (.get (.fld (.tok 1) 0) (.tok 3)))) (.leaf [(.lit (.b .false))]) (.need [(.rng .i64 (.add (.tok 3) (.lit (.i 1))))] (.back 4 [(.tok 2), (.add (.tok 3) (.lit (.i 1)))])))) (.loop 9 4 [(.tok 2), (.lit (.i 0))] (.br (.lt (.tok 5) (.len (.fld (.tok 0) 1))) (.need [(.le (.lit (.i 0)) (.tok 5)), (.lt (.tok 5) (.len (.fld (.tok 1) 1))), (.le (.lit (.i 0)) (.tok 5)), (.lt (.tok 5) (.len (.fld (.tok 0) 1)))] (.br (.not (.eq (.get (.fld (.tok 0) 1) (.tok 5)) (.get (.fld (.tok 1) 1) (.tok 5)))) (.leaf [(.lit (.b .false))]) (.need [(.rng .i64 (.add (.tok 5) (.lit (.i 1))))] (.back 9 [(.tok 4), (.add (.tok 5) (.lit (.i 1)))])))) (.loop 14 6 [(.tok 4), (.lit (.i 0))] (.br (.lt (.tok 7) (.len (.fld (.tok 0) 2))) (.need [(.le (.lit (.i 0)) (.tok 7)), (.lt (.tok 7) (.len (.fld (.tok 1) 2))), (.le (.lit (.i 0)) (.tok 7)), (.lt (.tok 7) (.len (.fld (.tok 0) 2)))] (.br (.not (.eq (.get (.fld (.tok 0) 2) (.tok 7)) (.get (.fld (.tok 1) 2) (.tok 7)))) (.leaf [(.lit (.b .false))]) (.need [(.rng .i64 (.add (.tok 7) (.lit (.i 1))))] (.back 14 [(.tok 6), (.add (.tok 7) (.lit (.i 1)))])))) (.loop 19 8 [(.tok 6), (.lit (.i 0))] (.br (.lt (.tok 9) (.len (.fld (.tok 0) 3))) (.need [(.le (.lit (.i 0)) (.tok 9)), (.lt (.tok 9) (.len (.fld (.tok 1) 3))), (.le (.lit (.i 0)) (.tok 9)), (.lt (.tok 9) (.len (.fld (.tok 0) 3)))] (.br (.not (.eq (.get (.fld (.tok 0) 3) (.tok 9)) (.get (.fld (.tok 1) 3) (.tok 9)))) (.leaf [(.lit (.b .false))]) (.need [(.rng .i64 (.add (.tok 9) (.lit (.i 1))))] (.back 19 [(.tok 8), (.add (.tok 9) (.lit (.i 1)))])))) (.leaf [(.lit (.b .true))]))))))))))
set_option maxRecDepth 100000 in
theorem code_ref30_Same : ∀ cd, Try.f15.body = some cd → treeOf Try.prog [] ann_ref30_Same ct_ref30_Same Try.f15 cd = tree_ref30_Same := by
  intro cd h
  injection h with h
  subst h
  kernel_rfl
theorem fok_ref30_Same {g : List D → Option (List D)}  (h : ∀ ds outs, WfA ct_ref30_Same.ars ds → g ds = some outs → tree_ref30_Same.go (tblS []) (fun o => o = outs) ds fun _ _ => False) : FOk ct_ref30_Same g :=
  fok_of ann_ref30_Same Try.f15 _ .nil rfl rfl enter_ref30_Same (by decide) fun ds outs hw hg => by rw [code_ref30_Same  _ rfl]; exact h ds outs hw hg

def ct_ref31_Tidy : Ct := ⟨22, [.ref (.st 26), .val (.int .i64), .val (.int .i64)], [(.int .i64, false)], []⟩
theorem enter_ref31_Tidy (args : Array Value) (w : World) : (callFunc ct_ref31_Tidy.f args).run Try.prog w = .ok (.enter ct_ref31_Tidy.f args) w := by kernel_rfl
def ann_ref31_Tidy : Ann := ⟨[0, 1, 2, 6, 7, 8, 13, 20, 37], [(5, ⟨[(7, .row 45, false), (8, .int .i64, false)], [], [14, 15, 16, 17, 18, 19, 20, 23, 24, 25, 26, 27, 28, 29, 30, 31, 32, 33, 34, 35, 36, 37, 38, 39, 40, 41, 42, 43, 44, 45, 46, 47, 21, 22], []⟩)]⟩
def tree_ref31_Tidy : Tree := (.need [(.ok 0 [(.tok 0), (.tok 1), (.tok 2)])] (.br (.not (.call 0 0 [(.tok 0), (.tok 1), (.tok 2)])) (.leaf [(.lit (.i 1)), (.tok 0)]) (.loop 5 3 [(.lit (.r [])), (.lit (.i 0))] (.br (.lt (.tok 4) (.len (.fld (.tok 0) 2))) (.need [(.imp (.not (.lt (.tok 4) (.tok 1))) (.le (.lit (.i 0)) (.tok 4))), (.imp (.not (.lt (.tok 4) (.tok 1))) (.lt (.tok 4) (.len (.fld (.tok 0) 2))))] (.br (.or (.lt (.tok 4) (.tok 1)) (.lt (.fld (.get (.fld (.tok 0) 2) (.tok 4)) 0) (.tok 2))) (.need [(.le (.lit (.i 0)) (.tok 4)), (.lt (.tok 4) (.len (.fld (.tok 0) 2))), (.le (.add (.len (.tok 3)) (.lit (.i 1))) (.lit (.i 34359738368)))] (.need [(.rng .i64 (.add (.tok 4) (.lit (.i 1))))] (.back 5 [(.app (.tok 3) (.row [(.get (.fld (.tok 0) 2) (.tok 4))])), (.add (.tok 4) (.lit (.i 1)))]))) (.need [(.rng .i64 (.add (.tok 4) (.lit (.i 1))))] (.back 5 [(.tok 3), (.add (.tok 4) (.lit (.i 1)))])))) (.leaf [(.lit (.i 0)), (.set (.tok 0) 2 (.tok 3))])))))
set_option maxRecDepth 100000 in
theorem code_ref31_Tidy (g0 : List D → Option (List D)) : ∀ cd, Try.f22.body = some cd → treeOf Try.prog [(ct_ref31_within, g0)] ann_ref31_Tidy ct_ref31_Tidy Try.f22 cd = tree_ref31_Tidy := by
  intro cd h
  injection h with h
  subst h
  kernel_rfl
theorem fok_ref31_Tidy {g0 : List D → Option (List D)} {g : List D → Option (List D)} (h0 : FOk ct_ref31_within g0) (h : ∀ ds outs, WfA ct_ref31_Tidy.ars ds → g ds = some outs → tree_ref31_Tidy.go (tblS [(ct_ref31_within, g0)]) (fun o => o = outs) ds fun _ _ => False) : FOk ct_ref31_Tidy g :=
  fok_of ann_ref31_Tidy Try.f22 _ (.cons h0 .nil) rfl rfl enter_ref31_Tidy (by decide) fun ds outs hw hg => by rw [code_ref31_Tidy g0 _ rfl]; exact h ds outs hw hg

def ct_cells_Valid : Ct := ⟨23, [.val (.st 26)], [(.bool, false)], []⟩
theorem enter_cells_Valid (args : Array Value) (w : World) : (callFunc ct_cells_Valid.f args).run Try.prog w = .ok (.enter ct_cells_Valid.f args) w := by kernel_rfl
def ct_cells_validSymbols : Ct := ⟨43, [.val (.row 59)], [(.bool, false)], []⟩
theorem enter_cells_validSymbols (args : Array Value) (w : World) : (callFunc ct_cells_validSymbols.f args).run Try.prog w = .ok (.enter ct_cells_validSymbols.f args) w := by kernel_rfl
def ct_cells_fits : Ct := ⟨44, [.val (.st 26), .val (.int .i64)], [(.bool, false)], []⟩
theorem enter_cells_fits (args : Array Value) (w : World) : (callFunc ct_cells_fits.f args).run Try.prog w = .ok (.enter ct_cells_fits.f args) w := by kernel_rfl
def ct_cells_acyclic : Ct := ⟨45, [.val (.st 26)], [(.bool, false)], []⟩
theorem enter_cells_acyclic (args : Array Value) (w : World) : (callFunc ct_cells_acyclic.f args).run Try.prog w = .ok (.enter ct_cells_acyclic.f args) w := by kernel_rfl
def ct_cells_validUndo : Ct := ⟨46, [.val (.st 26), .val (.st 44)], [(.bool, false)], []⟩
theorem enter_cells_validUndo (args : Array Value) (w : World) : (callFunc ct_cells_validUndo.f args).run Try.prog w = .ok (.enter ct_cells_validUndo.f args) w := by kernel_rfl
def ann_cells_Valid : Ann := ⟨[0, 1, 2, 3, 5, 7, 34, 37, 38, 39, 44, 48, 50, 51, 52, 53, 59, 62, 63, 64, 65, 91], [(4, ⟨[(2, .bool, false), (38, .int .i64, false)], [], [39, 40, 3, 41, 42, 43, 44, 45], []⟩),
  (12, ⟨[(2, .bool, false), (52, .int .i64, false)], [], [53, 54, 55, 5, 56, 57, 58, 59, 60], []⟩),
  (18, ⟨[(2, .bool, false), (64, .int .i64, false)], [], [65, 66, 67, 7, 68, 69, 70, 71, 72, 73, 74, 75, 76, 77, 78, 79, 80, 81, 82, 83, 84, 85, 86, 87, 88, 89, 90, 91, 92], []⟩)]⟩
def tree_cells_Valid : Tree := (.need [(.imp (.not (.or (.or (.or (.lt (.fld (.tok 0) 5) (.lit (.i 1))) (.lt (.lit (.i 1048576)) (.fld (.tok 0) 5))) (.lt (.fld (.tok 0) 5) (.len (.fld (.tok 0) 0)))) (.lt (.fld (.tok 0) 4) (.lit (.i 0))))) (.ok 0 [(.fld (.tok 0) 1)]))] (.br (.or (.or (.or (.or (.lt (.fld (.tok 0) 5) (.lit (.i 1))) (.lt (.lit (.i 1048576)) (.fld (.tok 0) 5))) (.lt (.fld (.tok 0) 5) (.len (.fld (.tok 0) 0)))) (.lt (.fld (.tok 0) 4) (.lit (.i 0)))) (.not (.call 0 0 [(.fld (.tok 0) 1)]))) (.leaf [(.lit (.b .false))]) (.loop 4 1 [(.lit (.b .false)), (.lit (.i 0))] (.br (.lt (.tok 2) (.len (.fld (.tok 0) 0))) (.need [(.ok 1 [(.tok 0), (.tok 2)])] (.br (.not (.call 1 0 [(.tok 0), (.tok 2)])) (.leaf [(.lit (.b .false))]) (.need [(.rng .i64 (.add (.tok 2) (.lit (.i 1))))] (.back 4 [(.tok 1), (.add (.tok 2) (.lit (.i 1)))])))) (.need [(.ok 2 [(.tok 0)])] (.br (.not (.call 2 0 [(.tok 0)])) (.leaf [(.lit (.b .false))]) (.loop 12 3 [(.tok 1), (.lit (.i 0))] (.br (.lt (.tok 4) (.len (.fld (.tok 0) 2))) (.need [(.le (.lit (.i 0)) (.tok 4)), (.lt (.tok 4) (.len (.fld (.tok 0) 2)))] (.need [(.ok 3 [(.tok 0), (.get (.fld (.tok 0) 2) (.tok 4))])] (.br (.not (.call 3 0 [(.tok 0), (.get (.fld (.tok 0) 2) (.tok 4))])) (.leaf [(.lit (.b .false))]) (.need [(.rng .i64 (.add (.tok 4) (.lit (.i 1))))] (.back 12 [(.tok 3), (.add (.tok 4) (.lit (.i 1)))]))))) (.loop 18 5 [(.tok 3), (.lit (.i 0))] (.br (.lt (.tok 6) (.len (.fld (.tok 0) 3))) (.need [(.le (.lit (.i 0)) (.tok 6)), (.lt (.tok 6) (.len (.fld (.tok 0) 3)))] (.need [(.imp (.not (.or (.lt (.fld (.get (.fld (.tok 0) 3) (.tok 6)) 0) (.lit (.i 1))) (.lt (.fld (.tok 0) 4) (.fld (.get (.fld (.tok 0) 3) (.tok 6)) 0)))) (.ok 4 [(.tok 0), (.fld (.get (.fld (.tok 0) 3) (.tok 6)) 1)])), (.imp (.not (.or (.or (.lt (.fld (.get (.fld (.tok 0) 3) (.tok 6)) 0) (.lit (.i 1))) (.lt (.fld (.tok 0) 4) (.fld (.get (.fld (.tok 0) 3) (.tok 6)) 0))) (.not (.call 4 0 [(.tok 0), (.fld (.get (.fld (.tok 0) 3) (.tok 6)) 1)])))) (.ok 4 [(.tok 0), (.fld (.get (.fld (.tok 0) 3) (.tok 6)) 2)]))] (.br (.or (.or (.or (.lt (.fld (.get (.fld (.tok 0) 3) (.tok 6)) 0) (.lit (.i 1))) (.lt (.fld (.tok 0) 4) (.fld (.get (.fld (.tok 0) 3) (.tok 6)) 0))) (.not (.call 4 0 [(.tok 0), (.fld (.get (.fld (.tok 0) 3) (.tok 6)) 1)]))) (.not (.call 4 0 [(.tok 0), (.fld (.get (.fld (.tok 0) 3) (.tok 6)) 2)]))) (.leaf [(.lit (.b .false))]) (.need [(.rng .i64 (.add (.tok 6) (.lit (.i 1))))] (.back 18 [(.tok 5), (.add (.tok 6) (.lit (.i 1)))]))))) (.leaf [(.lit (.b .true))])))))))))))
set_option maxRecDepth 100000 in
theorem code_cells_Valid (g0 g1 g2 g3 g4 : List D → Option (List D)) : ∀ cd, Try.f23.body = some cd → treeOf Try.prog [(ct_cells_validSymbols, g0), (ct_cells_fits, g1), (ct_cells_acyclic, g2), (ct_cells_validUndo, g3), (ct_cells_ValidCell, g4)] ann_cells_Valid ct_cells_Valid Try.f23 cd = tree_cells_Valid := by
  intro cd h
  injection h with h
  subst h
  kernel_rfl
theorem fok_cells_Valid {g0 g1 g2 g3 g4 : List D → Option (List D)} {g : List D → Option (List D)} (h0 : FOk ct_cells_validSymbols g0) (h1 : FOk ct_cells_fits g1) (h2 : FOk ct_cells_acyclic g2) (h3 : FOk ct_cells_validUndo g3) (h4 : FOk ct_cells_ValidCell g4) (h : ∀ ds outs, WfA ct_cells_Valid.ars ds → g ds = some outs → tree_cells_Valid.go (tblS [(ct_cells_validSymbols, g0), (ct_cells_fits, g1), (ct_cells_acyclic, g2), (ct_cells_validUndo, g3), (ct_cells_ValidCell, g4)]) (fun o => o = outs) ds fun _ _ => False) : FOk ct_cells_Valid g :=
  fok_of ann_cells_Valid Try.f23 _ (.cons h0 (.cons h1 (.cons h2 (.cons h3 (.cons h4 .nil))))) rfl rfl enter_cells_Valid (by decide) fun ds outs hw hg => by rw [code_cells_Valid g0 g1 g2 g3 g4 _ rfl]; exact h ds outs hw hg

def ct_cells_Clone : Ct := ⟨24, [.val (.st 26)], [(.st 26, true)], []⟩
theorem enter_cells_Clone (args : Array Value) (w : World) : (callFunc ct_cells_Clone.f args).run Try.prog w = .ok (.enter ct_cells_Clone.f args) w := by kernel_rfl
def ct_slices_Clone_Cell : Ct := ⟨47, [.val (.row 29)], [(.row 29, true)], []⟩
theorem enter_slices_Clone_Cell (args : Array Value) (w : World) : (callFunc ct_slices_Clone_Cell.f args).run Try.prog w = .ok (.enter ct_slices_Clone_Cell.f args) w := by kernel_rfl
def ct_slices_Clone_Symbol : Ct := ⟨48, [.val (.row 59)], [(.row 59, true)], []⟩
theorem enter_slices_Clone_Symbol (args : Array Value) (w : World) : (callFunc ct_slices_Clone_Symbol.f args).run Try.prog w = .ok (.enter ct_slices_Clone_Symbol.f args) w := by kernel_rfl
def ct_slices_Clone_Undo : Ct := ⟨49, [.val (.row 45)], [(.row 45, true)], []⟩
theorem enter_slices_Clone_Undo (args : Array Value) (w : World) : (callFunc ct_slices_Clone_Undo.f args).run Try.prog w = .ok (.enter ct_slices_Clone_Undo.f args) w := by kernel_rfl
def ct_slices_Clone_Wake : Ct := ⟨50, [.val (.row 50)], [(.row 50, true)], []⟩
theorem enter_slices_Clone_Wake (args : Array Value) (w : World) : (callFunc ct_slices_Clone_Wake.f args).run Try.prog w = .ok (.enter ct_slices_Clone_Wake.f args) w := by kernel_rfl
def ann_cells_Clone : Ann := ⟨[0, 1, 2], []⟩
def tree_cells_Clone : Tree := (.need [(.ok 0 [(.fld (.tok 0) 0)])] (.need [(.ok 1 [(.fld (.tok 0) 1)])] (.need [(.ok 2 [(.fld (.tok 0) 2)])] (.need [(.ok 3 [(.fld (.tok 0) 3)])] (.leaf [(.set (.set (.set (.set (.tok 0) 0 (.call 0 0 [(.fld (.tok 0) 0)])) 1 (.call 1 0 [(.fld (.tok 0) 1)])) 2 (.call 2 0 [(.fld (.tok 0) 2)])) 3 (.call 3 0 [(.fld (.tok 0) 3)]))])))))
set_option maxRecDepth 100000 in
theorem code_cells_Clone (g0 g1 g2 g3 : List D → Option (List D)) : ∀ cd, Try.f24.body = some cd → treeOf Try.prog [(ct_slices_Clone_Cell, g0), (ct_slices_Clone_Symbol, g1), (ct_slices_Clone_Undo, g2), (ct_slices_Clone_Wake, g3)] ann_cells_Clone ct_cells_Clone Try.f24 cd = tree_cells_Clone := by
  intro cd h
  injection h with h
  subst h
  kernel_rfl
theorem fok_cells_Clone {g0 g1 g2 g3 : List D → Option (List D)} {g : List D → Option (List D)} (h0 : FOk ct_slices_Clone_Cell g0) (h1 : FOk ct_slices_Clone_Symbol g1) (h2 : FOk ct_slices_Clone_Undo g2) (h3 : FOk ct_slices_Clone_Wake g3) (h : ∀ ds outs, WfA ct_cells_Clone.ars ds → g ds = some outs → tree_cells_Clone.go (tblS [(ct_slices_Clone_Cell, g0), (ct_slices_Clone_Symbol, g1), (ct_slices_Clone_Undo, g2), (ct_slices_Clone_Wake, g3)]) (fun o => o = outs) ds fun _ _ => False) : FOk ct_cells_Clone g :=
  fok_of ann_cells_Clone Try.f24 _ (.cons h0 (.cons h1 (.cons h2 (.cons h3 .nil)))) rfl rfl enter_cells_Clone (by decide) fun ds outs hw hg => by rw [code_cells_Clone g0 g1 g2 g3 _ rfl]; exact h ds outs hw hg

def ct_cells_Same : Ct := ⟨25, [.val (.st 26), .val (.st 26)], [(.bool, false)], []⟩
theorem enter_cells_Same (args : Array Value) (w : World) : (callFunc ct_cells_Same.f args).run Try.prog w = .ok (.enter ct_cells_Same.f args) w := by kernel_rfl
def ct_slices_Equal_Cell : Ct := ⟨51, [.val (.row 29), .val (.row 29)], [(.bool, false)], []⟩
theorem enter_slices_Equal_Cell (args : Array Value) (w : World) : (callFunc ct_slices_Equal_Cell.f args).run Try.prog w = .ok (.enter ct_slices_Equal_Cell.f args) w := by kernel_rfl
def ct_slices_Equal_Symbol : Ct := ⟨52, [.val (.row 59), .val (.row 59)], [(.bool, false)], []⟩
theorem enter_slices_Equal_Symbol (args : Array Value) (w : World) : (callFunc ct_slices_Equal_Symbol.f args).run Try.prog w = .ok (.enter ct_slices_Equal_Symbol.f args) w := by kernel_rfl
def ct_slices_Equal_Undo : Ct := ⟨53, [.val (.row 45), .val (.row 45)], [(.bool, false)], []⟩
theorem enter_slices_Equal_Undo (args : Array Value) (w : World) : (callFunc ct_slices_Equal_Undo.f args).run Try.prog w = .ok (.enter ct_slices_Equal_Undo.f args) w := by kernel_rfl
def ct_slices_Equal_Wake : Ct := ⟨54, [.val (.row 50), .val (.row 50)], [(.bool, false)], []⟩
theorem enter_slices_Equal_Wake (args : Array Value) (w : World) : (callFunc ct_slices_Equal_Wake.f args).run Try.prog w = .ok (.enter ct_slices_Equal_Wake.f args) w := by kernel_rfl
def ann_cells_Same : Ann := ⟨[0, 1, 2, 3, 4], []⟩
def tree_cells_Same : Tree := (.need [(.imp (.and (.eq (.fld (.tok 0) 4) (.fld (.tok 1) 4)) (.eq (.fld (.tok 0) 5) (.fld (.tok 1) 5))) (.ok 0 [(.fld (.tok 0) 0), (.fld (.tok 1) 0)])), (.imp (.and (.and (.eq (.fld (.tok 0) 4) (.fld (.tok 1) 4)) (.eq (.fld (.tok 0) 5) (.fld (.tok 1) 5))) (.call 0 0 [(.fld (.tok 0) 0), (.fld (.tok 1) 0)])) (.ok 1 [(.fld (.tok 0) 1), (.fld (.tok 1) 1)])), (.imp (.and (.and (.and (.eq (.fld (.tok 0) 4) (.fld (.tok 1) 4)) (.eq (.fld (.tok 0) 5) (.fld (.tok 1) 5))) (.call 0 0 [(.fld (.tok 0) 0), (.fld (.tok 1) 0)])) (.call 1 0 [(.fld (.tok 0) 1), (.fld (.tok 1) 1)])) (.ok 2 [(.fld (.tok 0) 2), (.fld (.tok 1) 2)])), (.imp (.and (.and (.and (.and (.eq (.fld (.tok 0) 4) (.fld (.tok 1) 4)) (.eq (.fld (.tok 0) 5) (.fld (.tok 1) 5))) (.call 0 0 [(.fld (.tok 0) 0), (.fld (.tok 1) 0)])) (.call 1 0 [(.fld (.tok 0) 1), (.fld (.tok 1) 1)])) (.call 2 0 [(.fld (.tok 0) 2), (.fld (.tok 1) 2)])) (.ok 3 [(.fld (.tok 0) 3), (.fld (.tok 1) 3)]))] (.leaf [(.and (.and (.and (.and (.and (.eq (.fld (.tok 0) 4) (.fld (.tok 1) 4)) (.eq (.fld (.tok 0) 5) (.fld (.tok 1) 5))) (.call 0 0 [(.fld (.tok 0) 0), (.fld (.tok 1) 0)])) (.call 1 0 [(.fld (.tok 0) 1), (.fld (.tok 1) 1)])) (.call 2 0 [(.fld (.tok 0) 2), (.fld (.tok 1) 2)])) (.call 3 0 [(.fld (.tok 0) 3), (.fld (.tok 1) 3)]))]))
set_option maxRecDepth 100000 in
theorem code_cells_Same (g0 g1 g2 g3 : List D → Option (List D)) : ∀ cd, Try.f25.body = some cd → treeOf Try.prog [(ct_slices_Equal_Cell, g0), (ct_slices_Equal_Symbol, g1), (ct_slices_Equal_Undo, g2), (ct_slices_Equal_Wake, g3)] ann_cells_Same ct_cells_Same Try.f25 cd = tree_cells_Same := by
  intro cd h
  injection h with h
  subst h
  kernel_rfl
theorem fok_cells_Same {g0 g1 g2 g3 : List D → Option (List D)} {g : List D → Option (List D)} (h0 : FOk ct_slices_Equal_Cell g0) (h1 : FOk ct_slices_Equal_Symbol g1) (h2 : FOk ct_slices_Equal_Undo g2) (h3 : FOk ct_slices_Equal_Wake g3) (h : ∀ ds outs, WfA ct_cells_Same.ars ds → g ds = some outs → tree_cells_Same.go (tblS [(ct_slices_Equal_Cell, g0), (ct_slices_Equal_Symbol, g1), (ct_slices_Equal_Undo, g2), (ct_slices_Equal_Wake, g3)]) (fun o => o = outs) ds fun _ _ => False) : FOk ct_cells_Same g :=
  fok_of ann_cells_Same Try.f25 _ (.cons h0 (.cons h1 (.cons h2 (.cons h3 .nil)))) rfl rfl enter_cells_Same (by decide) fun ds outs hw hg => by rw [code_cells_Same g0 g1 g2 g3 _ rfl]; exact h ds outs hw hg

def ann_ref30_symbols : Ann := ⟨[0, 2, 3, 4, 7, 12, 46], [(5, ⟨[(2, .bool, false), (4, .int .i64, false), (3, .map 59 3, false)], [], [9, 10, 11, 12, 15, 16, 17, 18, 19, 20, 21, 22, 23, 24, 25, 26, 27, 28, 29, 30, 31, 32, 33, 34, 35, 36, 37, 38, 39, 40, 41, 42, 43, 44, 45, 46, 47, 48, 49, 50, 51, 13, 14, 8], []⟩)]⟩
def tree_ref30_symbols : Tree := (.br (.lt (.lit (.i 1048576)) (.len (.tok 0))) (.leaf [(.lit (.b .false))]) (.loop 5 1 [(.lit (.b .false)), (.lit (.i 0)), (.lit (.mp []))] (.br (.lt (.tok 2) (.len (.tok 0))) (.need [(.le (.lit (.i 0)) (.tok 2)), (.lt (.tok 2) (.len (.tok 0))), (.imp (.not (.lt (.lit (.i 100)) (.slen (.fld (.get (.tok 0) (.tok 2)) 0)))) (.le (.lit (.i 0)) (.tok 2))), (.imp (.not (.lt (.lit (.i 100)) (.slen (.fld (.get (.tok 0) (.tok 2)) 0)))) (.lt (.tok 2) (.len (.tok 0)))), (.imp (.not (.or (.lt (.lit (.i 100)) (.slen (.fld (.get (.tok 0) (.tok 2)) 0))) (.lt (.fld (.get (.tok 0) (.tok 2)) 1) (.lit (.i 0))))) (.le (.lit (.i 0)) (.tok 2))), (.imp (.not (.or (.lt (.lit (.i 100)) (.slen (.fld (.get (.tok 0) (.tok 2)) 0))) (.lt (.fld (.get (.tok 0) (.tok 2)) 1) (.lit (.i 0))))) (.lt (.tok 2) (.len (.tok 0)))), (.imp (.not (.or (.or (.lt (.lit (.i 100)) (.slen (.fld (.get (.tok 0) (.tok 2)) 0))) (.lt (.fld (.get (.tok 0) (.tok 2)) 1) (.lit (.i 0)))) (.lt (.lit (.i 8)) (.fld (.get (.tok 0) (.tok 2)) 1)))) (.le (.lit (.i 0)) (.tok 2))), (.imp (.not (.or (.or (.lt (.lit (.i 100)) (.slen (.fld (.get (.tok 0) (.tok 2)) 0))) (.lt (.fld (.get (.tok 0) (.tok 2)) 1) (.lit (.i 0)))) (.lt (.lit (.i 8)) (.fld (.get (.tok 0) (.tok 2)) 1)))) (.lt (.tok 2) (.len (.tok 0))))] (.br (.or (.or (.or (.lt (.lit (.i 100)) (.slen (.fld (.get (.tok 0) (.tok 2)) 0))) (.lt (.fld (.get (.tok 0) (.tok 2)) 1) (.lit (.i 0)))) (.lt (.lit (.i 8)) (.fld (.get (.tok 0) (.tok 2)) 1))) (.eq (.fn 0 [(.tok 3), (.get (.tok 0) (.tok 2)), (.lit (.i 0))]) (.lit (.i 1)))) (.leaf [(.lit (.b .false))]) (.need [(.le (.lit (.i 0)) (.tok 2)), (.lt (.tok 2) (.len (.tok 0)))] (.need [(.rng .i64 (.add (.tok 2) (.lit (.i 1))))] (.back 5 [(.tok 1), (.add (.tok 2) (.lit (.i 1))), (.fn 2 [(.tok 3), (.get (.tok 0) (.tok 2)), (.lit (.i 1))])]))))) (.leaf [(.lit (.b .true))]))))
set_option maxRecDepth 100000 in
theorem code_ref30_symbols : ∀ cd, Try.f26.body = some cd → treeOf Try.prog [] ann_ref30_symbols ct_ref30_symbols Try.f26 cd = tree_ref30_symbols := by
  intro cd h
  injection h with h
  subst h
  kernel_rfl
theorem fok_ref30_symbols {g : List D → Option (List D)}  (h : ∀ ds outs, WfA ct_ref30_symbols.ars ds → g ds = some outs → tree_ref30_symbols.go (tblS []) (fun o => o = outs) ds fun _ _ => False) : FOk ct_ref30_symbols g :=
  fok_of ann_ref30_symbols Try.f26 _ .nil rfl rfl enter_ref30_symbols (by decide) fun ds outs hw hg => by rw [code_ref30_symbols  _ rfl]; exact h ds outs hw hg

def ann_ref30_cell : Ann := ⟨[0, 1, 2, 4, 5, 6, 7, 15, 29, 32, 40, 50], [(7, ⟨[(4, .bool, false), (7, .int .i64, false)], [], [30, 31, 32, 35, 36, 37, 38, 39, 40, 33, 34], []⟩)]⟩
def tree_ref30_cell : Tree := (.need [(.le (.lit (.i 0)) (.tok 1)), (.lt (.tok 1) (.len (.fld (.tok 0) 0)))] (.br (.eq (.fld (.get (.fld (.tok 0) 0) (.tok 1)) 0) (.lit (.i 4))) (.need [(.ok 0 [(.tok 0), (.fld (.get (.fld (.tok 0) 0) (.tok 1)) 1)])] (.need [(.imp (.not (.lt (.call 0 0 [(.tok 0), (.fld (.get (.fld (.tok 0) 0) (.tok 1)) 1)]) (.lit (.i 1)))) (.rng .i64 (.add (.tok 1) (.call 0 0 [(.tok 0), (.fld (.get (.fld (.tok 0) 0) (.tok 1)) 1)])))), (.imp (.not (.lt (.call 0 0 [(.tok 0), (.fld (.get (.fld (.tok 0) 0) (.tok 1)) 1)]) (.lit (.i 1)))) (.ok 1 [(.tok 0), (.add (.tok 1) (.call 0 0 [(.tok 0), (.fld (.get (.fld (.tok 0) 0) (.tok 1)) 1)]))]))] (.br (.or (.lt (.call 0 0 [(.tok 0), (.fld (.get (.fld (.tok 0) 0) (.tok 1)) 1)]) (.lit (.i 1))) (.not (.call 1 0 [(.tok 0), (.add (.tok 1) (.call 0 0 [(.tok 0), (.fld (.get (.fld (.tok 0) 0) (.tok 1)) 1)]))]))) (.leaf [(.lit (.b .false))]) (.loop 7 2 [(.lit (.b .false)), (.lit (.i 1))] (.br (.le (.tok 3) (.call 0 0 [(.tok 0), (.fld (.get (.fld (.tok 0) 0) (.tok 1)) 1)])) (.need [(.rng .i64 (.add (.tok 1) (.tok 3))), (.ok 2 [(.tok 0), (.add (.tok 1) (.tok 3))])] (.br (.eq (.call 2 0 [(.tok 0), (.add (.tok 1) (.tok 3))]) (.lit (.i 4))) (.leaf [(.lit (.b .false))]) (.need [(.rng .i64 (.add (.tok 3) (.lit (.i 1))))] (.back 7 [(.tok 2), (.add (.tok 3) (.lit (.i 1)))])))) (.leaf [(.lit (.b .true))])))))) (.need [(.ok 3 [(.tok 0), (.get (.fld (.tok 0) 0) (.tok 1))]), (.imp (.not (.not (.call 3 0 [(.tok 0), (.get (.fld (.tok 0) 0) (.tok 1))]))) (.ok 4 [(.tok 0), (.tok 1)]))] (.br (.or (.not (.call 3 0 [(.tok 0), (.get (.fld (.tok 0) 0) (.tok 1))])) (.not (.call 4 0 [(.tok 0), (.tok 1)]))) (.leaf [(.lit (.b .false))]) (.need [(.imp (.and (.not (.not (.eq (.fld (.get (.fld (.tok 0) 0) (.tok 1)) 0) (.lit (.i 5))))) (.eq (.fld (.get (.fld (.tok 0) 0) (.tok 1)) 1) (.tok 1))) (.ok 5 [(.tok 0), (.tok 1)]))] (.leaf [(.or (.not (.eq (.fld (.get (.fld (.tok 0) 0) (.tok 1)) 0) (.lit (.i 5)))) (.and (.eq (.fld (.get (.fld (.tok 0) 0) (.tok 1)) 1) (.tok 1)) (.call 5 0 [(.tok 0), (.tok 1)])))]))))))
set_option maxRecDepth 100000 in
theorem code_ref30_cell (g0 g1 g2 g3 g4 g5 : List D → Option (List D)) : ∀ cd, Try.f27.body = some cd → treeOf Try.prog [(ct_ref30_arity, g0), (ct_ref30_ranged, g1), (ct_ref30_tag, g2), (ct_ref30_ValidCell, g3), (ct_ref30_ends, g4), (ct_ref30_group, g5)] ann_ref30_cell ct_ref30_cell Try.f27 cd = tree_ref30_cell := by
  intro cd h
  injection h with h
  subst h
  kernel_rfl
theorem fok_ref30_cell {g0 g1 g2 g3 g4 g5 : List D → Option (List D)} {g : List D → Option (List D)} (h0 : FOk ct_ref30_arity g0) (h1 : FOk ct_ref30_ranged g1) (h2 : FOk ct_ref30_tag g2) (h3 : FOk ct_ref30_ValidCell g3) (h4 : FOk ct_ref30_ends g4) (h5 : FOk ct_ref30_group g5) (h : ∀ ds outs, WfA ct_ref30_cell.ars ds → g ds = some outs → tree_ref30_cell.go (tblS [(ct_ref30_arity, g0), (ct_ref30_ranged, g1), (ct_ref30_tag, g2), (ct_ref30_ValidCell, g3), (ct_ref30_ends, g4), (ct_ref30_group, g5)]) (fun o => o = outs) ds fun _ _ => False) : FOk ct_ref30_cell g :=
  fok_of ann_ref30_cell Try.f27 _ (.cons h0 (.cons h1 (.cons h2 (.cons h3 (.cons h4 (.cons h5 .nil)))))) rfl rfl enter_ref30_cell (by decide) fun ds outs hw hg => by rw [code_ref30_cell g0 g1 g2 g3 g4 g5 _ rfl]; exact h ds outs hw hg

def ann_ref30_old : Ann := ⟨[0, 1, 2, 3, 4, 5, 11, 14, 15, 22, 41], []⟩
def tree_ref30_old : Tree := (.need [(.ok 0 [(.tok 0), (.fld (.tok 1) 0)])] (.br (.not (.call 0 0 [(.tok 0), (.fld (.tok 1) 0)])) (.leaf [(.lit (.b .false))]) (.br (.eq (.fld (.fld (.tok 1) 1) 0) (.lit (.i 0))) (.leaf [(.eq (.fld (.fld (.tok 1) 1) 1) (.fld (.tok 1) 0))]) (.br (.eq (.fld (.fld (.tok 1) 1) 0) (.lit (.i 5))) (.need [(.imp (.eq (.fld (.fld (.tok 1) 1) 1) (.fld (.tok 1) 0)) (.ok 1 [(.tok 0), (.fld (.tok 1) 0)])), (.imp (.and (.eq (.fld (.fld (.tok 1) 1) 1) (.fld (.tok 1) 0)) (.call 1 0 [(.tok 0), (.fld (.tok 1) 0)])) (.rng .i64 (.sub (.fld (.tok 1) 0) (.lit (.i 1))))), (.imp (.and (.eq (.fld (.fld (.tok 1) 1) 1) (.fld (.tok 1) 0)) (.call 1 0 [(.tok 0), (.fld (.tok 1) 0)])) (.ok 2 [(.tok 0), (.sub (.fld (.tok 1) 0) (.lit (.i 1)))]))] (.leaf [(.and (.and (.eq (.fld (.fld (.tok 1) 1) 1) (.fld (.tok 1) 0)) (.call 1 0 [(.tok 0), (.fld (.tok 1) 0)])) (.not (.eq (.call 2 0 [(.tok 0), (.sub (.fld (.tok 1) 0) (.lit (.i 1)))]) (.lit (.i 5)))))])) (.br (.eq (.fld (.fld (.tok 1) 1) 0) (.lit (.i 1))) (.br (.eq (.fld (.fld (.tok 1) 1) 0) (.lit (.i 1))) (.need [(.ok 3 [(.tok 0), (.fld (.tok 1) 1)])] (.leaf [(.call 3 0 [(.tok 0), (.fld (.tok 1) 1)])])) (.leaf [(.lit (.b .false))])) (.br (.eq (.fld (.fld (.tok 1) 1) 0) (.lit (.i 2))) (.br (.eq (.fld (.fld (.tok 1) 1) 0) (.lit (.i 2))) (.need [(.ok 3 [(.tok 0), (.fld (.tok 1) 1)])] (.leaf [(.call 3 0 [(.tok 0), (.fld (.tok 1) 1)])])) (.leaf [(.lit (.b .false))])) (.br (.eq (.fld (.fld (.tok 1) 1) 0) (.lit (.i 3))) (.need [(.ok 3 [(.tok 0), (.fld (.tok 1) 1)])] (.leaf [(.call 3 0 [(.tok 0), (.fld (.tok 1) 1)])])) (.leaf [(.lit (.b .false))]))))))))
set_option maxRecDepth 100000 in
theorem code_ref30_old (g0 g1 g2 g3 : List D → Option (List D)) : ∀ cd, Try.f28.body = some cd → treeOf Try.prog [(ct_ref30_ranged, g0), (ct_ref30_group, g1), (ct_ref30_tag, g2), (ct_ref30_ValidCell, g3)] ann_ref30_old ct_ref30_old Try.f28 cd = tree_ref30_old := by
  intro cd h
  injection h with h
  subst h
  kernel_rfl
theorem fok_ref30_old {g0 g1 g2 g3 : List D → Option (List D)} {g : List D → Option (List D)} (h0 : FOk ct_ref30_ranged g0) (h1 : FOk ct_ref30_group g1) (h2 : FOk ct_ref30_tag g2) (h3 : FOk ct_ref30_ValidCell g3) (h : ∀ ds outs, WfA ct_ref30_old.ars ds → g ds = some outs → tree_ref30_old.go (tblS [(ct_ref30_ranged, g0), (ct_ref30_group, g1), (ct_ref30_tag, g2), (ct_ref30_ValidCell, g3)]) (fun o => o = outs) ds fun _ _ => False) : FOk ct_ref30_old g :=
  fok_of ann_ref30_old Try.f28 _ (.cons h0 (.cons h1 (.cons h2 (.cons h3 .nil)))) rfl rfl enter_ref30_old (by decide) fun ds outs hw hg => by rw [code_ref30_old g0 g1 g2 g3 _ rfl]; exact h ds outs hw hg

def ann_cells_validSymbols : Ann := ⟨[0, 2, 3, 5, 8, 12, 13, 14, 15, 36], [(5, ⟨[(2, .bool, false), (14, .int .i64, false), (3, .map 59 4, false)], [], [15, 16, 17, 5, 18, 19, 20, 21, 22, 23, 24, 25, 26, 27, 28, 29, 30, 31, 32, 33, 34, 35, 36, 37, 38, 39, 11], []⟩)]⟩
def tree_cells_validSymbols : Tree := (.br (.lt (.lit (.i 1048576)) (.len (.tok 0))) (.leaf [(.lit (.b .false))]) (.loop 5 1 [(.lit (.b .false)), (.lit (.i 0)), (.lit (.mp []))] (.br (.lt (.tok 2) (.len (.tok 0))) (.need [(.le (.lit (.i 0)) (.tok 2)), (.lt (.tok 2) (.len (.tok 0)))] (.br (.or (.or (.or (.lt (.lit (.i 100)) (.slen (.fld (.get (.tok 0) (.tok 2)) 0))) (.lt (.fld (.get (.tok 0) (.tok 2)) 1) (.lit (.i 0)))) (.lt (.lit (.i 8)) (.fld (.get (.tok 0) (.tok 2)) 1))) (.fn 0 [(.tok 3), (.get (.tok 0) (.tok 2)), (.lit (.b .false))])) (.leaf [(.lit (.b .false))]) (.need [(.rng .i64 (.add (.tok 2) (.lit (.i 1))))] (.back 5 [(.tok 1), (.add (.tok 2) (.lit (.i 1))), (.fn 2 [(.tok 3), (.get (.tok 0) (.tok 2)), (.lit (.b .true))])])))) (.leaf [(.lit (.b .true))]))))
set_option maxRecDepth 100000 in
theorem code_cells_validSymbols : ∀ cd, Try.f43.body = some cd → treeOf Try.prog [] ann_cells_validSymbols ct_cells_validSymbols Try.f43 cd = tree_cells_validSymbols := by
  intro cd h
  injection h with h
  subst h
  kernel_rfl
theorem fok_cells_validSymbols {g : List D → Option (List D)}  (h : ∀ ds outs, WfA ct_cells_validSymbols.ars ds → g ds = some outs → tree_cells_validSymbols.go (tblS []) (fun o => o = outs) ds fun _ _ => False) : FOk ct_cells_validSymbols g :=
  fok_of ann_cells_validSymbols Try.f43 _ .nil rfl rfl enter_cells_validSymbols (by decide) fun ds outs hw hg => by rw [code_cells_validSymbols  _ rfl]; exact h ds outs hw hg

def ann_cells_fits : Ann := ⟨[0, 1, 2, 4, 5, 6, 7, 8, 15, 16, 23, 30, 41, 42], [(8, ⟨[(4, .bool, false), (7, .int .i64, false)], [], [26, 27, 28, 29, 30, 33, 34, 35, 8, 36, 37, 38, 39, 40, 41, 31, 32], []⟩)]⟩
def tree_cells_fits : Tree := (.need [(.le (.lit (.i 0)) (.tok 1)), (.lt (.tok 1) (.len (.fld (.tok 0) 0)))] (.br (.eq (.fld (.get (.fld (.tok 0) 0) (.tok 1)) 0) (.lit (.i 4))) (.need [(.ok 0 [(.tok 0), (.fld (.get (.fld (.tok 0) 0) (.tok 1)) 1)])] (.br (.lt (.call 0 0 [(.tok 0), (.fld (.get (.fld (.tok 0) 0) (.tok 1)) 1)]) (.lit (.i 1))) (.leaf [(.lit (.b .false))]) (.need [(.rng .i64 (.add (.tok 1) (.lit (.i 1))))] (.loop 8 2 [(.lit (.b .false)), (.add (.tok 1) (.lit (.i 1)))] (.need [(.rng .i64 (.add (.tok 1) (.call 0 0 [(.tok 0), (.fld (.get (.fld (.tok 0) 0) (.tok 1)) 1)])))] (.br (.le (.tok 3) (.add (.tok 1) (.call 0 0 [(.tok 0), (.fld (.get (.fld (.tok 0) 0) (.tok 1)) 1)]))) (.need [(.ok 1 [(.tok 0), (.tok 3)])] (.br (.or (.lt (.call 1 0 [(.tok 0), (.tok 3)]) (.lit (.i 0))) (.eq (.call 1 0 [(.tok 0), (.tok 3)]) (.lit (.i 4)))) (.leaf [(.lit (.b .false))]) (.need [(.rng .i64 (.add (.tok 3) (.lit (.i 1))))] (.back 8 [(.tok 2), (.add (.tok 3) (.lit (.i 1)))])))) (.leaf [(.lit (.b .true))]))))))) (.br (.eq (.fld (.get (.fld (.tok 0) 0) (.tok 1)) 0) (.lit (.i 5))) (.need [(.imp (.eq (.fld (.get (.fld (.tok 0) 0) (.tok 1)) 1) (.tok 1)) (.ok 2 [(.tok 0), (.tok 1)]))] (.leaf [(.and (.eq (.fld (.get (.fld (.tok 0) 0) (.tok 1)) 1) (.tok 1)) (.call 2 0 [(.tok 0), (.tok 1)]))])) (.need [(.ok 3 [(.tok 0), (.get (.fld (.tok 0) 0) (.tok 1))])] (.leaf [(.call 3 0 [(.tok 0), (.get (.fld (.tok 0) 0) (.tok 1))])])))))
set_option maxRecDepth 100000 in
theorem code_cells_fits (g0 g1 g2 g3 : List D → Option (List D)) : ∀ cd, Try.f44.body = some cd → treeOf Try.prog [(ct_cells_arity, g0), (ct_cells_tag, g1), (ct_cells_group, g2), (ct_cells_ValidCell, g3)] ann_cells_fits ct_cells_fits Try.f44 cd = tree_cells_fits := by
  intro cd h
  injection h with h
  subst h
  kernel_rfl
theorem fok_cells_fits {g0 g1 g2 g3 : List D → Option (List D)} {g : List D → Option (List D)} (h0 : FOk ct_cells_arity g0) (h1 : FOk ct_cells_tag g1) (h2 : FOk ct_cells_group g2) (h3 : FOk ct_cells_ValidCell g3) (h : ∀ ds outs, WfA ct_cells_fits.ars ds → g ds = some outs → tree_cells_fits.go (tblS [(ct_cells_arity, g0), (ct_cells_tag, g1), (ct_cells_group, g2), (ct_cells_ValidCell, g3)]) (fun o => o = outs) ds fun _ _ => False) : FOk ct_cells_fits g :=
  fok_of ann_cells_fits Try.f44 _ (.cons h0 (.cons h1 (.cons h2 (.cons h3 .nil)))) rfl rfl enter_cells_fits (by decide) fun ds outs hw hg => by rw [code_cells_fits g0 g1 g2 g3 _ rfl]; exact h ds outs hw hg

def ann_cells_acyclic : Ann := ⟨[0, 1, 2, 3, 4, 5, 6, 7, 9, 16, 17, 18, 25, 46, 53, 54, 55, 56, 57], [(3, ⟨[(2, .bool, false), (17, .int .i64, false), (3, .row 3, false)], [], [18, 19, 4, 5, 20, 6, 21, 22, 23, 24, 25, 26, 27, 28, 29, 30, 31, 32, 33, 34, 35, 36, 37, 7, 38, 39, 40, 41, 42, 43, 44, 45, 46, 47, 48, 49, 50, 51, 52, 53, 54, 55, 56, 57, 58, 59, 9, 60, 61, 62, 63, 64, 13], []⟩),
  (7, ⟨[(5, .row 3, false), (6, .int .i64, false), (2, .bool, false), (3, .row 3, false)], [], [21, 22, 23, 24, 25, 26, 27, 28, 29, 30, 31, 32, 33, 34, 35, 36, 37, 7, 38, 39, 40, 41, 42, 43, 44, 45, 46, 47, 48, 49, 50, 51, 52, 53, 13, 60], []⟩),
  (16, ⟨[(56, .int .i64, false), (3, .row 3, false)], [], [57, 58, 59, 9, 60, 61, 62, 63, 13, 21, 26, 49], []⟩)]⟩
def tree_cells_acyclic : Tree := (.need [(.le (.lit (.i 0)) (.len (.fld (.tok 0) 0))), (.le (.len (.fld (.tok 0) 0)) (.lit (.i 16777216)))] (.loop 3 1 [(.lit (.b .false)), (.lit (.i 0)), (.rep (.len (.fld (.tok 0) 0)) (.lit (.i 0)))] (.br (.lt (.tok 2) (.len (.fld (.tok 0) 0))) (.loop 7 4 [(.lit (.r [])), (.tok 2), (.tok 1), (.tok 3)] (.need [(.le (.lit (.i 0)) (.tok 5)), (.lt (.tok 5) (.len (.tok 7)))] (.br (.eq (.get (.tok 7) (.tok 5)) (.lit (.i 0))) (.need [(.le (.lit (.i 0)) (.tok 5)), (.lt (.tok 5) (.len (.tok 7)))] (.need [(.le (.add (.len (.tok 4)) (.lit (.i 1))) (.lit (.i 34359738368)))] (.need [(.le (.lit (.i 0)) (.tok 5)), (.lt (.tok 5) (.len (.fld (.tok 0) 0)))] (.br (.or (.not (.eq (.fld (.get (.fld (.tok 0) 0) (.tok 5)) 0) (.lit (.i 0)))) (.eq (.fld (.get (.fld (.tok 0) 0) (.tok 5)) 1) (.tok 5))) (.loop 16 8 [(.lit (.i 0)), (.put (.tok 7) (.tok 5) (.lit (.i 1)))] (.br (.lt (.tok 8) (.len (.app (.tok 4) (.row [(.tok 5)])))) (.need [(.le (.lit (.i 0)) (.tok 8)), (.lt (.tok 8) (.len (.app (.tok 4) (.row [(.tok 5)]))))] (.need [(.le (.lit (.i 0)) (.get (.app (.tok 4) (.row [(.tok 5)])) (.tok 8))), (.lt (.get (.app (.tok 4) (.row [(.tok 5)])) (.tok 8)) (.len (.tok 9)))] (.need [(.rng .i64 (.add (.tok 8) (.lit (.i 1))))] (.back 16 [(.add (.tok 8) (.lit (.i 1))), (.put (.tok 9) (.get (.app (.tok 4) (.row [(.tok 5)])) (.tok 8)) (.lit (.i 2)))])))) (.need [(.rng .i64 (.add (.tok 2) (.lit (.i 1))))] (.back 3 [(.tok 6), (.add (.tok 2) (.lit (.i 1))), (.tok 9)])))) (.need [(.le (.lit (.i 0)) (.fld (.get (.fld (.tok 0) 0) (.tok 5)) 1)), (.lt (.fld (.get (.fld (.tok 0) 0) (.tok 5)) 1) (.len (.put (.tok 7) (.tok 5) (.lit (.i 1)))))] (.br (.eq (.get (.put (.tok 7) (.tok 5) (.lit (.i 1))) (.fld (.get (.fld (.tok 0) 0) (.tok 5)) 1)) (.lit (.i 1))) (.leaf [(.lit (.b .false))]) (.back 7 [(.app (.tok 4) (.row [(.tok 5)])), (.fld (.get (.fld (.tok 0) 0) (.tok 5)) 1), (.tok 6), (.put (.tok 7) (.tok 5) (.lit (.i 1)))]))))))) (.loop 16 8 [(.lit (.i 0)), (.tok 7)] (.br (.lt (.tok 8) (.len (.tok 4))) (.need [(.le (.lit (.i 0)) (.tok 8)), (.lt (.tok 8) (.len (.tok 4)))] (.need [(.le (.lit (.i 0)) (.get (.tok 4) (.tok 8))), (.lt (.get (.tok 4) (.tok 8)) (.len (.tok 9)))] (.need [(.rng .i64 (.add (.tok 8) (.lit (.i 1))))] (.back 16 [(.add (.tok 8) (.lit (.i 1))), (.put (.tok 9) (.get (.tok 4) (.tok 8)) (.lit (.i 2)))])))) (.need [(.rng .i64 (.add (.tok 2) (.lit (.i 1))))] (.back 3 [(.tok 6), (.add (.tok 2) (.lit (.i 1))), (.tok 9)]))))))) (.leaf [(.lit (.b .true))]))))
set_option maxRecDepth 100000 in
theorem code_cells_acyclic : ∀ cd, Try.f45.body = some cd → treeOf Try.prog [] ann_cells_acyclic ct_cells_acyclic Try.f45 cd = tree_cells_acyclic := by
  intro cd h
  injection h with h
  subst h
  kernel_rfl
theorem fok_cells_acyclic {g : List D → Option (List D)}  (h : ∀ ds outs, WfA ct_cells_acyclic.ars ds → g ds = some outs → tree_cells_acyclic.go (tblS []) (fun o => o = outs) ds fun _ _ => False) : FOk ct_cells_acyclic g :=
  fok_of ann_cells_acyclic Try.f45 _ .nil rfl rfl enter_cells_acyclic (by decide) fun ds outs hw hg => by rw [code_cells_acyclic  _ rfl]; exact h ds outs hw hg

def ann_cells_validUndo : Ann := ⟨[0, 1, 2, 3, 4, 5, 11, 14, 15, 22, 41], []⟩
def tree_cells_validUndo : Tree := (.need [(.ok 0 [(.tok 0), (.fld (.tok 1) 0)])] (.br (.lt (.call 0 0 [(.tok 0), (.fld (.tok 1) 0)]) (.lit (.i 0))) (.leaf [(.lit (.b .false))]) (.br (.eq (.fld (.fld (.tok 1) 1) 0) (.lit (.i 0))) (.leaf [(.eq (.fld (.fld (.tok 1) 1) 1) (.fld (.tok 1) 0))]) (.br (.eq (.fld (.fld (.tok 1) 1) 0) (.lit (.i 5))) (.need [(.imp (.eq (.fld (.fld (.tok 1) 1) 1) (.fld (.tok 1) 0)) (.ok 1 [(.tok 0), (.fld (.tok 1) 0)])), (.imp (.and (.eq (.fld (.fld (.tok 1) 1) 1) (.fld (.tok 1) 0)) (.call 1 0 [(.tok 0), (.fld (.tok 1) 0)])) (.rng .i64 (.sub (.fld (.tok 1) 0) (.lit (.i 1))))), (.imp (.and (.eq (.fld (.fld (.tok 1) 1) 1) (.fld (.tok 1) 0)) (.call 1 0 [(.tok 0), (.fld (.tok 1) 0)])) (.ok 0 [(.tok 0), (.sub (.fld (.tok 1) 0) (.lit (.i 1)))]))] (.leaf [(.and (.and (.eq (.fld (.fld (.tok 1) 1) 1) (.fld (.tok 1) 0)) (.call 1 0 [(.tok 0), (.fld (.tok 1) 0)])) (.not (.eq (.call 0 0 [(.tok 0), (.sub (.fld (.tok 1) 0) (.lit (.i 1)))]) (.lit (.i 5)))))])) (.br (.eq (.fld (.fld (.tok 1) 1) 0) (.lit (.i 1))) (.br (.eq (.fld (.fld (.tok 1) 1) 0) (.lit (.i 1))) (.need [(.ok 2 [(.tok 0), (.fld (.tok 1) 1)])] (.leaf [(.call 2 0 [(.tok 0), (.fld (.tok 1) 1)])])) (.leaf [(.lit (.b .false))])) (.br (.eq (.fld (.fld (.tok 1) 1) 0) (.lit (.i 2))) (.br (.eq (.fld (.fld (.tok 1) 1) 0) (.lit (.i 2))) (.need [(.ok 2 [(.tok 0), (.fld (.tok 1) 1)])] (.leaf [(.call 2 0 [(.tok 0), (.fld (.tok 1) 1)])])) (.leaf [(.lit (.b .false))])) (.br (.eq (.fld (.fld (.tok 1) 1) 0) (.lit (.i 3))) (.need [(.ok 2 [(.tok 0), (.fld (.tok 1) 1)])] (.leaf [(.call 2 0 [(.tok 0), (.fld (.tok 1) 1)])])) (.leaf [(.lit (.b .false))]))))))))
set_option maxRecDepth 100000 in
theorem code_cells_validUndo (g0 g1 g2 : List D → Option (List D)) : ∀ cd, Try.f46.body = some cd → treeOf Try.prog [(ct_cells_tag, g0), (ct_cells_group, g1), (ct_cells_ValidCell, g2)] ann_cells_validUndo ct_cells_validUndo Try.f46 cd = tree_cells_validUndo := by
  intro cd h
  injection h with h
  subst h
  kernel_rfl
theorem fok_cells_validUndo {g0 g1 g2 : List D → Option (List D)} {g : List D → Option (List D)} (h0 : FOk ct_cells_tag g0) (h1 : FOk ct_cells_group g1) (h2 : FOk ct_cells_ValidCell g2) (h : ∀ ds outs, WfA ct_cells_validUndo.ars ds → g ds = some outs → tree_cells_validUndo.go (tblS [(ct_cells_tag, g0), (ct_cells_group, g1), (ct_cells_ValidCell, g2)]) (fun o => o = outs) ds fun _ _ => False) : FOk ct_cells_validUndo g :=
  fok_of ann_cells_validUndo Try.f46 _ (.cons h0 (.cons h1 (.cons h2 .nil))) rfl rfl enter_cells_validUndo (by decide) fun ds outs hw hg => by rw [code_cells_validUndo g0 g1 g2 _ rfl]; exact h ds outs hw hg

def ann_slices_Clone_Cell : Ann := ⟨[0, 2, 4], []⟩
def tree_slices_Clone_Cell : Tree := (.amb (.tok 0) .false (.leaf [(.lit (.r []))]) (.need [(.le (.add (.lit (.i 0)) (.len (.tok 0))) (.lit (.i 34359738368)))] (.leaf [(.app (.row []) (.tok 0))])))
set_option maxRecDepth 100000 in
theorem code_slices_Clone_Cell : ∀ cd, Try.f47.body = some cd → treeOf Try.prog [] ann_slices_Clone_Cell ct_slices_Clone_Cell Try.f47 cd = tree_slices_Clone_Cell := by
  intro cd h
  injection h with h
  subst h
  kernel_rfl
theorem fok_slices_Clone_Cell {g : List D → Option (List D)}  (h : ∀ ds outs, WfA ct_slices_Clone_Cell.ars ds → g ds = some outs → tree_slices_Clone_Cell.go (tblS []) (fun o => o = outs) ds fun _ _ => False) : FOk ct_slices_Clone_Cell g :=
  fok_of ann_slices_Clone_Cell Try.f47 _ .nil rfl rfl enter_slices_Clone_Cell (by decide) fun ds outs hw hg => by rw [code_slices_Clone_Cell  _ rfl]; exact h ds outs hw hg

def ann_slices_Clone_Symbol : Ann := ⟨[0, 2, 4], []⟩
def tree_slices_Clone_Symbol : Tree := (.amb (.tok 0) .false (.leaf [(.lit (.r []))]) (.need [(.le (.add (.lit (.i 0)) (.len (.tok 0))) (.lit (.i 34359738368)))] (.leaf [(.app (.row []) (.tok 0))])))
set_option maxRecDepth 100000 in
theorem code_slices_Clone_Symbol : ∀ cd, Try.f48.body = some cd → treeOf Try.prog [] ann_slices_Clone_Symbol ct_slices_Clone_Symbol Try.f48 cd = tree_slices_Clone_Symbol := by
  intro cd h
  injection h with h
  subst h
  kernel_rfl
theorem fok_slices_Clone_Symbol {g : List D → Option (List D)}  (h : ∀ ds outs, WfA ct_slices_Clone_Symbol.ars ds → g ds = some outs → tree_slices_Clone_Symbol.go (tblS []) (fun o => o = outs) ds fun _ _ => False) : FOk ct_slices_Clone_Symbol g :=
  fok_of ann_slices_Clone_Symbol Try.f48 _ .nil rfl rfl enter_slices_Clone_Symbol (by decide) fun ds outs hw hg => by rw [code_slices_Clone_Symbol  _ rfl]; exact h ds outs hw hg

def ann_slices_Clone_Undo : Ann := ⟨[0, 2, 4], []⟩
def tree_slices_Clone_Undo : Tree := (.amb (.tok 0) .false (.leaf [(.lit (.r []))]) (.need [(.le (.add (.lit (.i 0)) (.len (.tok 0))) (.lit (.i 34359738368)))] (.leaf [(.app (.row []) (.tok 0))])))
set_option maxRecDepth 100000 in
theorem code_slices_Clone_Undo : ∀ cd, Try.f49.body = some cd → treeOf Try.prog [] ann_slices_Clone_Undo ct_slices_Clone_Undo Try.f49 cd = tree_slices_Clone_Undo := by
  intro cd h
  injection h with h
  subst h
  kernel_rfl
theorem fok_slices_Clone_Undo {g : List D → Option (List D)}  (h : ∀ ds outs, WfA ct_slices_Clone_Undo.ars ds → g ds = some outs → tree_slices_Clone_Undo.go (tblS []) (fun o => o = outs) ds fun _ _ => False) : FOk ct_slices_Clone_Undo g :=
  fok_of ann_slices_Clone_Undo Try.f49 _ .nil rfl rfl enter_slices_Clone_Undo (by decide) fun ds outs hw hg => by rw [code_slices_Clone_Undo  _ rfl]; exact h ds outs hw hg

def ann_slices_Clone_Wake : Ann := ⟨[0, 2, 4], []⟩
def tree_slices_Clone_Wake : Tree := (.amb (.tok 0) .false (.leaf [(.lit (.r []))]) (.need [(.le (.add (.lit (.i 0)) (.len (.tok 0))) (.lit (.i 34359738368)))] (.leaf [(.app (.row []) (.tok 0))])))
set_option maxRecDepth 100000 in
theorem code_slices_Clone_Wake : ∀ cd, Try.f50.body = some cd → treeOf Try.prog [] ann_slices_Clone_Wake ct_slices_Clone_Wake Try.f50 cd = tree_slices_Clone_Wake := by
  intro cd h
  injection h with h
  subst h
  kernel_rfl
theorem fok_slices_Clone_Wake {g : List D → Option (List D)}  (h : ∀ ds outs, WfA ct_slices_Clone_Wake.ars ds → g ds = some outs → tree_slices_Clone_Wake.go (tblS []) (fun o => o = outs) ds fun _ _ => False) : FOk ct_slices_Clone_Wake g :=
  fok_of ann_slices_Clone_Wake Try.f50 _ .nil rfl rfl enter_slices_Clone_Wake (by decide) fun ds outs hw hg => by rw [code_slices_Clone_Wake  _ rfl]; exact h ds outs hw hg

def ann_slices_Equal_Cell : Ann := ⟨[0, 1, 4, 5, 10, 12, 13, 14, 24], [(4, ⟨[(4, .bool, false), (13, .int .i64, false)], [], [14, 15, 5, 16, 17, 18, 19, 20, 21, 22, 23, 24, 25], []⟩)]⟩
def tree_slices_Equal_Cell : Tree := (.br (.not (.eq (.len (.tok 0)) (.len (.tok 1)))) (.leaf [(.lit (.b .false))]) (.loop 4 2 [(.lit (.b .false)), (.lit (.i 0))] (.br (.lt (.tok 3) (.len (.tok 0))) (.need [(.le (.lit (.i 0)) (.tok 3)), (.lt (.tok 3) (.len (.tok 1))), (.le (.lit (.i 0)) (.tok 3)), (.lt (.tok 3) (.len (.tok 0)))] (.br (.not (.eq (.get (.tok 0) (.tok 3)) (.get (.tok 1) (.tok 3)))) (.leaf [(.lit (.b .false))]) (.need [(.rng .i64 (.add (.tok 3) (.lit (.i 1))))] (.back 4 [(.tok 2), (.add (.tok 3) (.lit (.i 1)))])))) (.leaf [(.lit (.b .true))]))))
set_option maxRecDepth 100000 in
theorem code_slices_Equal_Cell : ∀ cd, Try.f51.body = some cd → treeOf Try.prog [] ann_slices_Equal_Cell ct_slices_Equal_Cell Try.f51 cd = tree_slices_Equal_Cell := by
  intro cd h
  injection h with h
  subst h
  kernel_rfl
theorem fok_slices_Equal_Cell {g : List D → Option (List D)}  (h : ∀ ds outs, WfA ct_slices_Equal_Cell.ars ds → g ds = some outs → tree_slices_Equal_Cell.go (tblS []) (fun o => o = outs) ds fun _ _ => False) : FOk ct_slices_Equal_Cell g :=
  fok_of ann_slices_Equal_Cell Try.f51 _ .nil rfl rfl enter_slices_Equal_Cell (by decide) fun ds outs hw hg => by rw [code_slices_Equal_Cell  _ rfl]; exact h ds outs hw hg

def ann_slices_Equal_Symbol : Ann := ⟨[0, 1, 4, 5, 10, 12, 13, 14, 24], [(4, ⟨[(4, .bool, false), (13, .int .i64, false)], [], [14, 15, 5, 16, 17, 18, 19, 20, 21, 22, 23, 24, 25], []⟩)]⟩
def tree_slices_Equal_Symbol : Tree := (.br (.not (.eq (.len (.tok 0)) (.len (.tok 1)))) (.leaf [(.lit (.b .false))]) (.loop 4 2 [(.lit (.b .false)), (.lit (.i 0))] (.br (.lt (.tok 3) (.len (.tok 0))) (.need [(.le (.lit (.i 0)) (.tok 3)), (.lt (.tok 3) (.len (.tok 1))), (.le (.lit (.i 0)) (.tok 3)), (.lt (.tok 3) (.len (.tok 0)))] (.br (.not (.eq (.get (.tok 0) (.tok 3)) (.get (.tok 1) (.tok 3)))) (.leaf [(.lit (.b .false))]) (.need [(.rng .i64 (.add (.tok 3) (.lit (.i 1))))] (.back 4 [(.tok 2), (.add (.tok 3) (.lit (.i 1)))])))) (.leaf [(.lit (.b .true))]))))
set_option maxRecDepth 100000 in
theorem code_slices_Equal_Symbol : ∀ cd, Try.f52.body = some cd → treeOf Try.prog [] ann_slices_Equal_Symbol ct_slices_Equal_Symbol Try.f52 cd = tree_slices_Equal_Symbol := by
  intro cd h
  injection h with h
  subst h
  kernel_rfl
theorem fok_slices_Equal_Symbol {g : List D → Option (List D)}  (h : ∀ ds outs, WfA ct_slices_Equal_Symbol.ars ds → g ds = some outs → tree_slices_Equal_Symbol.go (tblS []) (fun o => o = outs) ds fun _ _ => False) : FOk ct_slices_Equal_Symbol g :=
  fok_of ann_slices_Equal_Symbol Try.f52 _ .nil rfl rfl enter_slices_Equal_Symbol (by decide) fun ds outs hw hg => by rw [code_slices_Equal_Symbol  _ rfl]; exact h ds outs hw hg

def ann_slices_Equal_Undo : Ann := ⟨[0, 1, 4, 5, 10, 12, 13, 14, 24], [(4, ⟨[(4, .bool, false), (13, .int .i64, false)], [], [14, 15, 5, 16, 17, 18, 19, 20, 21, 22, 23, 24, 25], []⟩)]⟩
def tree_slices_Equal_Undo : Tree := (.br (.not (.eq (.len (.tok 0)) (.len (.tok 1)))) (.leaf [(.lit (.b .false))]) (.loop 4 2 [(.lit (.b .false)), (.lit (.i 0))] (.br (.lt (.tok 3) (.len (.tok 0))) (.need [(.le (.lit (.i 0)) (.tok 3)), (.lt (.tok 3) (.len (.tok 1))), (.le (.lit (.i 0)) (.tok 3)), (.lt (.tok 3) (.len (.tok 0)))] (.br (.not (.eq (.get (.tok 0) (.tok 3)) (.get (.tok 1) (.tok 3)))) (.leaf [(.lit (.b .false))]) (.need [(.rng .i64 (.add (.tok 3) (.lit (.i 1))))] (.back 4 [(.tok 2), (.add (.tok 3) (.lit (.i 1)))])))) (.leaf [(.lit (.b .true))]))))
set_option maxRecDepth 100000 in
theorem code_slices_Equal_Undo : ∀ cd, Try.f53.body = some cd → treeOf Try.prog [] ann_slices_Equal_Undo ct_slices_Equal_Undo Try.f53 cd = tree_slices_Equal_Undo := by
  intro cd h
  injection h with h
  subst h
  kernel_rfl
theorem fok_slices_Equal_Undo {g : List D → Option (List D)}  (h : ∀ ds outs, WfA ct_slices_Equal_Undo.ars ds → g ds = some outs → tree_slices_Equal_Undo.go (tblS []) (fun o => o = outs) ds fun _ _ => False) : FOk ct_slices_Equal_Undo g :=
  fok_of ann_slices_Equal_Undo Try.f53 _ .nil rfl rfl enter_slices_Equal_Undo (by decide) fun ds outs hw hg => by rw [code_slices_Equal_Undo  _ rfl]; exact h ds outs hw hg

def ann_slices_Equal_Wake : Ann := ⟨[0, 1, 4, 5, 10, 12, 13, 14, 24], [(4, ⟨[(4, .bool, false), (13, .int .i64, false)], [], [14, 15, 5, 16, 17, 18, 19, 20, 21, 22, 23, 24, 25], []⟩)]⟩
def tree_slices_Equal_Wake : Tree := (.br (.not (.eq (.len (.tok 0)) (.len (.tok 1)))) (.leaf [(.lit (.b .false))]) (.loop 4 2 [(.lit (.b .false)), (.lit (.i 0))] (.br (.lt (.tok 3) (.len (.tok 0))) (.need [(.le (.lit (.i 0)) (.tok 3)), (.lt (.tok 3) (.len (.tok 1))), (.le (.lit (.i 0)) (.tok 3)), (.lt (.tok 3) (.len (.tok 0)))] (.br (.not (.eq (.get (.tok 0) (.tok 3)) (.get (.tok 1) (.tok 3)))) (.leaf [(.lit (.b .false))]) (.need [(.rng .i64 (.add (.tok 3) (.lit (.i 1))))] (.back 4 [(.tok 2), (.add (.tok 3) (.lit (.i 1)))])))) (.leaf [(.lit (.b .true))]))))
set_option maxRecDepth 100000 in
theorem code_slices_Equal_Wake : ∀ cd, Try.f54.body = some cd → treeOf Try.prog [] ann_slices_Equal_Wake ct_slices_Equal_Wake Try.f54 cd = tree_slices_Equal_Wake := by
  intro cd h
  injection h with h
  subst h
  kernel_rfl
theorem fok_slices_Equal_Wake {g : List D → Option (List D)}  (h : ∀ ds outs, WfA ct_slices_Equal_Wake.ars ds → g ds = some outs → tree_slices_Equal_Wake.go (tblS []) (fun o => o = outs) ds fun _ _ => False) : FOk ct_slices_Equal_Wake g :=
  fok_of ann_slices_Equal_Wake Try.f54 _ .nil rfl rfl enter_slices_Equal_Wake (by decide) fun ds outs hw hg => by rw [code_slices_Equal_Wake  _ rfl]; exact h ds outs hw hg

def ct_law31_TrailSets : Ct := ⟨3, [.val (.st 26), .val (.int .i64), .val (.st 28)], [(.bool, false)], []⟩
theorem enter_law31_TrailSets (args : Array Value) (w : World) : (callFunc ct_law31_TrailSets.f args).run Try.prog w = .ok (.enter ct_law31_TrailSets.f args) w := by kernel_rfl
def ct_law31_awake : Ct := ⟨9, [], [(.bool, false)], []⟩
theorem enter_law31_awake (args : Array Value) (w : World) : (callFunc ct_law31_awake.f args).run Try.prog w = .ok (.enter ct_law31_awake.f args) w := by kernel_rfl
def ann_law31_TrailSets : Ann := ⟨[0, 1, 2, 3, 5, 6, 7, 8, 9, 10, 11, 12, 15], []⟩
def tree_law31_TrailSets : Tree := (.need [(.ok 0 [(.tok 0)])] (.br (.not (.call 0 0 [(.tok 0)])) (.need [(.ok 1 [])] (.leaf [(.call 1 0 [])])) (.need [(.ok 2 [(.tok 0)]), (.ok 2 [(.tok 0)]), (.ok 2 [(.tok 0)]), (.ok 2 [(.tok 0)]), (.ok 2 [(.tok 0)])] (.need [(.ok 3 [(.tok 0)])] (.need [(.ok 4 [(.tok 0)])] (.need [(.ok 5 [(.call 2 0 [(.tok 0)]), (.tok 1), (.tok 2)])] (.need [(.ok 6 [(.call 2 0 [(.tok 0)]), (.tok 1), (.tok 2)])] (.need [(.imp (.and (.not (.not (.call 3 0 [(.tok 0)]))) (.eq (.call 5 0 [(.call 2 0 [(.tok 0)]), (.tok 1), (.tok 2)]) (.call 6 0 [(.call 2 0 [(.tok 0)]), (.tok 1), (.tok 2)]))) (.ok 7 [(.call 5 1 [(.call 2 0 [(.tok 0)]), (.tok 1), (.tok 2)]), (.call 6 1 [(.call 2 0 [(.tok 0)]), (.tok 1), (.tok 2)])])), (.imp (.or (.not (.call 3 0 [(.tok 0)])) (.and (.and (.eq (.call 5 0 [(.call 2 0 [(.tok 0)]), (.tok 1), (.tok 2)]) (.call 6 0 [(.call 2 0 [(.tok 0)]), (.tok 1), (.tok 2)])) (.call 7 0 [(.call 5 1 [(.call 2 0 [(.tok 0)]), (.tok 1), (.tok 2)]), (.call 6 1 [(.call 2 0 [(.tok 0)]), (.tok 1), (.tok 2)])])) (.eq (.call 4 0 [(.tok 0)]) (.len (.fld (.tok 0) 2))))) (.ok 8 [(.tok 1), (.tok 2)])), (.imp (.and (.or (.not (.call 3 0 [(.tok 0)])) (.and (.and (.eq (.call 5 0 [(.call 2 0 [(.tok 0)]), (.tok 1), (.tok 2)]) (.call 6 0 [(.call 2 0 [(.tok 0)]), (.tok 1), (.tok 2)])) (.call 7 0 [(.call 5 1 [(.call 2 0 [(.tok 0)]), (.tok 1), (.tok 2)]), (.call 6 1 [(.call 2 0 [(.tok 0)]), (.tok 1), (.tok 2)])])) (.eq (.call 4 0 [(.tok 0)]) (.len (.fld (.tok 0) 2))))) (.eq (.call 8 0 [(.tok 1), (.tok 2)]) (.lit (.i 1)))) (.ok 1 []))] (.leaf [(.and (.and (.or (.not (.call 3 0 [(.tok 0)])) (.and (.and (.eq (.call 5 0 [(.call 2 0 [(.tok 0)]), (.tok 1), (.tok 2)]) (.call 6 0 [(.call 2 0 [(.tok 0)]), (.tok 1), (.tok 2)])) (.call 7 0 [(.call 5 1 [(.call 2 0 [(.tok 0)]), (.tok 1), (.tok 2)]), (.call 6 1 [(.call 2 0 [(.tok 0)]), (.tok 1), (.tok 2)])])) (.eq (.call 4 0 [(.tok 0)]) (.len (.fld (.tok 0) 2))))) (.eq (.call 8 0 [(.tok 1), (.tok 2)]) (.lit (.i 1)))) (.call 1 0 []))])))))))))
set_option maxRecDepth 100000 in
theorem code_law31_TrailSets (g0 g1 g2 g3 g4 g5 g6 g7 g8 : List D → Option (List D)) : ∀ cd, Try.f3.body = some cd → treeOf Try.prog [(ct_law31_small, g0), (ct_law31_awake, g1), (ct_ref30_Clone, g2), (ct_ref30_Valid, g3), (ct_trail_Mark, g4), (ct_trail_Set, g5), (ct_ref31_Set, g6), (ct_ref30_Same, g7), (ct_trail_Set_n, g8)] ann_law31_TrailSets ct_law31_TrailSets Try.f3 cd = tree_law31_TrailSets := by
  intro cd h
  injection h with h
  subst h
  kernel_rfl
theorem fok_law31_TrailSets {g0 g1 g2 g3 g4 g5 g6 g7 g8 : List D → Option (List D)} {g : List D → Option (List D)} (h0 : FOk ct_law31_small g0) (h1 : FOk ct_law31_awake g1) (h2 : FOk ct_ref30_Clone g2) (h3 : FOk ct_ref30_Valid g3) (h4 : FOk ct_trail_Mark g4) (h5 : FOk ct_trail_Set g5) (h6 : FOk ct_ref31_Set g6) (h7 : FOk ct_ref30_Same g7) (h8 : FOk ct_trail_Set_n g8) (h : ∀ ds outs, WfA ct_law31_TrailSets.ars ds → g ds = some outs → tree_law31_TrailSets.go (tblS [(ct_law31_small, g0), (ct_law31_awake, g1), (ct_ref30_Clone, g2), (ct_ref30_Valid, g3), (ct_trail_Mark, g4), (ct_trail_Set, g5), (ct_ref31_Set, g6), (ct_ref30_Same, g7), (ct_trail_Set_n, g8)]) (fun o => o = outs) ds fun _ _ => False) : FOk ct_law31_TrailSets g :=
  fok_of ann_law31_TrailSets Try.f3 _ (.cons h0 (.cons h1 (.cons h2 (.cons h3 (.cons h4 (.cons h5 (.cons h6 (.cons h7 (.cons h8 .nil))))))))) rfl rfl enter_law31_TrailSets (by decide) fun ds outs hw hg => by rw [code_law31_TrailSets g0 g1 g2 g3 g4 g5 g6 g7 g8 _ rfl]; exact h ds outs hw hg

def ct_law31_TrailUndoes : Ct := ⟨5, [.val (.st 26), .val (.int .i64), .val (.int .i64)], [(.bool, false)], []⟩
theorem enter_law31_TrailUndoes (args : Array Value) (w : World) : (callFunc ct_law31_TrailUndoes.f args).run Try.prog w = .ok (.enter ct_law31_TrailUndoes.f args) w := by kernel_rfl
def ann_law31_TrailUndoes : Ann := ⟨[0, 1, 2, 3, 6, 7, 8, 9, 10, 11, 12, 13, 14, 17, 41], []⟩
def tree_law31_TrailUndoes : Tree := (.need [(.ok 0 [(.tok 0)])] (.br (.not (.call 0 0 [(.tok 0)])) (.need [(.ok 1 [])] (.leaf [(.call 1 0 [])])) (.need [(.ok 2 [(.tok 0)]), (.ok 2 [(.tok 0)]), (.ok 2 [(.tok 0)]), (.ok 2 [(.tok 0)]), (.ok 2 [(.tok 0)])] (.need [(.ok 2 [(.tok 0)]), (.ok 2 [(.tok 0)]), (.ok 2 [(.tok 0)]), (.ok 2 [(.tok 0)]), (.ok 2 [(.tok 0)])] (.need [(.ok 3 [(.call 2 0 [(.tok 0)]), (.tok 1), (.tok 2)]), (.ok 4 [(.call 2 0 [(.tok 0)]), (.tok 1), (.tok 2)])] (.need [(.ok 5 [(.call 2 0 [(.tok 0)]), (.tok 1), (.tok 2)]), (.ok 6 [(.call 2 0 [(.tok 0)]), (.tok 1), (.tok 2)])] (.need [(.ok 7 [(.tok 0)])] (.br (.not (.call 7 0 [(.tok 0)])) (.need [(.ok 1 [])] (.leaf [(.call 1 0 [])])) (.need [(.imp (.eq (.call 3 0 [(.call 2 0 [(.tok 0)]), (.tok 1), (.tok 2)]) (.call 4 0 [(.call 2 0 [(.tok 0)]), (.tok 1), (.tok 2)])) (.ok 8 [(.call 3 1 [(.call 2 0 [(.tok 0)]), (.tok 1), (.tok 2)]), (.call 4 1 [(.call 2 0 [(.tok 0)]), (.tok 1), (.tok 2)])])), (.imp (.and (.and (.eq (.call 3 0 [(.call 2 0 [(.tok 0)]), (.tok 1), (.tok 2)]) (.call 4 0 [(.call 2 0 [(.tok 0)]), (.tok 1), (.tok 2)])) (.call 8 0 [(.call 3 1 [(.call 2 0 [(.tok 0)]), (.tok 1), (.tok 2)]), (.call 4 1 [(.call 2 0 [(.tok 0)]), (.tok 1), (.tok 2)])])) (.eq (.call 5 0 [(.call 2 0 [(.tok 0)]), (.tok 1), (.tok 2)]) (.call 6 0 [(.call 2 0 [(.tok 0)]), (.tok 1), (.tok 2)]))) (.ok 8 [(.call 5 1 [(.call 2 0 [(.tok 0)]), (.tok 1), (.tok 2)]), (.call 6 1 [(.call 2 0 [(.tok 0)]), (.tok 1), (.tok 2)])])), (.imp (.and (.and (.and (.eq (.call 3 0 [(.call 2 0 [(.tok 0)]), (.tok 1), (.tok 2)]) (.call 4 0 [(.call 2 0 [(.tok 0)]), (.tok 1), (.tok 2)])) (.call 8 0 [(.call 3 1 [(.call 2 0 [(.tok 0)]), (.tok 1), (.tok 2)]), (.call 4 1 [(.call 2 0 [(.tok 0)]), (.tok 1), (.tok 2)])])) (.eq (.call 5 0 [(.call 2 0 [(.tok 0)]), (.tok 1), (.tok 2)]) (.call 6 0 [(.call 2 0 [(.tok 0)]), (.tok 1), (.tok 2)]))) (.call 8 0 [(.call 5 1 [(.call 2 0 [(.tok 0)]), (.tok 1), (.tok 2)]), (.call 6 1 [(.call 2 0 [(.tok 0)]), (.tok 1), (.tok 2)])])) (.ok 9 [(.tok 1), (.tok 2)])), (.imp (.and (.and (.and (.and (.eq (.call 3 0 [(.call 2 0 [(.tok 0)]), (.tok 1), (.tok 2)]) (.call 4 0 [(.call 2 0 [(.tok 0)]), (.tok 1), (.tok 2)])) (.call 8 0 [(.call 3 1 [(.call 2 0 [(.tok 0)]), (.tok 1), (.tok 2)]), (.call 4 1 [(.call 2 0 [(.tok 0)]), (.tok 1), (.tok 2)])])) (.eq (.call 5 0 [(.call 2 0 [(.tok 0)]), (.tok 1), (.tok 2)]) (.call 6 0 [(.call 2 0 [(.tok 0)]), (.tok 1), (.tok 2)]))) (.call 8 0 [(.call 5 1 [(.call 2 0 [(.tok 0)]), (.tok 1), (.tok 2)]), (.call 6 1 [(.call 2 0 [(.tok 0)]), (.tok 1), (.tok 2)])])) (.eq (.call 9 0 [(.tok 1), (.tok 2)]) (.lit (.i 1)))) (.ok 10 [(.tok 1), (.tok 2)])), (.imp (.and (.and (.and (.and (.and (.eq (.call 3 0 [(.call 2 0 [(.tok 0)]), (.tok 1), (.tok 2)]) (.call 4 0 [(.call 2 0 [(.tok 0)]), (.tok 1), (.tok 2)])) (.call 8 0 [(.call 3 1 [(.call 2 0 [(.tok 0)]), (.tok 1), (.tok 2)]), (.call 4 1 [(.call 2 0 [(.tok 0)]), (.tok 1), (.tok 2)])])) (.eq (.call 5 0 [(.call 2 0 [(.tok 0)]), (.tok 1), (.tok 2)]) (.call 6 0 [(.call 2 0 [(.tok 0)]), (.tok 1), (.tok 2)]))) (.call 8 0 [(.call 5 1 [(.call 2 0 [(.tok 0)]), (.tok 1), (.tok 2)]), (.call 6 1 [(.call 2 0 [(.tok 0)]), (.tok 1), (.tok 2)])])) (.eq (.call 9 0 [(.tok 1), (.tok 2)]) (.lit (.i 1)))) (.eq (.call 10 0 [(.tok 1), (.tok 2)]) (.lit (.i 1)))) (.ok 1 []))] (.leaf [(.and (.and (.and (.and (.and (.and (.eq (.call 3 0 [(.call 2 0 [(.tok 0)]), (.tok 1), (.tok 2)]) (.call 4 0 [(.call 2 0 [(.tok 0)]), (.tok 1), (.tok 2)])) (.call 8 0 [(.call 3 1 [(.call 2 0 [(.tok 0)]), (.tok 1), (.tok 2)]), (.call 4 1 [(.call 2 0 [(.tok 0)]), (.tok 1), (.tok 2)])])) (.eq (.call 5 0 [(.call 2 0 [(.tok 0)]), (.tok 1), (.tok 2)]) (.call 6 0 [(.call 2 0 [(.tok 0)]), (.tok 1), (.tok 2)]))) (.call 8 0 [(.call 5 1 [(.call 2 0 [(.tok 0)]), (.tok 1), (.tok 2)]), (.call 6 1 [(.call 2 0 [(.tok 0)]), (.tok 1), (.tok 2)])])) (.eq (.call 9 0 [(.tok 1), (.tok 2)]) (.lit (.i 1)))) (.eq (.call 10 0 [(.tok 1), (.tok 2)]) (.lit (.i 1)))) (.call 1 0 []))]))))))))))
set_option maxRecDepth 100000 in
theorem code_law31_TrailUndoes (g0 g1 g2 g3 g4 g5 g6 g7 g8 g9 g10 : List D → Option (List D)) : ∀ cd, Try.f5.body = some cd → treeOf Try.prog [(ct_law31_small, g0), (ct_law31_awake, g1), (ct_ref30_Clone, g2), (ct_trail_Undo, g3), (ct_ref31_Undo, g4), (ct_trail_Tidy, g5), (ct_ref31_Tidy, g6), (ct_ref30_Valid, g7), (ct_ref30_Same, g8), (ct_trail_Undo_n, g9), (ct_trail_Tidy_n, g10)] ann_law31_TrailUndoes ct_law31_TrailUndoes Try.f5 cd = tree_law31_TrailUndoes := by
  intro cd h
  injection h with h
  subst h
  kernel_rfl
theorem fok_law31_TrailUndoes {g0 g1 g2 g3 g4 g5 g6 g7 g8 g9 g10 : List D → Option (List D)} {g : List D → Option (List D)} (h0 : FOk ct_law31_small g0) (h1 : FOk ct_law31_awake g1) (h2 : FOk ct_ref30_Clone g2) (h3 : FOk ct_trail_Undo g3) (h4 : FOk ct_ref31_Undo g4) (h5 : FOk ct_trail_Tidy g5) (h6 : FOk ct_ref31_Tidy g6) (h7 : FOk ct_ref30_Valid g7) (h8 : FOk ct_ref30_Same g8) (h9 : FOk ct_trail_Undo_n g9) (h10 : FOk ct_trail_Tidy_n g10) (h : ∀ ds outs, WfA ct_law31_TrailUndoes.ars ds → g ds = some outs → tree_law31_TrailUndoes.go (tblS [(ct_law31_small, g0), (ct_law31_awake, g1), (ct_ref30_Clone, g2), (ct_trail_Undo, g3), (ct_ref31_Undo, g4), (ct_trail_Tidy, g5), (ct_ref31_Tidy, g6), (ct_ref30_Valid, g7), (ct_ref30_Same, g8), (ct_trail_Undo_n, g9), (ct_trail_Tidy_n, g10)]) (fun o => o = outs) ds fun _ _ => False) : FOk ct_law31_TrailUndoes g :=
  fok_of ann_law31_TrailUndoes Try.f5 _ (.cons h0 (.cons h1 (.cons h2 (.cons h3 (.cons h4 (.cons h5 (.cons h6 (.cons h7 (.cons h8 (.cons h9 (.cons h10 .nil))))))))))) rfl rfl enter_law31_TrailUndoes (by decide) fun ds outs hw hg => by rw [code_law31_TrailUndoes g0 g1 g2 g3 g4 g5 g6 g7 g8 g9 g10 _ rfl]; exact h ds outs hw hg

def ct_law31_TrailNested : Ct := ⟨6, [.val (.st 26), .val (.int .i64), .val (.int .i64), .val (.int .i64), .val (.int .i64)], [(.bool, false)], []⟩
theorem enter_law31_TrailNested (args : Array Value) (w : World) : (callFunc ct_law31_TrailNested.f args).run Try.prog w = .ok (.enter ct_law31_TrailNested.f args) w := by kernel_rfl
def ann_law31_TrailNested : Ann := ⟨[0, 1, 2, 3, 4, 5, 10, 11, 12, 13, 14, 32, 46], []⟩
def tree_law31_TrailNested : Tree := (.need [(.ok 0 [(.tok 0)]), (.imp (.not (.not (.call 0 0 [(.tok 0)]))) (.ok 1 [(.tok 0)]))] (.br (.or (.or (.or (.not (.call 0 0 [(.tok 0)])) (.not (.call 1 0 [(.tok 0)]))) (.lt (.tok 1) (.tok 3))) (.lt (.tok 2) (.tok 4))) (.need [(.ok 2 [])] (.leaf [(.call 2 0 [])])) (.need [(.ok 3 [(.tok 0)]), (.ok 3 [(.tok 0)]), (.ok 3 [(.tok 0)]), (.ok 3 [(.tok 0)]), (.ok 3 [(.tok 0)])] (.need [(.ok 4 [(.call 3 0 [(.tok 0)]), (.tok 1), (.tok 2)]), (.imp (.not (.not (.eq (.call 4 0 [(.call 3 0 [(.tok 0)]), (.tok 1), (.tok 2)]) (.lit (.i 0))))) (.ok 1 [(.call 4 1 [(.call 3 0 [(.tok 0)]), (.tok 1), (.tok 2)])]))] (.br (.or (.not (.eq (.call 4 0 [(.call 3 0 [(.tok 0)]), (.tok 1), (.tok 2)]) (.lit (.i 0)))) (.not (.call 1 0 [(.call 4 1 [(.call 3 0 [(.tok 0)]), (.tok 1), (.tok 2)])]))) (.need [(.ok 2 [])] (.leaf [(.call 2 0 [])])) (.need [(.ok 4 [(.call 4 1 [(.call 3 0 [(.tok 0)]), (.tok 1), (.tok 2)]), (.tok 3), (.tok 4)]), (.ok 4 [(.call 3 0 [(.tok 0)]), (.tok 3), (.tok 4)])] (.need [(.imp (.and (.eq (.call 4 0 [(.call 4 1 [(.call 3 0 [(.tok 0)]), (.tok 1), (.tok 2)]), (.tok 3), (.tok 4)]) (.call 4 0 [(.call 3 0 [(.tok 0)]), (.tok 3), (.tok 4)])) (.not (.not (.eq (.call 4 0 [(.call 4 1 [(.call 3 0 [(.tok 0)]), (.tok 1), (.tok 2)]), (.tok 3), (.tok 4)]) (.lit (.i 0)))))) (.ok 5 [(.call 4 1 [(.call 4 1 [(.call 3 0 [(.tok 0)]), (.tok 1), (.tok 2)]), (.tok 3), (.tok 4)]), (.call 4 1 [(.call 3 0 [(.tok 0)]), (.tok 3), (.tok 4)])])), (.imp (.and (.eq (.call 4 0 [(.call 4 1 [(.call 3 0 [(.tok 0)]), (.tok 1), (.tok 2)]), (.tok 3), (.tok 4)]) (.call 4 0 [(.call 3 0 [(.tok 0)]), (.tok 3), (.tok 4)])) (.or (.not (.eq (.call 4 0 [(.call 4 1 [(.call 3 0 [(.tok 0)]), (.tok 1), (.tok 2)]), (.tok 3), (.tok 4)]) (.lit (.i 0)))) (.call 5 0 [(.call 4 1 [(.call 4 1 [(.call 3 0 [(.tok 0)]), (.tok 1), (.tok 2)]), (.tok 3), (.tok 4)]), (.call 4 1 [(.call 3 0 [(.tok 0)]), (.tok 3), (.tok 4)])]))) (.ok 2 []))] (.leaf [(.and (.and (.eq (.call 4 0 [(.call 4 1 [(.call 3 0 [(.tok 0)]), (.tok 1), (.tok 2)]), (.tok 3), (.tok 4)]) (.call 4 0 [(.call 3 0 [(.tok 0)]), (.tok 3), (.tok 4)])) (.or (.not (.eq (.call 4 0 [(.call 4 1 [(.call 3 0 [(.tok 0)]), (.tok 1), (.tok 2)]), (.tok 3), (.tok 4)]) (.lit (.i 0)))) (.call 5 0 [(.call 4 1 [(.call 4 1 [(.call 3 0 [(.tok 0)]), (.tok 1), (.tok 2)]), (.tok 3), (.tok 4)]), (.call 4 1 [(.call 3 0 [(.tok 0)]), (.tok 3), (.tok 4)])]))) (.call 2 0 []))]))))))))
set_option maxRecDepth 100000 in
theorem code_law31_TrailNested (g0 g1 g2 g3 g4 g5 : List D → Option (List D)) : ∀ cd, Try.f6.body = some cd → treeOf Try.prog [(ct_law31_small, g0), (ct_cells_Valid, g1), (ct_law31_awake, g2), (ct_cells_Clone, g3), (ct_trail_Undo, g4), (ct_cells_Same, g5)] ann_law31_TrailNested ct_law31_TrailNested Try.f6 cd = tree_law31_TrailNested := by
  intro cd h
  injection h with h
  subst h
  kernel_rfl
theorem fok_law31_TrailNested {g0 g1 g2 g3 g4 g5 : List D → Option (List D)} {g : List D → Option (List D)} (h0 : FOk ct_law31_small g0) (h1 : FOk ct_cells_Valid g1) (h2 : FOk ct_law31_awake g2) (h3 : FOk ct_cells_Clone g3) (h4 : FOk ct_trail_Undo g4) (h5 : FOk ct_cells_Same g5) (h : ∀ ds outs, WfA ct_law31_TrailNested.ars ds → g ds = some outs → tree_law31_TrailNested.go (tblS [(ct_law31_small, g0), (ct_cells_Valid, g1), (ct_law31_awake, g2), (ct_cells_Clone, g3), (ct_trail_Undo, g4), (ct_cells_Same, g5)]) (fun o => o = outs) ds fun _ _ => False) : FOk ct_law31_TrailNested g :=
  fok_of ann_law31_TrailNested Try.f6 _ (.cons h0 (.cons h1 (.cons h2 (.cons h3 (.cons h4 (.cons h5 .nil)))))) rfl rfl enter_law31_TrailNested (by decide) fun ds outs hw hg => by rw [code_law31_TrailNested g0 g1 g2 g3 g4 g5 _ rfl]; exact h ds outs hw hg

def ct_law31_TrailTidies : Ct := ⟨7, [.val (.st 26), .val (.int .i64), .val (.int .i64)], [(.bool, false)], []⟩
theorem enter_law31_TrailTidies (args : Array Value) (w : World) : (callFunc ct_law31_TrailTidies.f args).run Try.prog w = .ok (.enter ct_law31_TrailTidies.f args) w := by kernel_rfl
def ann_law31_TrailTidies : Ann := ⟨[0, 1, 2, 3, 6, 7, 8, 9, 10, 11, 12, 20, 30, 62, 65, 78], [(10, ⟨[(6, .bool, false), (10, .int .i64, false)], [], [63, 64, 65, 68, 69, 70, 71, 72, 73, 74, 75, 76, 77, 78, 66, 67], []⟩)]⟩
def tree_law31_TrailTidies : Tree := (.need [(.ok 0 [(.tok 0)]), (.imp (.not (.not (.call 0 0 [(.tok 0)]))) (.ok 1 [(.tok 0)]))] (.br (.or (.not (.call 0 0 [(.tok 0)])) (.not (.call 1 0 [(.tok 0)]))) (.need [(.ok 2 [])] (.leaf [(.call 2 0 [])])) (.need [(.ok 3 [(.tok 0)]), (.ok 3 [(.tok 0)]), (.ok 3 [(.tok 0)]), (.ok 3 [(.tok 0)]), (.ok 3 [(.tok 0)])] (.need [(.ok 4 [(.call 3 0 [(.tok 0)]), (.tok 1), (.tok 2)])] (.br (.not (.eq (.call 4 0 [(.call 3 0 [(.tok 0)]), (.tok 1), (.tok 2)]) (.lit (.i 0)))) (.need [(.ok 5 [(.call 4 1 [(.call 3 0 [(.tok 0)]), (.tok 1), (.tok 2)]), (.tok 0)]), (.imp (.call 5 0 [(.call 4 1 [(.call 3 0 [(.tok 0)]), (.tok 1), (.tok 2)]), (.tok 0)]) (.ok 6 [(.call 3 0 [(.tok 0)]), (.tok 1), (.tok 2)])), (.imp (.and (.call 5 0 [(.call 4 1 [(.call 3 0 [(.tok 0)]), (.tok 1), (.tok 2)]), (.tok 0)]) (.eq (.call 6 0 [(.call 3 0 [(.tok 0)]), (.tok 1), (.tok 2)]) (.call 4 0 [(.call 3 0 [(.tok 0)]), (.tok 1), (.tok 2)]))) (.ok 2 []))] (.leaf [(.and (.and (.call 5 0 [(.call 4 1 [(.call 3 0 [(.tok 0)]), (.tok 1), (.tok 2)]), (.tok 0)]) (.eq (.call 6 0 [(.call 3 0 [(.tok 0)]), (.tok 1), (.tok 2)]) (.call 4 0 [(.call 3 0 [(.tok 0)]), (.tok 1), (.tok 2)]))) (.call 2 0 []))])) (.need [(.ok 1 [(.call 4 1 [(.call 3 0 [(.tok 0)]), (.tok 1), (.tok 2)])])] (.br (.or (.or (.not (.call 1 0 [(.call 4 1 [(.call 3 0 [(.tok 0)]), (.tok 1), (.tok 2)])])) (.lt (.len (.fld (.tok 0) 2)) (.len (.fld (.call 4 1 [(.call 3 0 [(.tok 0)]), (.tok 1), (.tok 2)]) 2)))) (.lt (.len (.fld (.call 4 1 [(.call 3 0 [(.tok 0)]), (.tok 1), (.tok 2)]) 2)) (.tok 1))) (.leaf [(.lit (.b .false))]) (.loop 10 3 [(.lit (.b .false)), (.lit (.i 0))] (.br (.lt (.tok 4) (.tok 1)) (.need [(.le (.lit (.i 0)) (.tok 4)), (.lt (.tok 4) (.len (.fld (.tok 0) 2))), (.le (.lit (.i 0)) (.tok 4)), (.lt (.tok 4) (.len (.fld (.call 4 1 [(.call 3 0 [(.tok 0)]), (.tok 1), (.tok 2)]) 2)))] (.br (.not (.eq (.get (.fld (.call 4 1 [(.call 3 0 [(.tok 0)]), (.tok 1), (.tok 2)]) 2) (.tok 4)) (.get (.fld (.tok 0) 2) (.tok 4)))) (.leaf [(.lit (.b .false))]) (.need [(.rng .i64 (.add (.tok 4) (.lit (.i 1))))] (.back 10 [(.tok 3), (.add (.tok 4) (.lit (.i 1)))])))) (.need [(.ok 6 [(.call 4 1 [(.call 3 0 [(.tok 0)]), (.tok 1), (.tok 2)]), (.tok 1), (.tok 2)]), (.ok 6 [(.call 3 0 [(.tok 0)]), (.tok 1), (.tok 2)])] (.need [(.imp (.and (.eq (.call 6 0 [(.call 4 1 [(.call 3 0 [(.tok 0)]), (.tok 1), (.tok 2)]), (.tok 1), (.tok 2)]) (.lit (.i 0))) (.eq (.call 6 0 [(.call 3 0 [(.tok 0)]), (.tok 1), (.tok 2)]) (.lit (.i 0)))) (.ok 5 [(.call 6 1 [(.call 4 1 [(.call 3 0 [(.tok 0)]), (.tok 1), (.tok 2)]), (.tok 1), (.tok 2)]), (.call 6 1 [(.call 3 0 [(.tok 0)]), (.tok 1), (.tok 2)])])), (.imp (.and (.and (.eq (.call 6 0 [(.call 4 1 [(.call 3 0 [(.tok 0)]), (.tok 1), (.tok 2)]), (.tok 1), (.tok 2)]) (.lit (.i 0))) (.eq (.call 6 0 [(.call 3 0 [(.tok 0)]), (.tok 1), (.tok 2)]) (.lit (.i 0)))) (.call 5 0 [(.call 6 1 [(.call 4 1 [(.call 3 0 [(.tok 0)]), (.tok 1), (.tok 2)]), (.tok 1), (.tok 2)]), (.call 6 1 [(.call 3 0 [(.tok 0)]), (.tok 1), (.tok 2)])])) (.ok 2 []))] (.leaf [(.and (.and (.and (.eq (.call 6 0 [(.call 4 1 [(.call 3 0 [(.tok 0)]), (.tok 1), (.tok 2)]), (.tok 1), (.tok 2)]) (.lit (.i 0))) (.eq (.call 6 0 [(.call 3 0 [(.tok 0)]), (.tok 1), (.tok 2)]) (.lit (.i 0)))) (.call 5 0 [(.call 6 1 [(.call 4 1 [(.call 3 0 [(.tok 0)]), (.tok 1), (.tok 2)]), (.tok 1), (.tok 2)]), (.call 6 1 [(.call 3 0 [(.tok 0)]), (.tok 1), (.tok 2)])])) (.call 2 0 []))]))))))))))))
set_option maxRecDepth 100000 in
theorem code_law31_TrailTidies (g0 g1 g2 g3 g4 g5 g6 : List D → Option (List D)) : ∀ cd, Try.f7.body = some cd → treeOf Try.prog [(ct_law31_small, g0), (ct_cells_Valid, g1), (ct_law31_awake, g2), (ct_cells_Clone, g3), (ct_trail_Tidy, g4), (ct_cells_Same, g5), (ct_trail_Undo, g6)] ann_law31_TrailTidies ct_law31_TrailTidies Try.f7 cd = tree_law31_TrailTidies := by
  intro cd h
  injection h with h
  subst h
  kernel_rfl
theorem fok_law31_TrailTidies {g0 g1 g2 g3 g4 g5 g6 : List D → Option (List D)} {g : List D → Option (List D)} (h0 : FOk ct_law31_small g0) (h1 : FOk ct_cells_Valid g1) (h2 : FOk ct_law31_awake g2) (h3 : FOk ct_cells_Clone g3) (h4 : FOk ct_trail_Tidy g4) (h5 : FOk ct_cells_Same g5) (h6 : FOk ct_trail_Undo g6) (h : ∀ ds outs, WfA ct_law31_TrailTidies.ars ds → g ds = some outs → tree_law31_TrailTidies.go (tblS [(ct_law31_small, g0), (ct_cells_Valid, g1), (ct_law31_awake, g2), (ct_cells_Clone, g3), (ct_trail_Tidy, g4), (ct_cells_Same, g5), (ct_trail_Undo, g6)]) (fun o => o = outs) ds fun _ _ => False) : FOk ct_law31_TrailTidies g :=
  fok_of ann_law31_TrailTidies Try.f7 _ (.cons h0 (.cons h1 (.cons h2 (.cons h3 (.cons h4 (.cons h5 (.cons h6 .nil))))))) rfl rfl enter_law31_TrailTidies (by decide) fun ds outs hw hg => by rw [code_law31_TrailTidies g0 g1 g2 g3 g4 g5 g6 _ rfl]; exact h ds outs hw hg

def ann_law31_awake : Ann := ⟨[0, 1, 2, 3, 4, 5], []⟩
def tree_law31_awake : Tree := (.need [(.ok 0 [])] (.need [(.ok 1 [(.lit (.i 0))]), (.ok 2 [(.call 0 0 []), (.lit (.i 1)), (.call 1 0 [(.lit (.i 0))])])] (.need [(.ok 3 [(.lit (.i 5))]), (.ok 2 [(.call 2 1 [(.call 0 0 []), (.lit (.i 1)), (.call 1 0 [(.lit (.i 0))])]), (.lit (.i 0)), (.call 3 0 [(.lit (.i 5))])])] (.need [(.imp (.and (.and (.eq (.len (.fld (.call 2 1 [(.call 2 1 [(.call 0 0 []), (.lit (.i 1)), (.call 1 0 [(.lit (.i 0))])]), (.lit (.i 0)), (.call 3 0 [(.lit (.i 5))])]) 0)) (.lit (.i 3))) (.eq (.get (.fld (.call 2 1 [(.call 2 1 [(.call 0 0 []), (.lit (.i 1)), (.call 1 0 [(.lit (.i 0))])]), (.lit (.i 0)), (.call 3 0 [(.lit (.i 5))])]) 0) (.lit (.i 1))) (.call 1 0 [(.lit (.i 0))]))) (.eq (.get (.fld (.call 2 1 [(.call 2 1 [(.call 0 0 []), (.lit (.i 1)), (.call 1 0 [(.lit (.i 0))])]), (.lit (.i 0)), (.call 3 0 [(.lit (.i 5))])]) 0) (.lit (.i 0))) (.call 3 0 [(.lit (.i 5))]))) (.ok 4 [(.call 2 1 [(.call 2 1 [(.call 0 0 []), (.lit (.i 1)), (.call 1 0 [(.lit (.i 0))])]), (.lit (.i 0)), (.call 3 0 [(.lit (.i 5))])])])), (.imp (.and (.eq (.len (.fld (.call 2 1 [(.call 2 1 [(.call 0 0 []), (.lit (.i 1)), (.call 1 0 [(.lit (.i 0))])]), (.lit (.i 0)), (.call 3 0 [(.lit (.i 5))])]) 0)) (.lit (.i 3))) (.eq (.get (.fld (.call 2 1 [(.call 2 1 [(.call 0 0 []), (.lit (.i 1)), (.call 1 0 [(.lit (.i 0))])]), (.lit (.i 0)), (.call 3 0 [(.lit (.i 5))])]) 0) (.lit (.i 1))) (.call 1 0 [(.lit (.i 0))]))) (.ok 3 [(.lit (.i 5))])), (.imp (.and (.eq (.len (.fld (.call 2 1 [(.call 2 1 [(.call 0 0 []), (.lit (.i 1)), (.call 1 0 [(.lit (.i 0))])]), (.lit (.i 0)), (.call 3 0 [(.lit (.i 5))])]) 0)) (.lit (.i 3))) (.eq (.get (.fld (.call 2 1 [(.call 2 1 [(.call 0 0 []), (.lit (.i 1)), (.call 1 0 [(.lit (.i 0))])]), (.lit (.i 0)), (.call 3 0 [(.lit (.i 5))])]) 0) (.lit (.i 1))) (.call 1 0 [(.lit (.i 0))]))) (.lit (.b .true))), (.imp (.and (.eq (.len (.fld (.call 2 1 [(.call 2 1 [(.call 0 0 []), (.lit (.i 1)), (.call 1 0 [(.lit (.i 0))])]), (.lit (.i 0)), (.call 3 0 [(.lit (.i 5))])]) 0)) (.lit (.i 3))) (.eq (.get (.fld (.call 2 1 [(.call 2 1 [(.call 0 0 []), (.lit (.i 1)), (.call 1 0 [(.lit (.i 0))])]), (.lit (.i 0)), (.call 3 0 [(.lit (.i 5))])]) 0) (.lit (.i 1))) (.call 1 0 [(.lit (.i 0))]))) (.lt (.lit (.i 0)) (.len (.fld (.call 2 1 [(.call 2 1 [(.call 0 0 []), (.lit (.i 1)), (.call 1 0 [(.lit (.i 0))])]), (.lit (.i 0)), (.call 3 0 [(.lit (.i 5))])]) 0)))), (.imp (.and (.eq (.len (.fld (.call 2 1 [(.call 2 1 [(.call 0 0 []), (.lit (.i 1)), (.call 1 0 [(.lit (.i 0))])]), (.lit (.i 0)), (.call 3 0 [(.lit (.i 5))])]) 0)) (.lit (.i 3))) (.eq (.get (.fld (.call 2 1 [(.call 2 1 [(.call 0 0 []), (.lit (.i 1)), (.call 1 0 [(.lit (.i 0))])]), (.lit (.i 0)), (.call 3 0 [(.lit (.i 5))])]) 0) (.lit (.i 1))) (.call 1 0 [(.lit (.i 0))]))) (.ok 3 [(.lit (.i 5))])), (.imp (.and (.eq (.len (.fld (.call 2 1 [(.call 2 1 [(.call 0 0 []), (.lit (.i 1)), (.call 1 0 [(.lit (.i 0))])]), (.lit (.i 0)), (.call 3 0 [(.lit (.i 5))])]) 0)) (.lit (.i 3))) (.eq (.get (.fld (.call 2 1 [(.call 2 1 [(.call 0 0 []), (.lit (.i 1)), (.call 1 0 [(.lit (.i 0))])]), (.lit (.i 0)), (.call 3 0 [(.lit (.i 5))])]) 0) (.lit (.i 1))) (.call 1 0 [(.lit (.i 0))]))) (.lit (.b .true))), (.imp (.and (.eq (.len (.fld (.call 2 1 [(.call 2 1 [(.call 0 0 []), (.lit (.i 1)), (.call 1 0 [(.lit (.i 0))])]), (.lit (.i 0)), (.call 3 0 [(.lit (.i 5))])]) 0)) (.lit (.i 3))) (.eq (.get (.fld (.call 2 1 [(.call 2 1 [(.call 0 0 []), (.lit (.i 1)), (.call 1 0 [(.lit (.i 0))])]), (.lit (.i 0)), (.call 3 0 [(.lit (.i 5))])]) 0) (.lit (.i 1))) (.call 1 0 [(.lit (.i 0))]))) (.lt (.lit (.i 0)) (.len (.fld (.call 2 1 [(.call 2 1 [(.call 0 0 []), (.lit (.i 1)), (.call 1 0 [(.lit (.i 0))])]), (.lit (.i 0)), (.call 3 0 [(.lit (.i 5))])]) 0)))), (.imp (.and (.eq (.len (.fld (.call 2 1 [(.call 2 1 [(.call 0 0 []), (.lit (.i 1)), (.call 1 0 [(.lit (.i 0))])]), (.lit (.i 0)), (.call 3 0 [(.lit (.i 5))])]) 0)) (.lit (.i 3))) (.eq (.get (.fld (.call 2 1 [(.call 2 1 [(.call 0 0 []), (.lit (.i 1)), (.call 1 0 [(.lit (.i 0))])]), (.lit (.i 0)), (.call 3 0 [(.lit (.i 5))])]) 0) (.lit (.i 1))) (.call 1 0 [(.lit (.i 0))]))) (.ok 3 [(.lit (.i 5))])), (.imp (.eq (.len (.fld (.call 2 1 [(.call 2 1 [(.call 0 0 []), (.lit (.i 1)), (.call 1 0 [(.lit (.i 0))])]), (.lit (.i 0)), (.call 3 0 [(.lit (.i 5))])]) 0)) (.lit (.i 3))) (.ok 1 [(.lit (.i 0))])), (.imp (.eq (.len (.fld (.call 2 1 [(.call 2 1 [(.call 0 0 []), (.lit (.i 1)), (.call 1 0 [(.lit (.i 0))])]), (.lit (.i 0)), (.call 3 0 [(.lit (.i 5))])]) 0)) (.lit (.i 3))) (.lit (.b .true))), (.imp (.eq (.len (.fld (.call 2 1 [(.call 2 1 [(.call 0 0 []), (.lit (.i 1)), (.call 1 0 [(.lit (.i 0))])]), (.lit (.i 0)), (.call 3 0 [(.lit (.i 5))])]) 0)) (.lit (.i 3))) (.lt (.lit (.i 1)) (.len (.fld (.call 2 1 [(.call 2 1 [(.call 0 0 []), (.lit (.i 1)), (.call 1 0 [(.lit (.i 0))])]), (.lit (.i 0)), (.call 3 0 [(.lit (.i 5))])]) 0)))), (.imp (.eq (.len (.fld (.call 2 1 [(.call 2 1 [(.call 0 0 []), (.lit (.i 1)), (.call 1 0 [(.lit (.i 0))])]), (.lit (.i 0)), (.call 3 0 [(.lit (.i 5))])]) 0)) (.lit (.i 3))) (.ok 1 [(.lit (.i 0))])), (.imp (.eq (.len (.fld (.call 2 1 [(.call 2 1 [(.call 0 0 []), (.lit (.i 1)), (.call 1 0 [(.lit (.i 0))])]), (.lit (.i 0)), (.call 3 0 [(.lit (.i 5))])]) 0)) (.lit (.i 3))) (.lit (.b .true))), (.imp (.eq (.len (.fld (.call 2 1 [(.call 2 1 [(.call 0 0 []), (.lit (.i 1)), (.call 1 0 [(.lit (.i 0))])]), (.lit (.i 0)), (.call 3 0 [(.lit (.i 5))])]) 0)) (.lit (.i 3))) (.lt (.lit (.i 1)) (.len (.fld (.call 2 1 [(.call 2 1 [(.call 0 0 []), (.lit (.i 1)), (.call 1 0 [(.lit (.i 0))])]), (.lit (.i 0)), (.call 3 0 [(.lit (.i 5))])]) 0)))), (.imp (.eq (.len (.fld (.call 2 1 [(.call 2 1 [(.call 0 0 []), (.lit (.i 1)), (.call 1 0 [(.lit (.i 0))])]), (.lit (.i 0)), (.call 3 0 [(.lit (.i 5))])]) 0)) (.lit (.i 3))) (.ok 1 [(.lit (.i 0))]))] (.need [(.ok 5 [(.call 2 1 [(.call 2 1 [(.call 0 0 []), (.lit (.i 1)), (.call 1 0 [(.lit (.i 0))])]), (.lit (.i 0)), (.call 3 0 [(.lit (.i 5))])]), (.lit (.i 1)), (.lit (.i 3))])] (.need [(.imp (.and (.and (.and (.and (.and (.eq (.call 2 0 [(.call 0 0 []), (.lit (.i 1)), (.call 1 0 [(.lit (.i 0))])]) (.lit (.i 0))) (.eq (.call 2 0 [(.call 2 1 [(.call 0 0 []), (.lit (.i 1)), (.call 1 0 [(.lit (.i 0))])]), (.lit (.i 0)), (.call 3 0 [(.lit (.i 5))])]) (.lit (.i 0)))) (.and (.and (.and (.eq (.len (.fld (.call 2 1 [(.call 2 1 [(.call 0 0 []), (.lit (.i 1)), (.call 1 0 [(.lit (.i 0))])]), (.lit (.i 0)), (.call 3 0 [(.lit (.i 5))])]) 0)) (.lit (.i 3))) (.eq (.get (.fld (.call 2 1 [(.call 2 1 [(.call 0 0 []), (.lit (.i 1)), (.call 1 0 [(.lit (.i 0))])]), (.lit (.i 0)), (.call 3 0 [(.lit (.i 5))])]) 0) (.lit (.i 1))) (.call 1 0 [(.lit (.i 0))]))) (.eq (.get (.fld (.call 2 1 [(.call 2 1 [(.call 0 0 []), (.lit (.i 1)), (.call 1 0 [(.lit (.i 0))])]), (.lit (.i 0)), (.call 3 0 [(.lit (.i 5))])]) 0) (.lit (.i 0))) (.call 3 0 [(.lit (.i 5))]))) (.eq (.call 4 0 [(.call 2 1 [(.call 2 1 [(.call 0 0 []), (.lit (.i 1)), (.call 1 0 [(.lit (.i 0))])]), (.lit (.i 0)), (.call 3 0 [(.lit (.i 5))])])]) (.lit (.i 2))))) (.eq (.call 5 0 [(.call 2 1 [(.call 2 1 [(.call 0 0 []), (.lit (.i 1)), (.call 1 0 [(.lit (.i 0))])]), (.lit (.i 0)), (.call 3 0 [(.lit (.i 5))])]), (.lit (.i 1)), (.lit (.i 3))]) (.lit (.i 0)))) (.eq (.len (.fld (.call 5 1 [(.call 2 1 [(.call 2 1 [(.call 0 0 []), (.lit (.i 1)), (.call 1 0 [(.lit (.i 0))])]), (.lit (.i 0)), (.call 3 0 [(.lit (.i 5))])]), (.lit (.i 1)), (.lit (.i 3))]) 2)) (.lit (.i 1)))) (.eq (.get (.fld (.call 5 1 [(.call 2 1 [(.call 2 1 [(.call 0 0 []), (.lit (.i 1)), (.call 1 0 [(.lit (.i 0))])]), (.lit (.i 0)), (.call 3 0 [(.lit (.i 5))])]), (.lit (.i 1)), (.lit (.i 3))]) 2) (.lit (.i 0))) (.mk [(.lit (.i 1)), (.call 1 0 [(.lit (.i 1))])]))) (.ok 1 [(.lit (.i 0))])), (.imp (.and (.and (.and (.and (.and (.eq (.call 2 0 [(.call 0 0 []), (.lit (.i 1)), (.call 1 0 [(.lit (.i 0))])]) (.lit (.i 0))) (.eq (.call 2 0 [(.call 2 1 [(.call 0 0 []), (.lit (.i 1)), (.call 1 0 [(.lit (.i 0))])]), (.lit (.i 0)), (.call 3 0 [(.lit (.i 5))])]) (.lit (.i 0)))) (.and (.and (.and (.eq (.len (.fld (.call 2 1 [(.call 2 1 [(.call 0 0 []), (.lit (.i 1)), (.call 1 0 [(.lit (.i 0))])]), (.lit (.i 0)), (.call 3 0 [(.lit (.i 5))])]) 0)) (.lit (.i 3))) (.eq (.get (.fld (.call 2 1 [(.call 2 1 [(.call 0 0 []), (.lit (.i 1)), (.call 1 0 [(.lit (.i 0))])]), (.lit (.i 0)), (.call 3 0 [(.lit (.i 5))])]) 0) (.lit (.i 1))) (.call 1 0 [(.lit (.i 0))]))) (.eq (.get (.fld (.call 2 1 [(.call 2 1 [(.call 0 0 []), (.lit (.i 1)), (.call 1 0 [(.lit (.i 0))])]), (.lit (.i 0)), (.call 3 0 [(.lit (.i 5))])]) 0) (.lit (.i 0))) (.call 3 0 [(.lit (.i 5))]))) (.eq (.call 4 0 [(.call 2 1 [(.call 2 1 [(.call 0 0 []), (.lit (.i 1)), (.call 1 0 [(.lit (.i 0))])]), (.lit (.i 0)), (.call 3 0 [(.lit (.i 5))])])]) (.lit (.i 2))))) (.eq (.call 5 0 [(.call 2 1 [(.call 2 1 [(.call 0 0 []), (.lit (.i 1)), (.call 1 0 [(.lit (.i 0))])]), (.lit (.i 0)), (.call 3 0 [(.lit (.i 5))])]), (.lit (.i 1)), (.lit (.i 3))]) (.lit (.i 0)))) (.eq (.len (.fld (.call 5 1 [(.call 2 1 [(.call 2 1 [(.call 0 0 []), (.lit (.i 1)), (.call 1 0 [(.lit (.i 0))])]), (.lit (.i 0)), (.call 3 0 [(.lit (.i 5))])]), (.lit (.i 1)), (.lit (.i 3))]) 2)) (.lit (.i 1)))) (.eq (.get (.fld (.call 5 1 [(.call 2 1 [(.call 2 1 [(.call 0 0 []), (.lit (.i 1)), (.call 1 0 [(.lit (.i 0))])]), (.lit (.i 0)), (.call 3 0 [(.lit (.i 5))])]), (.lit (.i 1)), (.lit (.i 3))]) 2) (.lit (.i 0))) (.mk [(.lit (.i 1)), (.call 1 0 [(.lit (.i 1))])]))) (.lit (.b .true))), (.imp (.and (.and (.and (.and (.and (.eq (.call 2 0 [(.call 0 0 []), (.lit (.i 1)), (.call 1 0 [(.lit (.i 0))])]) (.lit (.i 0))) (.eq (.call 2 0 [(.call 2 1 [(.call 0 0 []), (.lit (.i 1)), (.call 1 0 [(.lit (.i 0))])]), (.lit (.i 0)), (.call 3 0 [(.lit (.i 5))])]) (.lit (.i 0)))) (.and (.and (.and (.eq (.len (.fld (.call 2 1 [(.call 2 1 [(.call 0 0 []), (.lit (.i 1)), (.call 1 0 [(.lit (.i 0))])]), (.lit (.i 0)), (.call 3 0 [(.lit (.i 5))])]) 0)) (.lit (.i 3))) (.eq (.get (.fld (.call 2 1 [(.call 2 1 [(.call 0 0 []), (.lit (.i 1)), (.call 1 0 [(.lit (.i 0))])]), (.lit (.i 0)), (.call 3 0 [(.lit (.i 5))])]) 0) (.lit (.i 1))) (.call 1 0 [(.lit (.i 0))]))) (.eq (.get (.fld (.call 2 1 [(.call 2 1 [(.call 0 0 []), (.lit (.i 1)), (.call 1 0 [(.lit (.i 0))])]), (.lit (.i 0)), (.call 3 0 [(.lit (.i 5))])]) 0) (.lit (.i 0))) (.call 3 0 [(.lit (.i 5))]))) (.eq (.call 4 0 [(.call 2 1 [(.call 2 1 [(.call 0 0 []), (.lit (.i 1)), (.call 1 0 [(.lit (.i 0))])]), (.lit (.i 0)), (.call 3 0 [(.lit (.i 5))])])]) (.lit (.i 2))))) (.eq (.call 5 0 [(.call 2 1 [(.call 2 1 [(.call 0 0 []), (.lit (.i 1)), (.call 1 0 [(.lit (.i 0))])]), (.lit (.i 0)), (.call 3 0 [(.lit (.i 5))])]), (.lit (.i 1)), (.lit (.i 3))]) (.lit (.i 0)))) (.eq (.len (.fld (.call 5 1 [(.call 2 1 [(.call 2 1 [(.call 0 0 []), (.lit (.i 1)), (.call 1 0 [(.lit (.i 0))])]), (.lit (.i 0)), (.call 3 0 [(.lit (.i 5))])]), (.lit (.i 1)), (.lit (.i 3))]) 2)) (.lit (.i 1)))) (.eq (.get (.fld (.call 5 1 [(.call 2 1 [(.call 2 1 [(.call 0 0 []), (.lit (.i 1)), (.call 1 0 [(.lit (.i 0))])]), (.lit (.i 0)), (.call 3 0 [(.lit (.i 5))])]), (.lit (.i 1)), (.lit (.i 3))]) 2) (.lit (.i 0))) (.mk [(.lit (.i 1)), (.call 1 0 [(.lit (.i 1))])]))) (.lt (.lit (.i 0)) (.len (.fld (.call 5 1 [(.call 2 1 [(.call 2 1 [(.call 0 0 []), (.lit (.i 1)), (.call 1 0 [(.lit (.i 0))])]), (.lit (.i 0)), (.call 3 0 [(.lit (.i 5))])]), (.lit (.i 1)), (.lit (.i 3))]) 0)))), (.imp (.and (.and (.and (.and (.and (.eq (.call 2 0 [(.call 0 0 []), (.lit (.i 1)), (.call 1 0 [(.lit (.i 0))])]) (.lit (.i 0))) (.eq (.call 2 0 [(.call 2 1 [(.call 0 0 []), (.lit (.i 1)), (.call 1 0 [(.lit (.i 0))])]), (.lit (.i 0)), (.call 3 0 [(.lit (.i 5))])]) (.lit (.i 0)))) (.and (.and (.and (.eq (.len (.fld (.call 2 1 [(.call 2 1 [(.call 0 0 []), (.lit (.i 1)), (.call 1 0 [(.lit (.i 0))])]), (.lit (.i 0)), (.call 3 0 [(.lit (.i 5))])]) 0)) (.lit (.i 3))) (.eq (.get (.fld (.call 2 1 [(.call 2 1 [(.call 0 0 []), (.lit (.i 1)), (.call 1 0 [(.lit (.i 0))])]), (.lit (.i 0)), (.call 3 0 [(.lit (.i 5))])]) 0) (.lit (.i 1))) (.call 1 0 [(.lit (.i 0))]))) (.eq (.get (.fld (.call 2 1 [(.call 2 1 [(.call 0 0 []), (.lit (.i 1)), (.call 1 0 [(.lit (.i 0))])]), (.lit (.i 0)), (.call 3 0 [(.lit (.i 5))])]) 0) (.lit (.i 0))) (.call 3 0 [(.lit (.i 5))]))) (.eq (.call 4 0 [(.call 2 1 [(.call 2 1 [(.call 0 0 []), (.lit (.i 1)), (.call 1 0 [(.lit (.i 0))])]), (.lit (.i 0)), (.call 3 0 [(.lit (.i 5))])])]) (.lit (.i 2))))) (.eq (.call 5 0 [(.call 2 1 [(.call 2 1 [(.call 0 0 []), (.lit (.i 1)), (.call 1 0 [(.lit (.i 0))])]), (.lit (.i 0)), (.call 3 0 [(.lit (.i 5))])]), (.lit (.i 1)), (.lit (.i 3))]) (.lit (.i 0)))) (.eq (.len (.fld (.call 5 1 [(.call 2 1 [(.call 2 1 [(.call 0 0 []), (.lit (.i 1)), (.call 1 0 [(.lit (.i 0))])]), (.lit (.i 0)), (.call 3 0 [(.lit (.i 5))])]), (.lit (.i 1)), (.lit (.i 3))]) 2)) (.lit (.i 1)))) (.eq (.get (.fld (.call 5 1 [(.call 2 1 [(.call 2 1 [(.call 0 0 []), (.lit (.i 1)), (.call 1 0 [(.lit (.i 0))])]), (.lit (.i 0)), (.call 3 0 [(.lit (.i 5))])]), (.lit (.i 1)), (.lit (.i 3))]) 2) (.lit (.i 0))) (.mk [(.lit (.i 1)), (.call 1 0 [(.lit (.i 1))])]))) (.ok 1 [(.lit (.i 0))])), (.imp (.and (.and (.and (.and (.and (.eq (.call 2 0 [(.call 0 0 []), (.lit (.i 1)), (.call 1 0 [(.lit (.i 0))])]) (.lit (.i 0))) (.eq (.call 2 0 [(.call 2 1 [(.call 0 0 []), (.lit (.i 1)), (.call 1 0 [(.lit (.i 0))])]), (.lit (.i 0)), (.call 3 0 [(.lit (.i 5))])]) (.lit (.i 0)))) (.and (.and (.and (.eq (.len (.fld (.call 2 1 [(.call 2 1 [(.call 0 0 []), (.lit (.i 1)), (.call 1 0 [(.lit (.i 0))])]), (.lit (.i 0)), (.call 3 0 [(.lit (.i 5))])]) 0)) (.lit (.i 3))) (.eq (.get (.fld (.call 2 1 [(.call 2 1 [(.call 0 0 []), (.lit (.i 1)), (.call 1 0 [(.lit (.i 0))])]), (.lit (.i 0)), (.call 3 0 [(.lit (.i 5))])]) 0) (.lit (.i 1))) (.call 1 0 [(.lit (.i 0))]))) (.eq (.get (.fld (.call 2 1 [(.call 2 1 [(.call 0 0 []), (.lit (.i 1)), (.call 1 0 [(.lit (.i 0))])]), (.lit (.i 0)), (.call 3 0 [(.lit (.i 5))])]) 0) (.lit (.i 0))) (.call 3 0 [(.lit (.i 5))]))) (.eq (.call 4 0 [(.call 2 1 [(.call 2 1 [(.call 0 0 []), (.lit (.i 1)), (.call 1 0 [(.lit (.i 0))])]), (.lit (.i 0)), (.call 3 0 [(.lit (.i 5))])])]) (.lit (.i 2))))) (.eq (.call 5 0 [(.call 2 1 [(.call 2 1 [(.call 0 0 []), (.lit (.i 1)), (.call 1 0 [(.lit (.i 0))])]), (.lit (.i 0)), (.call 3 0 [(.lit (.i 5))])]), (.lit (.i 1)), (.lit (.i 3))]) (.lit (.i 0)))) (.eq (.len (.fld (.call 5 1 [(.call 2 1 [(.call 2 1 [(.call 0 0 []), (.lit (.i 1)), (.call 1 0 [(.lit (.i 0))])]), (.lit (.i 0)), (.call 3 0 [(.lit (.i 5))])]), (.lit (.i 1)), (.lit (.i 3))]) 2)) (.lit (.i 1)))) (.eq (.get (.fld (.call 5 1 [(.call 2 1 [(.call 2 1 [(.call 0 0 []), (.lit (.i 1)), (.call 1 0 [(.lit (.i 0))])]), (.lit (.i 0)), (.call 3 0 [(.lit (.i 5))])]), (.lit (.i 1)), (.lit (.i 3))]) 2) (.lit (.i 0))) (.mk [(.lit (.i 1)), (.call 1 0 [(.lit (.i 1))])]))) (.lit (.b .true))), (.imp (.and (.and (.and (.and (.and (.eq (.call 2 0 [(.call 0 0 []), (.lit (.i 1)), (.call 1 0 [(.lit (.i 0))])]) (.lit (.i 0))) (.eq (.call 2 0 [(.call 2 1 [(.call 0 0 []), (.lit (.i 1)), (.call 1 0 [(.lit (.i 0))])]), (.lit (.i 0)), (.call 3 0 [(.lit (.i 5))])]) (.lit (.i 0)))) (.and (.and (.and (.eq (.len (.fld (.call 2 1 [(.call 2 1 [(.call 0 0 []), (.lit (.i 1)), (.call 1 0 [(.lit (.i 0))])]), (.lit (.i 0)), (.call 3 0 [(.lit (.i 5))])]) 0)) (.lit (.i 3))) (.eq (.get (.fld (.call 2 1 [(.call 2 1 [(.call 0 0 []), (.lit (.i 1)), (.call 1 0 [(.lit (.i 0))])]), (.lit (.i 0)), (.call 3 0 [(.lit (.i 5))])]) 0) (.lit (.i 1))) (.call 1 0 [(.lit (.i 0))]))) (.eq (.get (.fld (.call 2 1 [(.call 2 1 [(.call 0 0 []), (.lit (.i 1)), (.call 1 0 [(.lit (.i 0))])]), (.lit (.i 0)), (.call 3 0 [(.lit (.i 5))])]) 0) (.lit (.i 0))) (.call 3 0 [(.lit (.i 5))]))) (.eq (.call 4 0 [(.call 2 1 [(.call 2 1 [(.call 0 0 []), (.lit (.i 1)), (.call 1 0 [(.lit (.i 0))])]), (.lit (.i 0)), (.call 3 0 [(.lit (.i 5))])])]) (.lit (.i 2))))) (.eq (.call 5 0 [(.call 2 1 [(.call 2 1 [(.call 0 0 []), (.lit (.i 1)), (.call 1 0 [(.lit (.i 0))])]), (.lit (.i 0)), (.call 3 0 [(.lit (.i 5))])]), (.lit (.i 1)), (.lit (.i 3))]) (.lit (.i 0)))) (.eq (.len (.fld (.call 5 1 [(.call 2 1 [(.call 2 1 [(.call 0 0 []), (.lit (.i 1)), (.call 1 0 [(.lit (.i 0))])]), (.lit (.i 0)), (.call 3 0 [(.lit (.i 5))])]), (.lit (.i 1)), (.lit (.i 3))]) 2)) (.lit (.i 1)))) (.eq (.get (.fld (.call 5 1 [(.call 2 1 [(.call 2 1 [(.call 0 0 []), (.lit (.i 1)), (.call 1 0 [(.lit (.i 0))])]), (.lit (.i 0)), (.call 3 0 [(.lit (.i 5))])]), (.lit (.i 1)), (.lit (.i 3))]) 2) (.lit (.i 0))) (.mk [(.lit (.i 1)), (.call 1 0 [(.lit (.i 1))])]))) (.lt (.lit (.i 0)) (.len (.fld (.call 5 1 [(.call 2 1 [(.call 2 1 [(.call 0 0 []), (.lit (.i 1)), (.call 1 0 [(.lit (.i 0))])]), (.lit (.i 0)), (.call 3 0 [(.lit (.i 5))])]), (.lit (.i 1)), (.lit (.i 3))]) 0)))), (.imp (.and (.and (.and (.and (.and (.eq (.call 2 0 [(.call 0 0 []), (.lit (.i 1)), (.call 1 0 [(.lit (.i 0))])]) (.lit (.i 0))) (.eq (.call 2 0 [(.call 2 1 [(.call 0 0 []), (.lit (.i 1)), (.call 1 0 [(.lit (.i 0))])]), (.lit (.i 0)), (.call 3 0 [(.lit (.i 5))])]) (.lit (.i 0)))) (.and (.and (.and (.eq (.len (.fld (.call 2 1 [(.call 2 1 [(.call 0 0 []), (.lit (.i 1)), (.call 1 0 [(.lit (.i 0))])]), (.lit (.i 0)), (.call 3 0 [(.lit (.i 5))])]) 0)) (.lit (.i 3))) (.eq (.get (.fld (.call 2 1 [(.call 2 1 [(.call 0 0 []), (.lit (.i 1)), (.call 1 0 [(.lit (.i 0))])]), (.lit (.i 0)), (.call 3 0 [(.lit (.i 5))])]) 0) (.lit (.i 1))) (.call 1 0 [(.lit (.i 0))]))) (.eq (.get (.fld (.call 2 1 [(.call 2 1 [(.call 0 0 []), (.lit (.i 1)), (.call 1 0 [(.lit (.i 0))])]), (.lit (.i 0)), (.call 3 0 [(.lit (.i 5))])]) 0) (.lit (.i 0))) (.call 3 0 [(.lit (.i 5))]))) (.eq (.call 4 0 [(.call 2 1 [(.call 2 1 [(.call 0 0 []), (.lit (.i 1)), (.call 1 0 [(.lit (.i 0))])]), (.lit (.i 0)), (.call 3 0 [(.lit (.i 5))])])]) (.lit (.i 2))))) (.eq (.call 5 0 [(.call 2 1 [(.call 2 1 [(.call 0 0 []), (.lit (.i 1)), (.call 1 0 [(.lit (.i 0))])]), (.lit (.i 0)), (.call 3 0 [(.lit (.i 5))])]), (.lit (.i 1)), (.lit (.i 3))]) (.lit (.i 0)))) (.eq (.len (.fld (.call 5 1 [(.call 2 1 [(.call 2 1 [(.call 0 0 []), (.lit (.i 1)), (.call 1 0 [(.lit (.i 0))])]), (.lit (.i 0)), (.call 3 0 [(.lit (.i 5))])]), (.lit (.i 1)), (.lit (.i 3))]) 2)) (.lit (.i 1)))) (.eq (.get (.fld (.call 5 1 [(.call 2 1 [(.call 2 1 [(.call 0 0 []), (.lit (.i 1)), (.call 1 0 [(.lit (.i 0))])]), (.lit (.i 0)), (.call 3 0 [(.lit (.i 5))])]), (.lit (.i 1)), (.lit (.i 3))]) 2) (.lit (.i 0))) (.mk [(.lit (.i 1)), (.call 1 0 [(.lit (.i 1))])]))) (.ok 1 [(.lit (.i 0))])), (.imp (.and (.and (.and (.and (.eq (.call 2 0 [(.call 0 0 []), (.lit (.i 1)), (.call 1 0 [(.lit (.i 0))])]) (.lit (.i 0))) (.eq (.call 2 0 [(.call 2 1 [(.call 0 0 []), (.lit (.i 1)), (.call 1 0 [(.lit (.i 0))])]), (.lit (.i 0)), (.call 3 0 [(.lit (.i 5))])]) (.lit (.i 0)))) (.and (.and (.and (.eq (.len (.fld (.call 2 1 [(.call 2 1 [(.call 0 0 []), (.lit (.i 1)), (.call 1 0 [(.lit (.i 0))])]), (.lit (.i 0)), (.call 3 0 [(.lit (.i 5))])]) 0)) (.lit (.i 3))) (.eq (.get (.fld (.call 2 1 [(.call 2 1 [(.call 0 0 []), (.lit (.i 1)), (.call 1 0 [(.lit (.i 0))])]), (.lit (.i 0)), (.call 3 0 [(.lit (.i 5))])]) 0) (.lit (.i 1))) (.call 1 0 [(.lit (.i 0))]))) (.eq (.get (.fld (.call 2 1 [(.call 2 1 [(.call 0 0 []), (.lit (.i 1)), (.call 1 0 [(.lit (.i 0))])]), (.lit (.i 0)), (.call 3 0 [(.lit (.i 5))])]) 0) (.lit (.i 0))) (.call 3 0 [(.lit (.i 5))]))) (.eq (.call 4 0 [(.call 2 1 [(.call 2 1 [(.call 0 0 []), (.lit (.i 1)), (.call 1 0 [(.lit (.i 0))])]), (.lit (.i 0)), (.call 3 0 [(.lit (.i 5))])])]) (.lit (.i 2))))) (.eq (.call 5 0 [(.call 2 1 [(.call 2 1 [(.call 0 0 []), (.lit (.i 1)), (.call 1 0 [(.lit (.i 0))])]), (.lit (.i 0)), (.call 3 0 [(.lit (.i 5))])]), (.lit (.i 1)), (.lit (.i 3))]) (.lit (.i 0)))) (.eq (.len (.fld (.call 5 1 [(.call 2 1 [(.call 2 1 [(.call 0 0 []), (.lit (.i 1)), (.call 1 0 [(.lit (.i 0))])]), (.lit (.i 0)), (.call 3 0 [(.lit (.i 5))])]), (.lit (.i 1)), (.lit (.i 3))]) 2)) (.lit (.i 1)))) (.ok 1 [(.lit (.i 1))])), (.imp (.and (.and (.and (.and (.eq (.call 2 0 [(.call 0 0 []), (.lit (.i 1)), (.call 1 0 [(.lit (.i 0))])]) (.lit (.i 0))) (.eq (.call 2 0 [(.call 2 1 [(.call 0 0 []), (.lit (.i 1)), (.call 1 0 [(.lit (.i 0))])]), (.lit (.i 0)), (.call 3 0 [(.lit (.i 5))])]) (.lit (.i 0)))) (.and (.and (.and (.eq (.len (.fld (.call 2 1 [(.call 2 1 [(.call 0 0 []), (.lit (.i 1)), (.call 1 0 [(.lit (.i 0))])]), (.lit (.i 0)), (.call 3 0 [(.lit (.i 5))])]) 0)) (.lit (.i 3))) (.eq (.get (.fld (.call 2 1 [(.call 2 1 [(.call 0 0 []), (.lit (.i 1)), (.call 1 0 [(.lit (.i 0))])]), (.lit (.i 0)), (.call 3 0 [(.lit (.i 5))])]) 0) (.lit (.i 1))) (.call 1 0 [(.lit (.i 0))]))) (.eq (.get (.fld (.call 2 1 [(.call 2 1 [(.call 0 0 []), (.lit (.i 1)), (.call 1 0 [(.lit (.i 0))])]), (.lit (.i 0)), (.call 3 0 [(.lit (.i 5))])]) 0) (.lit (.i 0))) (.call 3 0 [(.lit (.i 5))]))) (.eq (.call 4 0 [(.call 2 1 [(.call 2 1 [(.call 0 0 []), (.lit (.i 1)), (.call 1 0 [(.lit (.i 0))])]), (.lit (.i 0)), (.call 3 0 [(.lit (.i 5))])])]) (.lit (.i 2))))) (.eq (.call 5 0 [(.call 2 1 [(.call 2 1 [(.call 0 0 []), (.lit (.i 1)), (.call 1 0 [(.lit (.i 0))])]), (.lit (.i 0)), (.call 3 0 [(.lit (.i 5))])]), (.lit (.i 1)), (.lit (.i 3))]) (.lit (.i 0)))) (.eq (.len (.fld (.call 5 1 [(.call 2 1 [(.call 2 1 [(.call 0 0 []), (.lit (.i 1)), (.call 1 0 [(.lit (.i 0))])]), (.lit (.i 0)), (.call 3 0 [(.lit (.i 5))])]), (.lit (.i 1)), (.lit (.i 3))]) 2)) (.lit (.i 1)))) (.lit (.b .true))), (.imp (.and (.and (.and (.and (.eq (.call 2 0 [(.call 0 0 []), (.lit (.i 1)), (.call 1 0 [(.lit (.i 0))])]) (.lit (.i 0))) (.eq (.call 2 0 [(.call 2 1 [(.call 0 0 []), (.lit (.i 1)), (.call 1 0 [(.lit (.i 0))])]), (.lit (.i 0)), (.call 3 0 [(.lit (.i 5))])]) (.lit (.i 0)))) (.and (.and (.and (.eq (.len (.fld (.call 2 1 [(.call 2 1 [(.call 0 0 []), (.lit (.i 1)), (.call 1 0 [(.lit (.i 0))])]), (.lit (.i 0)), (.call 3 0 [(.lit (.i 5))])]) 0)) (.lit (.i 3))) (.eq (.get (.fld (.call 2 1 [(.call 2 1 [(.call 0 0 []), (.lit (.i 1)), (.call 1 0 [(.lit (.i 0))])]), (.lit (.i 0)), (.call 3 0 [(.lit (.i 5))])]) 0) (.lit (.i 1))) (.call 1 0 [(.lit (.i 0))]))) (.eq (.get (.fld (.call 2 1 [(.call 2 1 [(.call 0 0 []), (.lit (.i 1)), (.call 1 0 [(.lit (.i 0))])]), (.lit (.i 0)), (.call 3 0 [(.lit (.i 5))])]) 0) (.lit (.i 0))) (.call 3 0 [(.lit (.i 5))]))) (.eq (.call 4 0 [(.call 2 1 [(.call 2 1 [(.call 0 0 []), (.lit (.i 1)), (.call 1 0 [(.lit (.i 0))])]), (.lit (.i 0)), (.call 3 0 [(.lit (.i 5))])])]) (.lit (.i 2))))) (.eq (.call 5 0 [(.call 2 1 [(.call 2 1 [(.call 0 0 []), (.lit (.i 1)), (.call 1 0 [(.lit (.i 0))])]), (.lit (.i 0)), (.call 3 0 [(.lit (.i 5))])]), (.lit (.i 1)), (.lit (.i 3))]) (.lit (.i 0)))) (.eq (.len (.fld (.call 5 1 [(.call 2 1 [(.call 2 1 [(.call 0 0 []), (.lit (.i 1)), (.call 1 0 [(.lit (.i 0))])]), (.lit (.i 0)), (.call 3 0 [(.lit (.i 5))])]), (.lit (.i 1)), (.lit (.i 3))]) 2)) (.lit (.i 1)))) (.lt (.lit (.i 0)) (.len (.fld (.call 5 1 [(.call 2 1 [(.call 2 1 [(.call 0 0 []), (.lit (.i 1)), (.call 1 0 [(.lit (.i 0))])]), (.lit (.i 0)), (.call 3 0 [(.lit (.i 5))])]), (.lit (.i 1)), (.lit (.i 3))]) 2)))), (.imp (.and (.and (.and (.and (.eq (.call 2 0 [(.call 0 0 []), (.lit (.i 1)), (.call 1 0 [(.lit (.i 0))])]) (.lit (.i 0))) (.eq (.call 2 0 [(.call 2 1 [(.call 0 0 []), (.lit (.i 1)), (.call 1 0 [(.lit (.i 0))])]), (.lit (.i 0)), (.call 3 0 [(.lit (.i 5))])]) (.lit (.i 0)))) (.and (.and (.and (.eq (.len (.fld (.call 2 1 [(.call 2 1 [(.call 0 0 []), (.lit (.i 1)), (.call 1 0 [(.lit (.i 0))])]), (.lit (.i 0)), (.call 3 0 [(.lit (.i 5))])]) 0)) (.lit (.i 3))) (.eq (.get (.fld (.call 2 1 [(.call 2 1 [(.call 0 0 []), (.lit (.i 1)), (.call 1 0 [(.lit (.i 0))])]), (.lit (.i 0)), (.call 3 0 [(.lit (.i 5))])]) 0) (.lit (.i 1))) (.call 1 0 [(.lit (.i 0))]))) (.eq (.get (.fld (.call 2 1 [(.call 2 1 [(.call 0 0 []), (.lit (.i 1)), (.call 1 0 [(.lit (.i 0))])]), (.lit (.i 0)), (.call 3 0 [(.lit (.i 5))])]) 0) (.lit (.i 0))) (.call 3 0 [(.lit (.i 5))]))) (.eq (.call 4 0 [(.call 2 1 [(.call 2 1 [(.call 0 0 []), (.lit (.i 1)), (.call 1 0 [(.lit (.i 0))])]), (.lit (.i 0)), (.call 3 0 [(.lit (.i 5))])])]) (.lit (.i 2))))) (.eq (.call 5 0 [(.call 2 1 [(.call 2 1 [(.call 0 0 []), (.lit (.i 1)), (.call 1 0 [(.lit (.i 0))])]), (.lit (.i 0)), (.call 3 0 [(.lit (.i 5))])]), (.lit (.i 1)), (.lit (.i 3))]) (.lit (.i 0)))) (.eq (.len (.fld (.call 5 1 [(.call 2 1 [(.call 2 1 [(.call 0 0 []), (.lit (.i 1)), (.call 1 0 [(.lit (.i 0))])]), (.lit (.i 0)), (.call 3 0 [(.lit (.i 5))])]), (.lit (.i 1)), (.lit (.i 3))]) 2)) (.lit (.i 1)))) (.ok 1 [(.lit (.i 1))])), (.imp (.and (.and (.and (.and (.eq (.call 2 0 [(.call 0 0 []), (.lit (.i 1)), (.call 1 0 [(.lit (.i 0))])]) (.lit (.i 0))) (.eq (.call 2 0 [(.call 2 1 [(.call 0 0 []), (.lit (.i 1)), (.call 1 0 [(.lit (.i 0))])]), (.lit (.i 0)), (.call 3 0 [(.lit (.i 5))])]) (.lit (.i 0)))) (.and (.and (.and (.eq (.len (.fld (.call 2 1 [(.call 2 1 [(.call 0 0 []), (.lit (.i 1)), (.call 1 0 [(.lit (.i 0))])]), (.lit (.i 0)), (.call 3 0 [(.lit (.i 5))])]) 0)) (.lit (.i 3))) (.eq (.get (.fld (.call 2 1 [(.call 2 1 [(.call 0 0 []), (.lit (.i 1)), (.call 1 0 [(.lit (.i 0))])]), (.lit (.i 0)), (.call 3 0 [(.lit (.i 5))])]) 0) (.lit (.i 1))) (.call 1 0 [(.lit (.i 0))]))) (.eq (.get (.fld (.call 2 1 [(.call 2 1 [(.call 0 0 []), (.lit (.i 1)), (.call 1 0 [(.lit (.i 0))])]), (.lit (.i 0)), (.call 3 0 [(.lit (.i 5))])]) 0) (.lit (.i 0))) (.call 3 0 [(.lit (.i 5))]))) (.eq (.call 4 0 [(.call 2 1 [(.call 2 1 [(.call 0 0 []), (.lit (.i 1)), (.call 1 0 [(.lit (.i 0))])]), (.lit (.i 0)), (.call 3 0 [(.lit (.i 5))])])]) (.lit (.i 2))))) (.eq (.call 5 0 [(.call 2 1 [(.call 2 1 [(.call 0 0 []), (.lit (.i 1)), (.call 1 0 [(.lit (.i 0))])]), (.lit (.i 0)), (.call 3 0 [(.lit (.i 5))])]), (.lit (.i 1)), (.lit (.i 3))]) (.lit (.i 0)))) (.eq (.len (.fld (.call 5 1 [(.call 2 1 [(.call 2 1 [(.call 0 0 []), (.lit (.i 1)), (.call 1 0 [(.lit (.i 0))])]), (.lit (.i 0)), (.call 3 0 [(.lit (.i 5))])]), (.lit (.i 1)), (.lit (.i 3))]) 2)) (.lit (.i 1)))) (.lit (.b .true))), (.imp (.and (.and (.and (.and (.eq (.call 2 0 [(.call 0 0 []), (.lit (.i 1)), (.call 1 0 [(.lit (.i 0))])]) (.lit (.i 0))) (.eq (.call 2 0 [(.call 2 1 [(.call 0 0 []), (.lit (.i 1)), (.call 1 0 [(.lit (.i 0))])]), (.lit (.i 0)), (.call 3 0 [(.lit (.i 5))])]) (.lit (.i 0)))) (.and (.and (.and (.eq (.len (.fld (.call 2 1 [(.call 2 1 [(.call 0 0 []), (.lit (.i 1)), (.call 1 0 [(.lit (.i 0))])]), (.lit (.i 0)), (.call 3 0 [(.lit (.i 5))])]) 0)) (.lit (.i 3))) (.eq (.get (.fld (.call 2 1 [(.call 2 1 [(.call 0 0 []), (.lit (.i 1)), (.call 1 0 [(.lit (.i 0))])]), (.lit (.i 0)), (.call 3 0 [(.lit (.i 5))])]) 0) (.lit (.i 1))) (.call 1 0 [(.lit (.i 0))]))) (.eq (.get (.fld (.call 2 1 [(.call 2 1 [(.call 0 0 []), (.lit (.i 1)), (.call 1 0 [(.lit (.i 0))])]), (.lit (.i 0)), (.call 3 0 [(.lit (.i 5))])]) 0) (.lit (.i 0))) (.call 3 0 [(.lit (.i 5))]))) (.eq (.call 4 0 [(.call 2 1 [(.call 2 1 [(.call 0 0 []), (.lit (.i 1)), (.call 1 0 [(.lit (.i 0))])]), (.lit (.i 0)), (.call 3 0 [(.lit (.i 5))])])]) (.lit (.i 2))))) (.eq (.call 5 0 [(.call 2 1 [(.call 2 1 [(.call 0 0 []), (.lit (.i 1)), (.call 1 0 [(.lit (.i 0))])]), (.lit (.i 0)), (.call 3 0 [(.lit (.i 5))])]), (.lit (.i 1)), (.lit (.i 3))]) (.lit (.i 0)))) (.eq (.len (.fld (.call 5 1 [(.call 2 1 [(.call 2 1 [(.call 0 0 []), (.lit (.i 1)), (.call 1 0 [(.lit (.i 0))])]), (.lit (.i 0)), (.call 3 0 [(.lit (.i 5))])]), (.lit (.i 1)), (.lit (.i 3))]) 2)) (.lit (.i 1)))) (.lt (.lit (.i 0)) (.len (.fld (.call 5 1 [(.call 2 1 [(.call 2 1 [(.call 0 0 []), (.lit (.i 1)), (.call 1 0 [(.lit (.i 0))])]), (.lit (.i 0)), (.call 3 0 [(.lit (.i 5))])]), (.lit (.i 1)), (.lit (.i 3))]) 2)))), (.imp (.and (.and (.and (.and (.eq (.call 2 0 [(.call 0 0 []), (.lit (.i 1)), (.call 1 0 [(.lit (.i 0))])]) (.lit (.i 0))) (.eq (.call 2 0 [(.call 2 1 [(.call 0 0 []), (.lit (.i 1)), (.call 1 0 [(.lit (.i 0))])]), (.lit (.i 0)), (.call 3 0 [(.lit (.i 5))])]) (.lit (.i 0)))) (.and (.and (.and (.eq (.len (.fld (.call 2 1 [(.call 2 1 [(.call 0 0 []), (.lit (.i 1)), (.call 1 0 [(.lit (.i 0))])]), (.lit (.i 0)), (.call 3 0 [(.lit (.i 5))])]) 0)) (.lit (.i 3))) (.eq (.get (.fld (.call 2 1 [(.call 2 1 [(.call 0 0 []), (.lit (.i 1)), (.call 1 0 [(.lit (.i 0))])]), (.lit (.i 0)), (.call 3 0 [(.lit (.i 5))])]) 0) (.lit (.i 1))) (.call 1 0 [(.lit (.i 0))]))) (.eq (.get (.fld (.call 2 1 [(.call 2 1 [(.call 0 0 []), (.lit (.i 1)), (.call 1 0 [(.lit (.i 0))])]), (.lit (.i 0)), (.call 3 0 [(.lit (.i 5))])]) 0) (.lit (.i 0))) (.call 3 0 [(.lit (.i 5))]))) (.eq (.call 4 0 [(.call 2 1 [(.call 2 1 [(.call 0 0 []), (.lit (.i 1)), (.call 1 0 [(.lit (.i 0))])]), (.lit (.i 0)), (.call 3 0 [(.lit (.i 5))])])]) (.lit (.i 2))))) (.eq (.call 5 0 [(.call 2 1 [(.call 2 1 [(.call 0 0 []), (.lit (.i 1)), (.call 1 0 [(.lit (.i 0))])]), (.lit (.i 0)), (.call 3 0 [(.lit (.i 5))])]), (.lit (.i 1)), (.lit (.i 3))]) (.lit (.i 0)))) (.eq (.len (.fld (.call 5 1 [(.call 2 1 [(.call 2 1 [(.call 0 0 []), (.lit (.i 1)), (.call 1 0 [(.lit (.i 0))])]), (.lit (.i 0)), (.call 3 0 [(.lit (.i 5))])]), (.lit (.i 1)), (.lit (.i 3))]) 2)) (.lit (.i 1)))) (.ok 1 [(.lit (.i 1))]))] (.leaf [(.and (.and (.and (.and (.and (.and (.eq (.call 2 0 [(.call 0 0 []), (.lit (.i 1)), (.call 1 0 [(.lit (.i 0))])]) (.lit (.i 0))) (.eq (.call 2 0 [(.call 2 1 [(.call 0 0 []), (.lit (.i 1)), (.call 1 0 [(.lit (.i 0))])]), (.lit (.i 0)), (.call 3 0 [(.lit (.i 5))])]) (.lit (.i 0)))) (.and (.and (.and (.eq (.len (.fld (.call 2 1 [(.call 2 1 [(.call 0 0 []), (.lit (.i 1)), (.call 1 0 [(.lit (.i 0))])]), (.lit (.i 0)), (.call 3 0 [(.lit (.i 5))])]) 0)) (.lit (.i 3))) (.eq (.get (.fld (.call 2 1 [(.call 2 1 [(.call 0 0 []), (.lit (.i 1)), (.call 1 0 [(.lit (.i 0))])]), (.lit (.i 0)), (.call 3 0 [(.lit (.i 5))])]) 0) (.lit (.i 1))) (.call 1 0 [(.lit (.i 0))]))) (.eq (.get (.fld (.call 2 1 [(.call 2 1 [(.call 0 0 []), (.lit (.i 1)), (.call 1 0 [(.lit (.i 0))])]), (.lit (.i 0)), (.call 3 0 [(.lit (.i 5))])]) 0) (.lit (.i 0))) (.call 3 0 [(.lit (.i 5))]))) (.eq (.call 4 0 [(.call 2 1 [(.call 2 1 [(.call 0 0 []), (.lit (.i 1)), (.call 1 0 [(.lit (.i 0))])]), (.lit (.i 0)), (.call 3 0 [(.lit (.i 5))])])]) (.lit (.i 2))))) (.eq (.call 5 0 [(.call 2 1 [(.call 2 1 [(.call 0 0 []), (.lit (.i 1)), (.call 1 0 [(.lit (.i 0))])]), (.lit (.i 0)), (.call 3 0 [(.lit (.i 5))])]), (.lit (.i 1)), (.lit (.i 3))]) (.lit (.i 0)))) (.eq (.len (.fld (.call 5 1 [(.call 2 1 [(.call 2 1 [(.call 0 0 []), (.lit (.i 1)), (.call 1 0 [(.lit (.i 0))])]), (.lit (.i 0)), (.call 3 0 [(.lit (.i 5))])]), (.lit (.i 1)), (.lit (.i 3))]) 2)) (.lit (.i 1)))) (.eq (.get (.fld (.call 5 1 [(.call 2 1 [(.call 2 1 [(.call 0 0 []), (.lit (.i 1)), (.call 1 0 [(.lit (.i 0))])]), (.lit (.i 0)), (.call 3 0 [(.lit (.i 5))])]), (.lit (.i 1)), (.lit (.i 3))]) 2) (.lit (.i 0))) (.mk [(.lit (.i 1)), (.call 1 0 [(.lit (.i 1))])]))) (.eq (.get (.fld (.call 5 1 [(.call 2 1 [(.call 2 1 [(.call 0 0 []), (.lit (.i 1)), (.call 1 0 [(.lit (.i 0))])]), (.lit (.i 0)), (.call 3 0 [(.lit (.i 5))])]), (.lit (.i 1)), (.lit (.i 3))]) 0) (.lit (.i 0))) (.call 1 0 [(.lit (.i 0))])))])))))))
set_option maxRecDepth 100000 in
theorem code_law31_awake (g0 g1 g2 g3 g4 g5 : List D → Option (List D)) : ∀ cd, Try.f9.body = some cd → treeOf Try.prog [(ct_law31_three, g0), (ct_law31_ref, g1), (ct_trail_Set, g2), (ct_law31_num, g3), (ct_trail_Mark, g4), (ct_trail_Undo, g5)] ann_law31_awake ct_law31_awake Try.f9 cd = tree_law31_awake := by
  intro cd h
  injection h with h
  subst h
  kernel_rfl
theorem fok_law31_awake {g0 g1 g2 g3 g4 g5 : List D → Option (List D)} {g : List D → Option (List D)} (h0 : FOk ct_law31_three g0) (h1 : FOk ct_law31_ref g1) (h2 : FOk ct_trail_Set g2) (h3 : FOk ct_law31_num g3) (h4 : FOk ct_trail_Mark g4) (h5 : FOk ct_trail_Undo g5) (h : ∀ ds outs, WfA ct_law31_awake.ars ds → g ds = some outs → tree_law31_awake.go (tblS [(ct_law31_three, g0), (ct_law31_ref, g1), (ct_trail_Set, g2), (ct_law31_num, g3), (ct_trail_Mark, g4), (ct_trail_Undo, g5)]) (fun o => o = outs) ds fun _ _ => False) : FOk ct_law31_awake g :=
  fok_of ann_law31_awake Try.f9 _ (.cons h0 (.cons h1 (.cons h2 (.cons h3 (.cons h4 (.cons h5 .nil)))))) rfl rfl enter_law31_awake (by decide) fun ds outs hw hg => by rw [code_law31_awake g0 g1 g2 g3 g4 g5 _ rfl]; exact h ds outs hw hg

end Go.Proofs.Ytcjapglipkmbhaa

namespace Go.Proofs.Ytcjapglipkmbhaa
open Go.RowKit
set_option linter.unusedVariables false
set_option linter.unusedSimpArgs false

def cellAt (s : So) (i : Int) : Ce := s.cs.getD i.toNat default
def inS (s : So) (i : Int) : Bool := decide (0 ≤ i) && decide (i < s.cs.length)
def tagS (s : So) (i : Int) : Int := if inS s i then (cellAt s i).t else -1
def arS (s : So) (n : Int) : Int := if 0 ≤ n ∧ n < s.ys.length then (s.ys.getD n.toNat default).ar else -1
/-- A cell is valid: the reference's, the program's. -/
def vcR (s : So) (c : Ce) : Bool := if c.t = 0 then inS s c.n && !decide (tagS s c.n = 4) else if c.t = 1 then true else if c.t = 2 then decide (arS s c.n = 0) else if c.t = 3 then decide (tagS s c.n = 4) else if c.t = 5 then decide (tagS s c.n = 5) else false
def vcP (s : So) (c : Ce) : Bool := if c.t = 0 then decide (0 ≤ tagS s c.n) && !decide (tagS s c.n = 4) else if c.t = 1 then true else if c.t = 2 then decide (arS s c.n = 0) else if c.t = 3 then decide (tagS s c.n = 4) else if c.t = 5 then decide (tagS s c.n = 5) else false
/-- The two cells behind an attributed variable. -/
def groupS (s : So) (i : Int) : Bool := decide (tagS s (i + 1) = 1) && (decide (1 ≤ (cellAt s (i + 1)).n) && (decide ((cellAt s (i + 1)).n ≤ s.ser) && (decide (0 ≤ tagS s (i + 2)) && (!decide (tagS s (i + 2) = 4) && !decide (tagS s (i + 2) = 5)))))

def gSIi (f : So → Int → Int) : List D → Option (List D)
  | [s, i] => some [.i (f (dS s) i.int)]
  | _ => none
def gSIb (f : So → Int → Bool) : List D → Option (List D)
  | [s, i] => some [.b (f (dS s) i.int)]
  | _ => none
def gSIbP (q : So → Int → Bool) (f : So → Int → Bool) : List D → Option (List D)
  | [s, i] => if q (dS s) i.int then some [.b (f (dS s) i.int)] else none
  | _ => none
def gSCb (f : So → Ce → Bool) : List D → Option (List D)
  | [s, c] => some [.b (f (dS s) (dC c))]
  | _ => none
def gSUb (f : So → Un → Bool) : List D → Option (List D)
  | [s, c] => some [.b (f (dS s) (dU c))]
  | _ => none
def gSb (f : So → Bool) : List D → Option (List D)
  | [s] => some [.b (f (dS s))]
  | _ => none
def gSbP (q : So → Bool) (f : So → Bool) : List D → Option (List D)
  | [s] => if q (dS s) then some [.b (f (dS s))] else none
  | _ => none

theorem inS_iff {s : So} {i : Int} : inS s i = true ↔ 0 ≤ i ∧ i < s.cs.length := by simp [inS]
theorem cell_get {s : So} {i : Int} (h : inS s i = true) : (D.r (s.cs.map eC)).get i = eC (cellAt s i) := get_r eC (inS_iff.1 h).1 (inS_iff.1 h).2
theorem So.ok.cell {s : So} (hs : s.ok) {i : Int} (h : inS s i = true) : (cellAt s i).ok := hs.cs.2 _ (getD_mem (by have := inS_iff.1 h; omega))
theorem tagS_in {s : So} {i : Int} (h : inS s i = true) : tagS s i = (cellAt s i).t := if_pos h
theorem tagS_out {s : So} {i : Int} (h : inS s i = false) : tagS s i = -1 := if_neg (by rw [h]; decide)

theorem ok_ref30_ranged : FOk ct_ref30_ranged (gSIb inS) := fok_ref30_ranged fun ds outs hw hg => by
  obtain ⟨d, r, rfl, hd, e, r', rfl, he, rfl⟩ := hw
  obtain ⟨s, rfl, hs⟩ := wfS hd
  obtain ⟨i, rfl, hi⟩ := wfI he
  simp only [gSIb, dS_eS, int_i, Option.some.injEq] at hg
  subst hg
  simp only [tree_ref30_ranged, Tree.go, allSay, X.says, X.ev, X.evs, evl, tblS, List.getD_cons_zero, List.getD_cons_succ, List.getElem?_cons_zero, List.getElem?_cons_succ, tt_b, int_i, str_s, rs_r, Option.isSome_some, Option.getD_some, decide_eq_true_eq, decide_eq_false_iff_not, dS_eS, dC_eC, dU_eU, dW_eW, dY_eY, eC_0, eC_1, eU_0, eU_1, eW_0, eW_1, eW_2, eY_0, eY_1, eS_0, eS_1, eS_2, eS_3, eS_4, eS_5, List.length_map, i_inj, b_inj, s_inj, eC_eq, eU_eq, eW_eq, eY_eq, eS_eq, rng64, List.take_succ_cons, List.take_zero, List.nil_append, List.cons_append, decide_true, decide_false, Bool.or_true, true_and, and_true, inS]
theorem ok_ref30_tag : FOk ct_ref30_tag (gSIi tagS) := fok_ref30_tag ok_ref30_ranged fun ds outs hw hg => by
  obtain ⟨d, r, rfl, hd, e, r', rfl, he, rfl⟩ := hw
  obtain ⟨s, rfl, hs⟩ := wfS hd
  obtain ⟨i, rfl, hi⟩ := wfI he
  simp only [gSIi, dS_eS, int_i, Option.some.injEq] at hg
  subst hg
  simp only [tree_ref30_tag, Tree.go, allSay, X.says, X.ev, X.evs, evl, tblS, List.getD_cons_zero, List.getD_cons_succ, List.getElem?_cons_zero, List.getElem?_cons_succ, tt_b, int_i, str_s, rs_r, Option.isSome_some, Option.getD_some, decide_eq_true_eq, decide_eq_false_iff_not, dS_eS, dC_eC, dU_eU, dW_eW, dY_eY, eC_0, eC_1, eU_0, eU_1, eW_0, eW_1, eW_2, eY_0, eY_1, eS_0, eS_1, eS_2, eS_3, eS_4, eS_5, List.length_map, i_inj, b_inj, s_inj, eC_eq, eU_eq, eW_eq, eY_eq, eS_eq, rng64, List.take_succ_cons, List.take_zero, List.nil_append, List.cons_append, decide_true, decide_false, Bool.or_true, true_and, and_true, gSIb, true_and]
  cases h : inS s i with
  | false => simp [tagS_out h]
  | true =>
    have h' := inS_iff.1 h
    simp [cell_get h, eC_0, tagS_in h, h']
theorem ok_cells_tag : FOk ct_cells_tag (gSIi tagS) := fok_cells_tag fun ds outs hw hg => by
  obtain ⟨d, r, rfl, hd, e, r', rfl, he, rfl⟩ := hw
  obtain ⟨s, rfl, hs⟩ := wfS hd
  obtain ⟨i, rfl, hi⟩ := wfI he
  simp only [gSIi, dS_eS, int_i, Option.some.injEq] at hg
  subst hg
  simp only [tree_cells_tag, Tree.go, allSay, X.says, X.ev, X.evs, evl, tblS, List.getD_cons_zero, List.getD_cons_succ, List.getElem?_cons_zero, List.getElem?_cons_succ, tt_b, int_i, str_s, rs_r, Option.isSome_some, Option.getD_some, decide_eq_true_eq, decide_eq_false_iff_not, dS_eS, dC_eC, dU_eU, dW_eW, dY_eY, eC_0, eC_1, eU_0, eU_1, eW_0, eW_1, eW_2, eY_0, eY_1, eS_0, eS_1, eS_2, eS_3, eS_4, eS_5, List.length_map, i_inj, b_inj, s_inj, eC_eq, eU_eq, eW_eq, eY_eq, eS_eq, rng64, List.take_succ_cons, List.take_zero, List.nil_append, List.cons_append, decide_true, decide_false, Bool.or_true, true_and, and_true, true_and]
  cases h : inS s i with
  | false =>
    have h' : ¬ (0 ≤ i ∧ i < s.cs.length) := fun q => by rw [inS_iff.2 q] at h; cases h
    have h2 : i < 0 ∨ (s.cs.length : Int) ≤ i := by omega
    simp [tagS_out h]
    omega
  | true =>
    have h' := inS_iff.1 h
    have h1 : ¬ i < 0 := by omega
    have h2 : ¬ (s.cs.length : Int) ≤ i := by omega
    simp [cell_get h, eC_0, tagS_in h, h', h1, h2]
theorem ar_get {s : So} {i : Int} (h : 0 ≤ i ∧ i < s.ys.length) : (D.r (s.ys.map eY)).get i = eY (s.ys.getD i.toNat default) := get_r eY h.1 h.2
theorem ok_ref30_arity : FOk ct_ref30_arity (gSIi arS) := fok_ref30_arity fun ds outs hw hg => by
  obtain ⟨d, r, rfl, hd, e, r', rfl, he, rfl⟩ := hw
  obtain ⟨s, rfl, hs⟩ := wfS hd
  obtain ⟨i, rfl, hi⟩ := wfI he
  simp only [gSIi, dS_eS, int_i, Option.some.injEq] at hg
  subst hg
  simp only [tree_ref30_arity, Tree.go, allSay, X.says, X.ev, X.evs, evl, tblS, List.getD_cons_zero, List.getD_cons_succ, List.getElem?_cons_zero, List.getElem?_cons_succ, tt_b, int_i, str_s, rs_r, Option.isSome_some, Option.getD_some, decide_eq_true_eq, decide_eq_false_iff_not, dS_eS, dC_eC, dU_eU, dW_eW, dY_eY, eC_0, eC_1, eU_0, eU_1, eW_0, eW_1, eW_2, eY_0, eY_1, eS_0, eS_1, eS_2, eS_3, eS_4, eS_5, List.length_map, i_inj, b_inj, s_inj, eC_eq, eU_eq, eW_eq, eY_eq, eS_eq, rng64, List.take_succ_cons, List.take_zero, List.nil_append, List.cons_append, decide_true, decide_false, Bool.or_true, true_and, and_true, true_and]
  by_cases h : 0 ≤ i ∧ i < s.ys.length
  · have h1 : ¬ i < 0 := by omega
    have h2 : ¬ (s.ys.length : Int) ≤ i := by omega
    simp [ar_get h, eY_1, arS, h, h1, h2]
  · simp [arS, h]
theorem ok_cells_arity : FOk ct_cells_arity (gSIi arS) := fok_cells_arity fun ds outs hw hg => by
  obtain ⟨d, r, rfl, hd, e, r', rfl, he, rfl⟩ := hw
  obtain ⟨s, rfl, hs⟩ := wfS hd
  obtain ⟨i, rfl, hi⟩ := wfI he
  simp only [gSIi, dS_eS, int_i, Option.some.injEq] at hg
  subst hg
  simp only [tree_cells_arity, Tree.go, allSay, X.says, X.ev, X.evs, evl, tblS, List.getD_cons_zero, List.getD_cons_succ, List.getElem?_cons_zero, List.getElem?_cons_succ, tt_b, int_i, str_s, rs_r, Option.isSome_some, Option.getD_some, decide_eq_true_eq, decide_eq_false_iff_not, dS_eS, dC_eC, dU_eU, dW_eW, dY_eY, eC_0, eC_1, eU_0, eU_1, eW_0, eW_1, eW_2, eY_0, eY_1, eS_0, eS_1, eS_2, eS_3, eS_4, eS_5, List.length_map, i_inj, b_inj, s_inj, eC_eq, eU_eq, eW_eq, eY_eq, eS_eq, rng64, List.take_succ_cons, List.take_zero, List.nil_append, List.cons_append, decide_true, decide_false, Bool.or_true, true_and, and_true, true_and]
  by_cases h : 0 ≤ i ∧ i < s.ys.length
  · have h1 : ¬ i < 0 := by omega
    have h2 : ¬ (s.ys.length : Int) ≤ i := by omega
    simp [ar_get h, eY_1, arS, h, h1, h2]
  · simp [arS, h]
theorem ok_ref30_ValidCell : FOk ct_ref30_ValidCell (gSCb vcR) := fok_ref30_ValidCell ok_ref30_ranged ok_ref30_tag ok_ref30_arity fun ds outs hw hg => by
  obtain ⟨d, r, rfl, hd, e, r', rfl, he, rfl⟩ := hw
  obtain ⟨s, rfl, hs⟩ := wfS hd
  obtain ⟨c, rfl, hc⟩ := wfC he
  simp only [gSCb, dS_eS, dC_eC, Option.some.injEq] at hg
  subst hg
  simp only [tree_ref30_ValidCell, Tree.go, allSay, X.says, X.ev, X.evs, evl, tblS, List.getD_cons_zero, List.getD_cons_succ, List.getElem?_cons_zero, List.getElem?_cons_succ, tt_b, int_i, str_s, rs_r, Option.isSome_some, Option.getD_some, decide_eq_true_eq, decide_eq_false_iff_not, dS_eS, dC_eC, dU_eU, dW_eW, dY_eY, eC_0, eC_1, eU_0, eU_1, eW_0, eW_1, eW_2, eY_0, eY_1, eS_0, eS_1, eS_2, eS_3, eS_4, eS_5, List.length_map, i_inj, b_inj, s_inj, eC_eq, eU_eq, eW_eq, eY_eq, eS_eq, rng64, List.take_succ_cons, List.take_zero, List.nil_append, List.cons_append, decide_true, decide_false, Bool.or_true, true_and, and_true, gSIb, gSIi, vcR, true_and]
  by_cases h0 : c.t = 0
  · simp [h0]
  · by_cases h1 : c.t = 1
    · simp [h1]
    · by_cases h2 : c.t = 2
      · simp [h2]
      · by_cases h3 : c.t = 3
        · simp [h3]
        · by_cases h5 : c.t = 5
          · simp [h5]
          · simp [h0, h1, h2, h3, h5]
theorem ok_cells_ValidCell : FOk ct_cells_ValidCell (gSCb vcP) := fok_cells_ValidCell ok_cells_arity ok_cells_tag fun ds outs hw hg => by
  obtain ⟨d, r, rfl, hd, e, r', rfl, he, rfl⟩ := hw
  obtain ⟨s, rfl, hs⟩ := wfS hd
  obtain ⟨c, rfl, hc⟩ := wfC he
  simp only [gSCb, dS_eS, dC_eC, Option.some.injEq] at hg
  subst hg
  simp only [tree_cells_ValidCell, Tree.go, allSay, X.says, X.ev, X.evs, evl, tblS, List.getD_cons_zero, List.getD_cons_succ, List.getElem?_cons_zero, List.getElem?_cons_succ, tt_b, int_i, str_s, rs_r, Option.isSome_some, Option.getD_some, decide_eq_true_eq, decide_eq_false_iff_not, dS_eS, dC_eC, dU_eU, dW_eW, dY_eY, eC_0, eC_1, eU_0, eU_1, eW_0, eW_1, eW_2, eY_0, eY_1, eS_0, eS_1, eS_2, eS_3, eS_4, eS_5, List.length_map, i_inj, b_inj, s_inj, eC_eq, eU_eq, eW_eq, eY_eq, eS_eq, rng64, List.take_succ_cons, List.take_zero, List.nil_append, List.cons_append, decide_true, decide_false, Bool.or_true, true_and, and_true, gSIi, vcP, true_and]
  by_cases h0 : c.t = 0
  · simp [h0]
  · by_cases h1 : c.t = 1
    · simp [h1]
    · by_cases h2 : c.t = 2
      · simp [h2]
      · by_cases h3 : c.t = 3
        · simp [h3]
        · by_cases h5 : c.t = 5
          · simp [h5]
          · simp [h0, h1, h2, h3, h5]
theorem tag_in {s : So} {i : Int} (h : tagS s i = 1) : inS s i = true := by
  cases hi : inS s i with
  | true => rfl
  | false => rw [tagS_out hi] at h; cases h
theorem ok_ref30_group : FOk ct_ref30_group (gSIbP inS groupS) := fok_ref30_group ok_ref30_tag fun ds outs hw hg => by
  obtain ⟨d, r, rfl, hd, e, r', rfl, he, rfl⟩ := hw
  obtain ⟨s, rfl, hs⟩ := wfS hd
  obtain ⟨i, rfl, hi⟩ := wfI he
  simp only [gSIbP, dS_eS, int_i, Option.ite_none_right_eq_some, Option.some.injEq] at hg
  obtain ⟨hin, rfl⟩ := hg
  have h1 := inS_iff.1 hin
  have hl := hs.cs.1
  simp only [LIM] at hl
  have r1 : i64 (i + 1) := ⟨by omega, by omega⟩
  have r2 : i64 (i + 2) := ⟨by omega, by omega⟩
  simp only [tree_ref30_group, Tree.go, allSay, X.says, X.ev, X.evs, evl, tblS, List.getD_cons_zero, List.getD_cons_succ, List.getElem?_cons_zero, List.getElem?_cons_succ, tt_b, int_i, str_s, rs_r, Option.isSome_some, Option.getD_some, decide_eq_true_eq, decide_eq_false_iff_not, dS_eS, dC_eC, dU_eU, dW_eW, dY_eY, eC_0, eC_1, eU_0, eU_1, eW_0, eW_1, eW_2, eY_0, eY_1, eS_0, eS_1, eS_2, eS_3, eS_4, eS_5, List.length_map, i_inj, b_inj, s_inj, eC_eq, eU_eq, eW_eq, eY_eq, eS_eq, rng64, List.take_succ_cons, List.take_zero, List.nil_append, List.cons_append, decide_true, decide_false, Bool.or_true, true_and, and_true, gSIi, true_and, groupS, r1, r2]
  by_cases ht : tagS s (i + 1) = 1
  · have h2 := tag_in ht
    have h3 := inS_iff.1 h2
    simp [ht, cell_get h2, eC_1, h3.1, h3.2, int_i, Bool.and_assoc, rng64, r1.1, r1.2]
  · simp [ht]
theorem ok_cells_group : FOk ct_cells_group (gSIbP inS groupS) := fok_cells_group ok_cells_tag fun ds outs hw hg => by
  obtain ⟨d, r, rfl, hd, e, r', rfl, he, rfl⟩ := hw
  obtain ⟨s, rfl, hs⟩ := wfS hd
  obtain ⟨i, rfl, hi⟩ := wfI he
  simp only [gSIbP, dS_eS, int_i, Option.ite_none_right_eq_some, Option.some.injEq] at hg
  obtain ⟨hin, rfl⟩ := hg
  have h1 := inS_iff.1 hin
  have hl := hs.cs.1
  simp only [LIM] at hl
  have r1 : i64 (i + 1) := ⟨by omega, by omega⟩
  have r2 : i64 (i + 2) := ⟨by omega, by omega⟩
  simp only [tree_cells_group, Tree.go, allSay, X.says, X.ev, X.evs, evl, tblS, List.getD_cons_zero, List.getD_cons_succ, List.getElem?_cons_zero, List.getElem?_cons_succ, tt_b, int_i, str_s, rs_r, Option.isSome_some, Option.getD_some, decide_eq_true_eq, decide_eq_false_iff_not, dS_eS, dC_eC, dU_eU, dW_eW, dY_eY, eC_0, eC_1, eU_0, eU_1, eW_0, eW_1, eW_2, eY_0, eY_1, eS_0, eS_1, eS_2, eS_3, eS_4, eS_5, List.length_map, i_inj, b_inj, s_inj, eC_eq, eU_eq, eW_eq, eY_eq, eS_eq, rng64, List.take_succ_cons, List.take_zero, List.nil_append, List.cons_append, decide_true, decide_false, Bool.or_true, true_and, and_true, gSIi, true_and, groupS, r1, r2]
  by_cases ht : tagS s (i + 1) = 1
  · have h2 := tag_in ht
    have h3 := inS_iff.1 h2
    simp [ht, cell_get h2, eC_1, h3.1, h3.2, int_i, Bool.and_assoc, rng64, r1.1, r1.2]
  · simp [ht]
end Go.Proofs.Ytcjapglipkmbhaa

namespace Go.Proofs.Ytcjapglipkmbhaa
open Go.RowKit
set_option linter.unusedVariables false
set_option linter.unusedSimpArgs false

theorem mfind_mset {k k' v : D} : ∀ {l : List D}, mfind k (mset k' v l) = if k' = k then some v else mfind k l
  | [] => by simp [mset, mfind, D.fld, D.fs]
  | p :: l => by
    unfold mset
    split
    · rename_i h
      by_cases hk : k' = k
      · simp [mfind, D.fld, D.fs, hk]
      · have : ¬ (p.fld 0 = k) := fun e => hk (h.symm.trans e)
        simp [mfind, D.fld, D.fs, hk, this]
        intro e
        exact absurd e this
    · rename_i h
      unfold mfind
      by_cases hk : p.fld 0 = k
      · have : ¬ (k' = k) := fun e => h (hk.trans e.symm)
        simp [hk, this]
      · simp only [if_neg hk]
        exact mfind_mset

def okY (y : Sy) : Bool := decide (y.name.size ≤ 100) && (decide (0 ≤ y.ar) && decide (y.ar ≤ 8))
def symAt (l : List Sy) (k : Nat) : Bool := okY (l.getD k default) && !decide (l.getD k default ∈ l.take k)
def symsB (l : List Sy) : Bool := decide (l.length ≤ 1048576) && (List.range l.length).all (symAt l)
def gYsb (f : List Sy → Bool) : List D → Option (List D)
  | [l] => some [.b (f (l.rs.map dY))]
  | _ => none

/-- The map of those that were seen. -/
def Seen (x : D) (l : List Sy) (k : Nat) (L : List D) : Prop := ∀ y, mfind (eY y) L = if y ∈ l.take k then some x else none
theorem Seen.nil {x : D} {l : List Sy} : Seen x l 0 [] := fun y => by simp [mfind]
theorem Seen.put {x : D} {l : List Sy} {k : Nat} {L : List D} (h : Seen x l k L) (hk : k < l.length) : Seen x l (k + 1) (mset (eY (l.getD k default)) x L) := fun y => by
  rw [mfind_mset, take_snoc hk, h y]
  generalize l.getD k default = z
  by_cases hy : y = z
  · subst hy; simp
  · have : ¬ (z = y) := fun e => hy e.symm
    simp [eY_eq, this, hy]

theorem ok_ref30_symbols : FOk ct_ref30_symbols (gYsb symsB) := fok_ref30_symbols fun ds outs hw hg => by
  obtain ⟨d, r, rfl, hd, rfl⟩ := hw
  obtain ⟨l, rfl, hl, hok⟩ := wfYs hd
  simp only [gYsb, rs_r, map_id' dY_eY, Option.some.injEq] at hg
  subst hg
  simp only [LIM] at hl
  simp only [tree_ref30_symbols, Tree.go, allSay, X.says, X.ev, X.evs, evl, tblS, List.getD_cons_zero, List.getD_cons_succ, List.getElem?_cons_zero, List.getElem?_cons_succ, tt_b, int_i, str_s, rs_r, Option.isSome_some, Option.getD_some, decide_eq_true_eq, decide_eq_false_iff_not, dS_eS, dC_eC, dU_eU, dW_eW, dY_eY, eC_0, eC_1, eU_0, eU_1, eW_0, eW_1, eW_2, eY_0, eY_1, eS_0, eS_1, eS_2, eS_3, eS_4, eS_5, List.length_map, i_inj, b_inj, s_inj, eC_eq, eU_eq, eW_eq, eY_eq, eS_eq, rng64, List.take_succ_cons, List.take_zero, List.nil_append, List.cons_append, decide_true, decide_false, Bool.or_true, true_and, and_true, symsB]
  refine ⟨fun h => ?_, fun h => ?_⟩
  · have : ¬ (l.length ≤ 1048576) := by omega
    simp [this]
  · have h0 : l.length ≤ 1048576 := by omega
    refine ⟨fun st => ∃ (k : Nat) (L : List D), k ≤ l.length ∧ st = [.b false, .i k, .mp L] ∧ (∀ j, j < k → symAt l j = true) ∧ Seen (.i 1) l k L, fun st => l.length - (st.getD 1 .u).int.toNat, ⟨0, [], Nat.zero_le _, rfl, (fun j hj => absurd hj (Nat.not_lt_zero _)), Seen.nil⟩, ?_⟩
    rintro st - ⟨k, L, hk, rfl, hP, hL⟩
    simp only [Tree.go, allSay, X.says, X.ev, X.evs, evl, tblS, List.getD_cons_zero, List.getD_cons_succ, List.getElem?_cons_zero, List.getElem?_cons_succ, tt_b, int_i, str_s, rs_r, Option.isSome_some, Option.getD_some, decide_eq_true_eq, decide_eq_false_iff_not, dS_eS, dC_eC, dU_eU, dW_eW, dY_eY, eC_0, eC_1, eU_0, eU_1, eW_0, eW_1, eW_2, eY_0, eY_1, eS_0, eS_1, eS_2, eS_3, eS_4, eS_5, List.length_map, i_inj, b_inj, s_inj, eC_eq, eU_eq, eW_eq, eY_eq, eS_eq, rng64, List.take_succ_cons, List.take_zero, List.nil_append, List.cons_append, decide_true, decide_false, Bool.or_true, true_and, and_true]
    refine ⟨fun hlt => ?_, fun hlt => ?_⟩
    · have hkl : k < l.length := by omega
      have hp : (0 : Int) ≤ k := by omega
      simp only [hlt, hp, get_n eY hkl, eY_0, eY_1, str_s, int_i, true_and, Bool.or_true, decide_true, and_true, Int.toNat_natCast, fnD, ms_mp, hL (l.getD k default)]
      have hr : i64 ((k : Int) + 1) := ⟨by omega, by omega⟩
      have e : (if l.getD k default ∈ l.take k then some (D.i 1) else none).getD (.i 0) = .i (if l.getD k default ∈ l.take k then 1 else 0) := by split <;> rfl
      rw [e]
      refine ⟨fun hb => ?_, fun hb => ⟨hr, ?_⟩⟩
      · have : symAt l k = false := by
          simp only [symAt, okY]
          generalize l.getD k default = z at hb ⊢
          by_cases hm : z ∈ l.take k
          · simp [hm]
          · simp [hm] at hb ⊢
            intro h1 h2
            omega
        rw [all_not hkl this]
        simp
      · have hs : symAt l k = true := by
          simp only [symAt, okY]
          generalize l.getD k default = z at hb ⊢
          by_cases hm : z ∈ l.take k
          · simp [hm] at hb
          · simp [hm] at hb ⊢
            omega
        rw [updB, if_pos rfl]
        refine ⟨⟨k + 1, _, hkl, ?_, upto_succ hP hs, hL.put hkl⟩, ?_⟩
        · simp
        · simp [D.int]
          omega
    · have : k = l.length := by omega
      subst this
      rw [all_yes hP]
      simp [h0]
theorem ok_cells_validSymbols : FOk ct_cells_validSymbols (gYsb symsB) := fok_cells_validSymbols fun ds outs hw hg => by
  obtain ⟨d, r, rfl, hd, rfl⟩ := hw
  obtain ⟨l, rfl, hl, hok⟩ := wfYs hd
  simp only [gYsb, rs_r, map_id' dY_eY, Option.some.injEq] at hg
  subst hg
  simp only [LIM] at hl
  simp only [tree_cells_validSymbols, Tree.go, allSay, X.says, X.ev, X.evs, evl, tblS, List.getD_cons_zero, List.getD_cons_succ, List.getElem?_cons_zero, List.getElem?_cons_succ, tt_b, int_i, str_s, rs_r, Option.isSome_some, Option.getD_some, decide_eq_true_eq, decide_eq_false_iff_not, dS_eS, dC_eC, dU_eU, dW_eW, dY_eY, eC_0, eC_1, eU_0, eU_1, eW_0, eW_1, eW_2, eY_0, eY_1, eS_0, eS_1, eS_2, eS_3, eS_4, eS_5, List.length_map, i_inj, b_inj, s_inj, eC_eq, eU_eq, eW_eq, eY_eq, eS_eq, rng64, List.take_succ_cons, List.take_zero, List.nil_append, List.cons_append, decide_true, decide_false, Bool.or_true, true_and, and_true, symsB]
  refine ⟨fun h => ?_, fun h => ?_⟩
  · have : ¬ (l.length ≤ 1048576) := by omega
    simp [this]
  · have h0 : l.length ≤ 1048576 := by omega
    refine ⟨fun st => ∃ (k : Nat) (L : List D), k ≤ l.length ∧ st = [.b false, .i k, .mp L] ∧ (∀ j, j < k → symAt l j = true) ∧ Seen (.b true) l k L, fun st => l.length - (st.getD 1 .u).int.toNat, ⟨0, [], Nat.zero_le _, rfl, (fun j hj => absurd hj (Nat.not_lt_zero _)), Seen.nil⟩, ?_⟩
    rintro st - ⟨k, L, hk, rfl, hP, hL⟩
    simp only [Tree.go, allSay, X.says, X.ev, X.evs, evl, tblS, List.getD_cons_zero, List.getD_cons_succ, List.getElem?_cons_zero, List.getElem?_cons_succ, tt_b, int_i, str_s, rs_r, Option.isSome_some, Option.getD_some, decide_eq_true_eq, decide_eq_false_iff_not, dS_eS, dC_eC, dU_eU, dW_eW, dY_eY, eC_0, eC_1, eU_0, eU_1, eW_0, eW_1, eW_2, eY_0, eY_1, eS_0, eS_1, eS_2, eS_3, eS_4, eS_5, List.length_map, i_inj, b_inj, s_inj, eC_eq, eU_eq, eW_eq, eY_eq, eS_eq, rng64, List.take_succ_cons, List.take_zero, List.nil_append, List.cons_append, decide_true, decide_false, Bool.or_true, true_and, and_true]
    refine ⟨fun hlt => ?_, fun hlt => ?_⟩
    · have hkl : k < l.length := by omega
      have hp : (0 : Int) ≤ k := by omega
      simp only [hlt, hp, get_n eY hkl, eY_0, eY_1, str_s, int_i, true_and, Bool.or_true, decide_true, and_true, Int.toNat_natCast, fnD, ms_mp, hL (l.getD k default)]
      have hr : i64 ((k : Int) + 1) := ⟨by omega, by omega⟩
      have e : ((if l.getD k default ∈ l.take k then some (D.b true) else none).getD (.b false)).tt = decide (l.getD k default ∈ l.take k) := by
        by_cases hm : l.getD k default ∈ l.take k
        · rw [if_pos hm, decide_eq_true hm]; rfl
        · rw [if_neg hm, decide_eq_false hm]; rfl
      rw [e]
      refine ⟨fun hb => ?_, fun hb => ⟨hr, ?_⟩⟩
      · have : symAt l k = false := by
          simp only [symAt, okY]
          generalize l.getD k default = z at hb ⊢
          by_cases hm : z ∈ l.take k
          · simp [hm]
          · simp [hm] at hb ⊢
            intro h1 h2
            omega
        rw [all_not hkl this]
        simp
      · have hs : symAt l k = true := by
          simp only [symAt, okY]
          generalize l.getD k default = z at hb ⊢
          by_cases hm : z ∈ l.take k
          · simp [hm] at hb
          · simp [hm] at hb ⊢
            omega
        rw [updB, if_pos rfl]
        refine ⟨⟨k + 1, _, hkl, ?_, upto_succ hP hs, hL.put hkl⟩, ?_⟩
        · simp
        · simp [D.int]
          omega
    · have : k = l.length := by omega
      subst this
      rw [all_yes hP]
      simp [h0]
end Go.Proofs.Ytcjapglipkmbhaa

namespace Go.Proofs.Ytcjapglipkmbhaa
open Go.RowKit
set_option linter.unusedVariables false
set_option linter.unusedSimpArgs false

theorem symsB_ar {s : So} (h : symsB s.ys = true) (n : Int) : -1 ≤ arS s n ∧ arS s n ≤ 8 := by
  unfold arS
  split
  · rename_i hn
    simp only [symsB, Bool.and_eq_true] at h
    have := all_of h.2 (k := n.toNat) (by omega)
    simp only [symAt, okY, Bool.and_eq_true, decide_eq_true_eq] at this
    omega
  · omega
theorem symsB_len {s : So} (h : symsB s.ys = true) : s.ys.length ≤ 1048576 := by
  simp only [symsB, Bool.and_eq_true, decide_eq_true_eq] at h
  exact h.1

/-- The references that begin at an address end. -/
def endsN (s : So) : Nat → Int → Bool
  | 0, _ => false
  | k + 1, n => if tagS s n = 0 ∧ ¬ (cellAt s n).n = n then endsN s k (cellAt s n).n else true
def endsB (s : So) (n : Int) : Bool := endsN s (s.cs.length + 1) n

theorem tag_in' {s : So} {i : Int} {t : Int} (ht : t ≠ -1) (h : tagS s i = t) : inS s i = true := by
  cases hi : inS s i with
  | true => rfl
  | false => rw [tagS_out hi] at h; exact absurd h.symm ht

theorem ok_ref30_ends : FOk ct_ref30_ends (gSIb endsB) := fok_ref30_ends ok_ref30_tag fun ds outs hw hg => by
  obtain ⟨d, r, rfl, hd, e, r', rfl, he, rfl⟩ := hw
  obtain ⟨s, rfl, hs⟩ := wfS hd
  obtain ⟨i, rfl, hi⟩ := wfI he
  simp only [gSIb, dS_eS, int_i, Option.some.injEq] at hg
  subst hg
  have hl := hs.cs.1
  simp only [LIM] at hl
  simp only [tree_ref30_ends, Tree.go, allSay, X.says, X.ev, X.evs, evl, tblS, List.getD_cons_zero, List.getD_cons_succ, List.getElem?_cons_zero, List.getElem?_cons_succ, tt_b, int_i, str_s, rs_r, Option.isSome_some, Option.getD_some, decide_eq_true_eq, decide_eq_false_iff_not, dS_eS, dC_eC, dU_eU, dW_eW, dY_eY, eC_0, eC_1, eU_0, eU_1, eW_0, eW_1, eW_2, eY_0, eY_1, eS_0, eS_1, eS_2, eS_3, eS_4, eS_5, List.length_map, i_inj, b_inj, s_inj, eC_eq, eU_eq, eW_eq, eY_eq, eS_eq, rng64, List.take_succ_cons, List.take_zero, List.nil_append, List.cons_append, decide_true, decide_false, Bool.or_true, true_and, and_true, gSIi]
  refine ⟨fun st => ∃ (k : Nat) (m : Int), k ≤ s.cs.length + 1 ∧ st = [.b false, .i m, .i k] ∧ endsN s (s.cs.length + 1 - k) m = endsB s i, fun st => s.cs.length + 1 - (st.getD 2 .u).int.toNat, ⟨0, i, Nat.zero_le _, rfl, rfl⟩, ?_⟩
  rintro st - ⟨k, m, hk, rfl, hP⟩
  simp only [Tree.go, allSay, X.says, X.ev, X.evs, evl, tblS, List.getD_cons_zero, List.getD_cons_succ, List.getElem?_cons_zero, List.getElem?_cons_succ, tt_b, int_i, str_s, rs_r, Option.isSome_some, Option.getD_some, decide_eq_true_eq, decide_eq_false_iff_not, dS_eS, dC_eC, dU_eU, dW_eW, dY_eY, eC_0, eC_1, eU_0, eU_1, eW_0, eW_1, eW_2, eY_0, eY_1, eS_0, eS_1, eS_2, eS_3, eS_4, eS_5, List.length_map, i_inj, b_inj, s_inj, eC_eq, eU_eq, eW_eq, eY_eq, eS_eq, rng64, List.take_succ_cons, List.take_zero, List.nil_append, List.cons_append, decide_true, decide_false, Bool.or_true, true_and, and_true, gSIi]
  refine ⟨fun hlt => ?_, fun hlt => ?_⟩
  · have hkl : k ≤ s.cs.length := by omega
    have hr : i64 ((k : Int) + 1) := ⟨by omega, by omega⟩
    obtain ⟨n, hn⟩ : ∃ n, s.cs.length + 1 - k = n + 1 := ⟨s.cs.length - k, by omega⟩
    rw [hn] at hP
    unfold endsN at hP
    have hn2 : s.cs.length + 1 - (k + 1) = n := by omega
    by_cases ht : tagS s m = 0
    · have hin := tag_in' (by decide) ht
      have h3 := inS_iff.1 hin
      simp only [ht, cell_get hin, eC_1, h3.1, h3.2, int_i, i_inj, hr] at hP ⊢
      refine ⟨by simp, fun hx => ?_, fun hx => ?_⟩
      · have : (cellAt s m).n = m := by simpa using hx
        rw [if_neg (by simp [this])] at hP
        simp [← hP]
      · have hx' : ¬ (cellAt s m).n = m := by simpa using hx
        rw [if_pos ⟨trivial, hx'⟩] at hP
        refine ⟨⟨trivial, trivial⟩, ⟨trivial, trivial⟩, ?_⟩
        rw [updB, if_pos rfl]
        refine ⟨⟨k + 1, (cellAt s m).n, by omega, by simp, by rw [hn2]; exact hP⟩, ?_⟩
        simp [D.int]
        omega
    · rw [if_neg (by simp [ht])] at hP
      simp [ht, ← hP]
  · have : k = s.cs.length + 1 := by omega
    subst this
    rw [Nat.sub_self] at hP
    simp [← hP, endsN]

/-- The cell at an address is valid there. -/
def cellR (s : So) (i : Int) : Bool :=
  if (cellAt s i).t = 4 then decide (1 ≤ arS s (cellAt s i).n) && (inS s (i + arS s (cellAt s i).n) && (List.range (arS s (cellAt s i).n).toNat).all fun j => !decide (tagS s (i + ((j : Int) + 1)) = 4))
  else vcR s (cellAt s i) && (endsB s i && (!decide ((cellAt s i).t = 5) || (decide ((cellAt s i).n = i) && groupS s i)))
def cellQ (s : So) (i : Int) : Bool := inS s i && symsB s.ys

theorem ok_ref30_cell : FOk ct_ref30_cell (gSIbP cellQ cellR) := fok_ref30_cell ok_ref30_arity ok_ref30_ranged ok_ref30_tag ok_ref30_ValidCell ok_ref30_ends ok_ref30_group fun ds outs hw hg => by
  obtain ⟨d, r, rfl, hd, e, r', rfl, he, rfl⟩ := hw
  obtain ⟨s, rfl, hs⟩ := wfS hd
  obtain ⟨i, rfl, hi⟩ := wfI he
  simp only [gSIbP, dS_eS, int_i, Option.ite_none_right_eq_some, Option.some.injEq, cellQ, Bool.and_eq_true] at hg
  obtain ⟨⟨hin, hy⟩, rfl⟩ := hg
  have h1 := inS_iff.1 hin
  have hl := hs.cs.1
  simp only [LIM] at hl
  obtain ⟨ha, hb⟩ := symsB_ar hy (cellAt s i).n
  simp only [tree_ref30_cell, Tree.go, allSay, X.says, X.ev, X.evs, evl, tblS, List.getD_cons_zero, List.getD_cons_succ, List.getElem?_cons_zero, List.getElem?_cons_succ, tt_b, int_i, str_s, rs_r, Option.isSome_some, Option.getD_some, decide_eq_true_eq, decide_eq_false_iff_not, dS_eS, dC_eC, dU_eU, dW_eW, dY_eY, eC_0, eC_1, eU_0, eU_1, eW_0, eW_1, eW_2, eY_0, eY_1, eS_0, eS_1, eS_2, eS_3, eS_4, eS_5, List.length_map, i_inj, b_inj, s_inj, eC_eq, eU_eq, eW_eq, eY_eq, eS_eq, rng64, List.take_succ_cons, List.take_zero, List.nil_append, List.cons_append, decide_true, decide_false, Bool.or_true, true_and, and_true, gSIi, gSIb, gSCb, gSIbP, cell_get hin, h1.1, h1.2, hin, if_true]
  unfold cellR
  generalize arS s (cellAt s i).n = K at ha hb ⊢
  refine ⟨fun h4 => ?_, fun h4 => ?_⟩
  · have hr : i64 (i + K) := ⟨by omega, by omega⟩
    simp only [h4, hr, if_true]
    refine ⟨by simp [rng64, hr.1, hr.2], fun hx => ?_, fun hx => ?_⟩
    · have hx' : K < 1 ∨ inS s (i + K) = false := by simpa using hx
      rcases hx' with hx | hx
      · have : ¬ (1 ≤ K) := by omega
        simp [this]
      · simp [hx]
    · have hx' : 1 ≤ K ∧ inS s (i + K) = true := by simpa using hx
      obtain ⟨hk, hin2⟩ := hx'
      simp only [hk, hin2]
      refine ⟨fun st => ∃ (j : Nat), (j : Int) ≤ K ∧ st = [.b false, .i ((j : Int) + 1)] ∧ ∀ m : Nat, m < j → (!decide (tagS s (i + ((m : Int) + 1)) = 4)) = true, fun st => K.toNat + 1 - (st.getD 1 .u).int.toNat, ⟨0, by omega, by simp, fun m hm => absurd hm (Nat.not_lt_zero _)⟩, ?_⟩
      rintro st - ⟨j, hj, rfl, hP⟩
      simp only [Tree.go, allSay, X.says, X.ev, X.evs, evl, tblS, List.getD_cons_zero, List.getD_cons_succ, List.getElem?_cons_zero, List.getElem?_cons_succ, tt_b, int_i, str_s, rs_r, Option.isSome_some, Option.getD_some, decide_eq_true_eq, decide_eq_false_iff_not, dS_eS, dC_eC, dU_eU, dW_eW, dY_eY, eC_0, eC_1, eU_0, eU_1, eW_0, eW_1, eW_2, eY_0, eY_1, eS_0, eS_1, eS_2, eS_3, eS_4, eS_5, List.length_map, i_inj, b_inj, s_inj, eC_eq, eU_eq, eW_eq, eY_eq, eS_eq, rng64, List.take_succ_cons, List.take_zero, List.nil_append, List.cons_append, decide_true, decide_false, Bool.or_true, true_and, and_true, gSIi]
      refine ⟨fun hlt => ?_, fun hlt => ?_⟩
      · have hr2 : i64 (i + ((j : Int) + 1)) := ⟨by omega, by omega⟩
        have hr3 : i64 (((j : Int) + 1) + 1) := ⟨by omega, by omega⟩
        refine ⟨hr2, fun hx => ?_, fun hx => ⟨hr3, ?_⟩⟩
        · rw [all_not (k := j) (by omega) (by simp [hx])]
          simp
        · rw [updB, if_pos rfl]
          refine ⟨⟨j + 1, by omega, by simp, upto_succ hP (by simp [hx])⟩, ?_⟩
          simp [D.int]
          omega
      · have : j = K.toNat := by omega
        subst this
        rw [all_yes hP]
        simp
  · simp only [h4, if_false]
    refine ⟨fun hx => ?_, fun hx => ?_⟩
    · have hx' : vcR s (cellAt s i) = false ∨ endsB s i = false := by simpa using hx
      rcases hx' with hx | hx <;> simp [hx]
    · have hx' : vcR s (cellAt s i) = true ∧ endsB s i = true := by simpa using hx
      simp [hx'.1, hx'.2]

/-- The program's. -/
def fitsP (s : So) (i : Int) : Bool :=
  if (cellAt s i).t = 4 then decide (1 ≤ arS s (cellAt s i).n) && (List.range (arS s (cellAt s i).n).toNat).all fun j => decide (0 ≤ tagS s (i + ((j : Int) + 1))) && !decide (tagS s (i + ((j : Int) + 1)) = 4)
  else if (cellAt s i).t = 5 then decide ((cellAt s i).n = i) && groupS s i else vcP s (cellAt s i)
theorem ok_cells_fits : FOk ct_cells_fits (gSIbP cellQ fitsP) := fok_cells_fits ok_cells_arity ok_cells_tag ok_cells_group ok_cells_ValidCell fun ds outs hw hg => by
  obtain ⟨d, r, rfl, hd, e, r', rfl, he, rfl⟩ := hw
  obtain ⟨s, rfl, hs⟩ := wfS hd
  obtain ⟨i, rfl, hi⟩ := wfI he
  simp only [gSIbP, dS_eS, int_i, Option.ite_none_right_eq_some, Option.some.injEq, cellQ, Bool.and_eq_true] at hg
  obtain ⟨⟨hin, hy⟩, rfl⟩ := hg
  have h1 := inS_iff.1 hin
  have hl := hs.cs.1
  simp only [LIM] at hl
  obtain ⟨ha, hb⟩ := symsB_ar hy (cellAt s i).n
  simp only [tree_cells_fits, Tree.go, allSay, X.says, X.ev, X.evs, evl, tblS, List.getD_cons_zero, List.getD_cons_succ, List.getElem?_cons_zero, List.getElem?_cons_succ, tt_b, int_i, str_s, rs_r, Option.isSome_some, Option.getD_some, decide_eq_true_eq, decide_eq_false_iff_not, dS_eS, dC_eC, dU_eU, dW_eW, dY_eY, eC_0, eC_1, eU_0, eU_1, eW_0, eW_1, eW_2, eY_0, eY_1, eS_0, eS_1, eS_2, eS_3, eS_4, eS_5, List.length_map, i_inj, b_inj, s_inj, eC_eq, eU_eq, eW_eq, eY_eq, eS_eq, rng64, List.take_succ_cons, List.take_zero, List.nil_append, List.cons_append, decide_true, decide_false, Bool.or_true, true_and, and_true, gSIi, gSIb, gSCb, gSIbP, cell_get hin, h1.1, h1.2, hin, if_true]
  unfold fitsP
  generalize arS s (cellAt s i).n = K at ha hb ⊢
  refine ⟨fun h4 => ?_, fun h4 => ?_⟩
  · have hr : i64 (i + K) := ⟨by omega, by omega⟩
    have hr1 : i64 (i + 1) := ⟨by omega, by omega⟩
    simp only [h4, hr, hr1, if_true]
    refine ⟨fun hx => ?_, fun hx => ⟨⟨trivial, trivial⟩, ?_⟩⟩
    · have : ¬ (1 ≤ K) := by omega
      simp [this]
    · have hk : 1 ≤ K := by omega
      simp only [hk]
      refine ⟨fun st => ∃ (j : Nat), (j : Int) ≤ K ∧ st = [.b false, .i (i + ((j : Int) + 1))] ∧ ∀ m : Nat, m < j → (decide (0 ≤ tagS s (i + ((m : Int) + 1))) && !decide (tagS s (i + ((m : Int) + 1)) = 4)) = true, fun st => (i + K + 1 - (st.getD 1 .u).int).toNat, ⟨0, by omega, by simp, fun m hm => absurd hm (Nat.not_lt_zero _)⟩, ?_⟩
      rintro st - ⟨j, hj, rfl, hP⟩
      simp only [Tree.go, allSay, X.says, X.ev, X.evs, evl, tblS, List.getD_cons_zero, List.getD_cons_succ, List.getElem?_cons_zero, List.getElem?_cons_succ, tt_b, int_i, str_s, rs_r, Option.isSome_some, Option.getD_some, decide_eq_true_eq, decide_eq_false_iff_not, dS_eS, dC_eC, dU_eU, dW_eW, dY_eY, eC_0, eC_1, eU_0, eU_1, eW_0, eW_1, eW_2, eY_0, eY_1, eS_0, eS_1, eS_2, eS_3, eS_4, eS_5, List.length_map, i_inj, b_inj, s_inj, eC_eq, eU_eq, eW_eq, eY_eq, eS_eq, rng64, List.take_succ_cons, List.take_zero, List.nil_append, List.cons_append, decide_true, decide_false, Bool.or_true, true_and, and_true, gSIi]
      refine ⟨fun hlt => ?_, fun hlt => ?_⟩
      · have hr3 : i64 ((i + ((j : Int) + 1)) + 1) := ⟨by omega, by omega⟩
        refine ⟨fun hx => ?_, fun hx => ⟨hr3, ?_⟩⟩
        · have hx' : tagS s (i + ((j : Int) + 1)) < 0 ∨ tagS s (i + ((j : Int) + 1)) = 4 := by simpa using hx
          rw [all_not (k := j) (by omega)]
          · simp
          · rcases hx' with h | h
            · have : ¬ (0 ≤ tagS s (i + ((j : Int) + 1))) := by omega
              simp [this]
            · simp [h]
        · have hx' : ¬ tagS s (i + ((j : Int) + 1)) < 0 ∧ ¬ tagS s (i + ((j : Int) + 1)) = 4 := by simpa using hx
          rw [updB, if_pos rfl]
          refine ⟨⟨j + 1, by omega, by simp; omega, upto_succ hP (by simp [hx'.2]; omega)⟩, ?_⟩
          simp [D.int]
          omega
      · have : j = K.toNat := by omega
        subst this
        rw [all_yes hP]
        simp
  · simp only [h4, if_false]
    refine ⟨fun hx => ?_, fun hx => ?_⟩
    · simp [hx]
    · simp [hx]

/-- An element of the trail is valid. -/
def oldB (vc : So → Ce → Bool) (rg : So → Int → Bool) (s : So) (u : Un) : Bool :=
  rg s u.at' && if u.old.t = 0 then decide (u.old.n = u.at') else if u.old.t = 5 then decide (u.old.n = u.at') && (groupS s u.at' && !decide (tagS s (u.at' - 1) = 5)) else if u.old.t = 1 ∨ u.old.t = 2 ∨ u.old.t = 3 then vc s u.old else false
def oldR : So → Un → Bool := oldB vcR inS
def oldP : So → Un → Bool := oldB vcP fun s i => decide (0 ≤ tagS s i)
theorem ok_ref30_old : FOk ct_ref30_old (gSUb oldR) := fok_ref30_old ok_ref30_ranged ok_ref30_group ok_ref30_tag ok_ref30_ValidCell fun ds outs hw hg => by
  obtain ⟨d, r, rfl, hd, e, r', rfl, he, rfl⟩ := hw
  obtain ⟨s, rfl, hs⟩ := wfS hd
  obtain ⟨u, rfl, hu⟩ := wfU he
  simp only [gSUb, dS_eS, dU_eU, Option.some.injEq] at hg
  subst hg
  have hl := hs.cs.1
  simp only [LIM] at hl
  simp only [tree_ref30_old, Tree.go, allSay, X.says, X.ev, X.evs, evl, tblS, List.getD_cons_zero, List.getD_cons_succ, List.getElem?_cons_zero, List.getElem?_cons_succ, tt_b, int_i, str_s, rs_r, Option.isSome_some, Option.getD_some, decide_eq_true_eq, decide_eq_false_iff_not, dS_eS, dC_eC, dU_eU, dW_eW, dY_eY, eC_0, eC_1, eU_0, eU_1, eW_0, eW_1, eW_2, eY_0, eY_1, eS_0, eS_1, eS_2, eS_3, eS_4, eS_5, List.length_map, i_inj, b_inj, s_inj, eC_eq, eU_eq, eW_eq, eY_eq, eS_eq, rng64, List.take_succ_cons, List.take_zero, List.nil_append, List.cons_append, decide_true, decide_false, Bool.or_true, true_and, and_true, gSIi, gSIb, gSCb, gSIbP, oldR, oldB]
  cases hin : inS s u.at' with
  | false => simp
  | true =>
    have h1 := inS_iff.1 hin
    have hr : i64 (u.at' - 1) := ⟨by omega, by omega⟩
    simp only [hr, if_true]
    by_cases h0 : u.old.t = 0
    · simp [h0]
    · by_cases h5 : u.old.t = 5
      · simp [h5, Bool.and_assoc, tt_b, rng64, hr.1, hr.2]
      · by_cases h2 : u.old.t = 1
        · simp [h2]
        · by_cases h3 : u.old.t = 2
          · simp [h3]
          · by_cases h4 : u.old.t = 3
            · simp [h4]
            · simp [h0, h5, h2, h3, h4]
theorem ok_cells_validUndo : FOk ct_cells_validUndo (gSUb oldP) := fok_cells_validUndo ok_cells_tag ok_cells_group ok_cells_ValidCell fun ds outs hw hg => by
  obtain ⟨d, r, rfl, hd, e, r', rfl, he, rfl⟩ := hw
  obtain ⟨s, rfl, hs⟩ := wfS hd
  obtain ⟨u, rfl, hu⟩ := wfU he
  simp only [gSUb, dS_eS, dU_eU, Option.some.injEq] at hg
  subst hg
  have hl := hs.cs.1
  simp only [LIM] at hl
  simp only [tree_cells_validUndo, Tree.go, allSay, X.says, X.ev, X.evs, evl, tblS, List.getD_cons_zero, List.getD_cons_succ, List.getElem?_cons_zero, List.getElem?_cons_succ, tt_b, int_i, str_s, rs_r, Option.isSome_some, Option.getD_some, decide_eq_true_eq, decide_eq_false_iff_not, dS_eS, dC_eC, dU_eU, dW_eW, dY_eY, eC_0, eC_1, eU_0, eU_1, eW_0, eW_1, eW_2, eY_0, eY_1, eS_0, eS_1, eS_2, eS_3, eS_4, eS_5, List.length_map, i_inj, b_inj, s_inj, eC_eq, eU_eq, eW_eq, eY_eq, eS_eq, rng64, List.take_succ_cons, List.take_zero, List.nil_append, List.cons_append, decide_true, decide_false, Bool.or_true, true_and, and_true, gSIi, gSIb, gSCb, gSIbP, oldP, oldB]
  by_cases ht : 0 ≤ tagS s u.at'
  · have ht' : ¬ (tagS s u.at' < 0) := by omega
    have hin : inS s u.at' = true := by
      cases hin : inS s u.at' with
      | true => rfl
      | false => rw [tagS_out hin] at ht; omega
    have h1 := inS_iff.1 hin
    have hr : i64 (u.at' - 1) := ⟨by omega, by omega⟩
    simp only [hr, hin, ht, ht', if_true]
    by_cases h0 : u.old.t = 0
    · simp [h0]
    · by_cases h5 : u.old.t = 5
      · simp [h5, Bool.and_assoc, tt_b, rng64, hr.1, hr.2]
      · by_cases h2 : u.old.t = 1
        · simp [h2]
        · by_cases h3 : u.old.t = 2
          · simp [h3]
          · by_cases h4 : u.old.t = 3
            · simp [h4]
            · simp [h0, h5, h2, h3, h4]
  · have ht' : tagS s u.at' < 0 := by omega
    simp [ht, ht']
end Go.Proofs.Ytcjapglipkmbhaa

namespace Go.Proofs.Ytcjapglipkmbhaa
open Go.RowKit
set_option linter.unusedVariables false
set_option linter.unusedSimpArgs false

section
variable {s : So}

/-- A reference that leads on. -/
def Ns (s : So) (n : Int) : Prop := tagS s n = 0 ∧ ¬ (cellAt s n).n = n
abbrev nx (s : So) (n : Int) : Int := (cellAt s n).n
theorem endsN_ns {k : Nat} {n : Int} (h : Ns s n) : endsN s (k + 1) n = endsN s k (nx s n) := if_pos h
theorem endsN_st {k : Nat} {n : Int} (h : ¬ Ns s n) : endsN s (k + 1) n = true := if_neg h
theorem Ns.inS {n : Int} (h : Ns s n) : inS s n = true := tag_in' (by decide) h.1
theorem endsN_up {k : Nat} : ∀ {n : Int}, endsN s k n = true → endsN s (k + 1) n = true := by
  induction k with
  | zero => intro n h; cases h
  | succ k ih =>
    intro n h
    by_cases hn : Ns s n
    · rw [endsN_ns hn] at h ⊢
      exact ih h
    · exact endsN_st hn
theorem endsN_le {k j : Nat} (hk : k ≤ j) {n : Int} (h : endsN s k n = true) : endsN s j n = true := by
  obtain ⟨d, rfl⟩ := Nat.exists_eq_add_of_le hk
  clear hk
  induction d with
  | zero => exact h
  | succ d ih => exact endsN_up ih
def En (s : So) (n : Int) : Prop := ∃ k, endsN s k n = true
theorem En.st {n : Int} (h : ¬ Ns s n) : En s n := ⟨1, endsN_st h⟩
theorem En.ns {n : Int} (h : Ns s n) (he : En s (nx s n)) : En s n := let ⟨k, hk⟩ := he; ⟨k + 1, (endsN_ns h).trans hk⟩

theorem nodup_lt : ∀ (n : Nat) (l : List Nat), l.Nodup → (∀ x ∈ l, x < n) → l.length ≤ n
  | 0, [], _, _ => Nat.le_refl _
  | 0, x :: l, _, h => absurd (h x List.mem_cons_self) (Nat.not_lt_zero _)
  | n + 1, l, hn, h => by
    have h1 := nodup_lt n (l.erase n) (hn.erase n) fun x hx => by
      have h2 := (hn.mem_erase_iff).1 hx
      have := h x h2.2
      have := h2.1
      omega
    have h2 := List.length_erase (a := n) (l := l)
    split at h2 <;> omega

/-- The nodes of a chain that ends after k steps, the last left out. -/
theorem rank_list : ∀ (k : Nat) (n : Int), endsN s (k + 1) n = true → endsN s k n = false → ∃ l : List Int, l.length = k ∧ l.Nodup ∧ (∀ x ∈ l, inS s x = true) ∧ ∀ x ∈ l, ∃ j, j ≤ k ∧ endsN s (j + 1) x = true
  | 0, n, _, _ => ⟨[], rfl, List.nodup_nil, (fun x hx => by cases hx), fun x hx => by cases hx⟩
  | k + 1, n, h1, h2 => by
    have hn : Ns s n := Classical.byContradiction fun hn => by rw [endsN_st hn] at h2; cases h2
    rw [endsN_ns hn] at h1 h2
    obtain ⟨l, e1, e2, e3, e4⟩ := rank_list k _ h1 h2
    refine ⟨n :: l, by simp [e1], ?_, fun x hx => ?_, fun x hx => ?_⟩
    · refine List.nodup_cons.2 ⟨fun hm => ?_, e2⟩
      obtain ⟨j, hj, he⟩ := e4 n hm
      rw [endsN_ns hn] at he
      rw [endsN_le hj he] at h2
      cases h2
    · rcases List.mem_cons.1 hx with rfl | hx
      · exact hn.inS
      · exact e3 x hx
    · rcases List.mem_cons.1 hx with rfl | hx
      · exact ⟨k + 1, Nat.le_refl _, by rw [endsN_ns hn]; exact h1⟩
      · obtain ⟨j, hj, he⟩ := e4 x hx
        exact ⟨j, by omega, he⟩
theorem En.ends {n : Int} (h : En s n) : endsB s n = true := by
  obtain ⟨k, hk⟩ := h
  induction k with
  | zero => cases hk
  | succ k ih =>
    cases hk' : endsN s k n with
    | true => exact ih hk'
    | false =>
      obtain ⟨l, e1, e2, e3, -⟩ := rank_list k n hk hk'
      have h1 := nodup_lt s.cs.length (l.map Int.toNat) ?_ ?_
      · rw [List.length_map, e1] at h1
        exact endsN_le (by omega) hk
      · refine List.Pairwise.map _ (fun a b h => h) ?_
        refine List.Pairwise.imp_of_mem (R := fun a b => a ≠ b) (fun {a b} ha hb hab e => hab ?_) e2
        have h1 := inS_iff.1 (e3 a ha)
        have h2 := inS_iff.1 (e3 b hb)
        omega
      · intro x hx
        obtain ⟨a, ha, rfl⟩ := List.mem_map.1 hx
        have h1 := inS_iff.1 (e3 a ha)
        omega

/-- A path of references to a. -/
def Ch (s : So) : List Int → Int → Prop
  | [], _ => True
  | q :: l, a => Ns s q ∧ nx s q = l.headD a ∧ Ch s l a
theorem Ch.snoc : ∀ {l : List Int} {a b : Int}, Ch s l a → Ns s a → nx s a = b → Ch s (l ++ [a]) b
  | [], a, b, _, h1, h2 => ⟨h1, h2, trivial⟩
  | q :: l, a, b, ⟨g1, g2, g3⟩, h1, h2 => ⟨g1, by cases l <;> exact g2, Ch.snoc g3 h1 h2⟩
theorem Ch.en : ∀ {l : List Int} {a : Int}, Ch s l a → En s a → ∀ q ∈ l, En s q
  | [], a, _, _, q, hq => by cases hq
  | q :: l, a, ⟨g1, g2, g3⟩, he, x, hx => by
    have ih := Ch.en g3 he
    rcases List.mem_cons.1 hx with rfl | hx
    · refine En.ns g1 ?_
      rw [g2]
      cases l with
      | nil => exact he
      | cons y l => exact ih y List.mem_cons_self
    · exact ih x hx
theorem Ch.next : ∀ {l : List Int} {a : Int}, Ch s l a → ∀ q ∈ l, Ns s q ∧ (nx s q ∈ l ∨ nx s q = a)
  | [], a, _, q, hq => by cases hq
  | q :: l, a, ⟨g1, g2, g3⟩, x, hx => by
    rcases List.mem_cons.1 hx with rfl | hx
    · refine ⟨g1, ?_⟩
      rw [g2]
      cases l with
      | nil => exact .inr rfl
      | cons y l => exact .inl (by simp)
    · obtain ⟨h1, h2⟩ := Ch.next g3 x hx
      exact ⟨h1, h2.imp (List.mem_cons_of_mem _) id⟩
theorem closed_no {Q : List Int} (h : ∀ q ∈ Q, Ns s q ∧ nx s q ∈ Q) : ∀ (k : Nat) (q : Int), q ∈ Q → endsN s k q = false
  | 0, q, _ => rfl
  | k + 1, q, hq => by
    rw [endsN_ns (h q hq).1]
    exact closed_no h k _ (h q hq).2

def acyP (s : So) : Bool := (List.range s.cs.length).all fun i => endsB s (i : Nat)
def acyQ (s : So) : Bool := decide (s.cs.length ≤ 16777216) && (List.range s.cs.length).all fun i => !decide ((cellAt s (i : Nat)).t = 0) || inS s (cellAt s (i : Nat)).n

/-- The marks. -/
structure Mk0 (s : So) (m : List Int) : Prop where
  len : m.length = s.cs.length
  en : ∀ j : Nat, m.getD j 0 = 2 → En s j
theorem marks_get {m : List Int} {i : Int} (h0 : 0 ≤ i) (h : i < m.length) : (D.r (m.map D.i)).get i = .i (m.getD i.toNat 0) := by
  have : i.toNat < m.length := by omega
  simp [D.get, D.rs, List.getD_eq_getElem?_getD, this]
theorem marks_set {m : List Int} {k : Nat} {x : Int} : (m.map D.i).set k (.i x) = (m.set k x).map D.i := by simp
theorem getD_set {m : List Int} {k j : Nat} {x : Int} (hk : k < m.length) : (m.set k x).getD j 0 = if k = j then x else m.getD j 0 := by
  simp only [List.getD_eq_getElem?_getD, List.getElem?_set, hk]
  split <;> simp_all
end
end Go.Proofs.Ytcjapglipkmbhaa

namespace Go.Proofs.Ytcjapglipkmbhaa
open Go.RowKit
set_option linter.unusedVariables false
set_option linter.unusedSimpArgs false

/-- The loop that marks a path as done. -/
def markT (P M : X) : Tree := .loop 16 8 [(.lit (.i 0)), M] (.br (.lt (.tok 8) (.len P)) (.need [(.le (.lit (.i 0)) (.tok 8)), (.lt (.tok 8) (.len P))] (.need [(.le (.lit (.i 0)) (.get P (.tok 8))), (.lt (.get P (.tok 8)) (.len (.tok 9)))] (.need [(.rng .i64 (.add (.tok 8) (.lit (.i 1))))] (.back 16 [(.add (.tok 8) (.lit (.i 1))), (.put (.tok 9) (.get P (.tok 8)) (.lit (.i 2)))])))) (.need [(.rng .i64 (.add (.tok 2) (.lit (.i 1))))] (.back 3 [(.tok 6), (.add (.tok 2) (.lit (.i 1))), (.tok 9)])))

theorem take_mem_snoc {l : List Int} {k : Nat} (h : k < l.length) (x : Int) : x ∈ l.take (k + 1) ↔ x ∈ l.take k ∨ x = l.getD k default := by
  rw [take_snoc h]
  simp

theorem mark_ok {S : Nat → List D → Option (List D)} {R : List D → Prop} {L : List D} {B : Nat → List D → Prop} {P M : X} {l m : List Int} {i : Nat} (hL : L.length = 8) (hP : ∀ e, P.ev (evl S (L ++ e)) = .r (l.map D.i)) (hM : M.ev (evl S L) = .r (m.map D.i))
    (h2 : L.getD 2 .u = .i i) (hi : i64 ((i : Int) + 1)) (hl : ∀ x ∈ l, 0 ≤ x ∧ x < m.length) (hll : l.length ≤ 16777216)
    (hB : ∀ f : List Int, f.length = m.length → (∀ j : Nat, j < m.length → f.getD j 0 = if (j : Int) ∈ l then 2 else m.getD j 0) → B 3 [L.getD 6 .u, .i ((i : Int) + 1), .r (f.map D.i)]) : (markT P M).go S R L B := by
  unfold markT
  rw [go_loop]
  have hM' : (evl S L) = ⟨fun k => L.getD k .u, S⟩ := rfl
  refine ⟨fun st => ∃ (k : Nat) (f : List Int), k ≤ l.length ∧ st = [.i k, .r (f.map D.i)] ∧ f.length = m.length ∧ ∀ j : Nat, j < m.length → f.getD j 0 = if (j : Int) ∈ l.take k then 2 else m.getD j 0, fun st => l.length - (st.getD 0 .u).int.toNat, ⟨0, m, Nat.zero_le _, by simp [X.evs, X.ev, hM], rfl, fun j _ => by simp⟩, ?_⟩
  rintro st - ⟨k, f, hk, rfl, hfl, hf⟩
  rw [List.take_of_length_le (by omega)]
  have t : ∀ j, j < 8 → (L ++ [D.i k, D.r (f.map D.i)]).getD j .u = L.getD j .u := fun j hj => by
    simp only [List.getD_eq_getElem?_getD]
    rw [List.getElem?_append_left (by omega)]
  have t8 : (L ++ [D.i k, D.r (f.map D.i)]).getD 8 .u = .i k := by
    simp only [List.getD_eq_getElem?_getD]
    rw [List.getElem?_append_right (by omega), hL]
    rfl
  have t9 : (L ++ [D.i k, D.r (f.map D.i)]).getD 9 .u = .r (f.map D.i) := by
    simp only [List.getD_eq_getElem?_getD]
    rw [List.getElem?_append_right (by omega), hL]
    rfl
  have hP' := hP [D.i k, D.r (f.map D.i)]
  have e2 : (L ++ [D.i k, D.r (f.map D.i)]).getD 2 .u = .i i := (t 2 (by omega)).trans h2
  have e6 := t 6 (by omega)
  generalize hg : evl S (L ++ [D.i k, D.r (f.map D.i)]) = g at hP'
  have hE : ∀ n, g.E n = (L ++ [D.i k, D.r (f.map D.i)]).getD n .u := fun n => by rw [← hg]; rfl
  simp only [go_need, go_br, go_back, allSay, X.says, hg, X.evs, X.ev, hP', hE, t8, t9, e2, e6, int_i, rs_r, tt_b, List.length_map, decide_eq_true_eq, decide_eq_false_iff_not, and_true]
  refine ⟨fun hlt => ?_, fun hlt => ?_⟩
  · have hkl : k < l.length := by omega
    have hm := getD_mem hkl
    have hr := hl _ hm
    have hget : (D.r (l.map D.i)).get (k : Int) = .i (l.getD k default) := get_n D.i hkl
    rw [hget]
    generalize hx : l.getD k default = x at hm hr
    simp only [int_i]
    refine ⟨⟨by omega, hlt⟩, ⟨hr.1, by omega⟩, rng64.2 ⟨by omega, by omega⟩, ?_⟩
    rw [updB, if_pos rfl]
    refine ⟨⟨k + 1, f.set x.toNat 2, hkl, by simp, by simp [hfl], fun j hj => ?_⟩, ?_⟩
    · rw [getD_set (by omega), hf j hj]
      by_cases hjx : x.toNat = j
      · have : (j : Int) ∈ l.take (k + 1) := (take_mem_snoc hkl _).2 (.inr (by omega))
        rw [if_pos hjx, if_pos this]
      · rw [if_neg hjx]
        by_cases hm2 : (j : Int) ∈ l.take k
        · rw [if_pos hm2, if_pos ((take_mem_snoc hkl _).2 (.inl hm2))]
        · rw [if_neg hm2, if_neg fun h => ?_]
          rcases (take_mem_snoc hkl _).1 h with h | h
          · exact hm2 h
          · omega
    · simp [D.int]
      omega
  · have : k = l.length := by omega
    subst this
    refine ⟨rng64.2 hi, ?_⟩
    rw [updB, if_neg (by decide)]
    rw [List.take_length] at hf
    exact hB f hfl hf

instance {s : So} {n : Int} : Decidable (Ns s n) := inferInstanceAs (Decidable (_ ∧ _))

theorem ok_cells_acyclic : FOk ct_cells_acyclic (gSbP acyQ acyP) := fok_cells_acyclic fun ds outs hw hg => by
  obtain ⟨d, r, rfl, hd, rfl⟩ := hw
  obtain ⟨s, rfl, hs⟩ := wfS hd
  simp only [gSbP, dS_eS, Option.ite_none_right_eq_some, Option.some.injEq, acyQ, Bool.and_eq_true, decide_eq_true_eq] at hg
  obtain ⟨⟨hlen, hrf⟩, rfl⟩ := hg
  have hrange : ∀ n : Int, Ns s n → inS s (nx s n) = true := fun n hn => by
    have h1 := inS_iff.1 hn.inS
    have h2 := all_of hrf (k := n.toNat) (by omega)
    have e : ((n.toNat : Nat) : Int) = n := by omega
    have h0 : (cellAt s n).t = 0 := by rw [← tagS_in hn.inS]; exact hn.1
    rw [e] at h2
    simpa [h0] using h2
  rw [tree_cells_acyclic, go_need]
  refine ⟨by simp only [go_need, go_br, go_leaf, go_back, allSay, X.says, X.ev, X.evs, evl, tblS, List.getD_cons_zero, List.getD_cons_succ, List.getElem?_cons_zero, List.getElem?_cons_succ, tt_b, int_i, str_s, rs_r, Option.isSome_some, Option.getD_some, decide_eq_true_eq, decide_eq_false_iff_not, dS_eS, dC_eC, dU_eU, dW_eW, dY_eY, eC_0, eC_1, eU_0, eU_1, eW_0, eW_1, eW_2, eY_0, eY_1, eS_0, eS_1, eS_2, eS_3, eS_4, eS_5, List.length_map, i_inj, b_inj, s_inj, eC_eq, eU_eq, eW_eq, eY_eq, eS_eq, rng64, List.take_succ_cons, List.take_zero, List.nil_append, List.cons_append, decide_true, decide_false, Bool.or_true, true_and, and_true]; omega, ?_⟩
  rw [go_loop]
  refine ⟨fun st => ∃ (i : Nat) (m : List Int), i ≤ s.cs.length ∧ st = [.b false, .i i, .r (m.map D.i)] ∧ Mk0 s m ∧ (∀ j : Nat, j < s.cs.length → m.getD j 0 = 0 ∨ m.getD j 0 = 2) ∧ ∀ j : Nat, j < i → En s j, fun st => s.cs.length - (st.getD 1 .u).int.toNat,
    ⟨0, List.replicate s.cs.length 0, Nat.zero_le _, by simp [X.evs, X.ev, evl, eS_0, D.int, D.rs], ⟨by simp, fun j hj => ?_⟩, fun j hj => ?_, fun j hj => absurd hj (Nat.not_lt_zero _)⟩, ?_⟩
  · exfalso
    simp only [List.getD_eq_getElem?_getD, List.getElem?_replicate] at hj
    split at hj <;> simp at hj
  · left
    simp [List.getD_eq_getElem?_getD, List.getElem?_replicate, hj]
  rintro st - ⟨i, m, hi, rfl, hm, hm02, hdone⟩
  rw [go_br]
  refine ⟨fun hlt => ?_, fun hlt => ?_⟩
  · have hil : i < s.cs.length := by simpa [X.ev, evl, eS_0, D.int, D.rs, D.tt] using hlt
    rw [go_loop]
    refine ⟨fun st => ∃ (l : List Int) (a : Int) (f : List Int), st = [.r (l.map D.i), .i a, .b false, .r (f.map D.i)] ∧ inS s a = true ∧ f.length = s.cs.length ∧ Ch s l a ∧ l.headD a = (i : Int) ∧ (∀ x ∈ l, inS s x = true) ∧ l.length ≤ s.cs.length - f.count 0 ∧ ¬ f.getD a.toNat 0 = 1 ∧
      ∀ j : Nat, j < s.cs.length → f.getD j 0 = if (j : Int) ∈ l then 1 else m.getD j 0, fun st => ((st.getD 3 .u).rs.map D.int).count 0, ⟨[], i, m, by simp [X.evs, X.ev, evl], inS_iff.2 ⟨by omega, by omega⟩, hm.len, trivial, rfl, (fun x hx => by cases hx), Nat.zero_le _, ?_, fun j hj => by simp⟩, ?_⟩
    · have := hm02 i hil
      simp only [Int.toNat_natCast]
      omega
    rintro st - ⟨l, a, f, rfl, hin, hfl, hch, hhd, hl, hll, hna, hf⟩
    have ha := inS_iff.1 hin
    have hfa : (f.getD a.toNat 0) = if a ∈ l then 1 else m.getD a.toNat 0 := by
      have := hf a.toNat (by omega)
      rwa [show ((a.toNat : Nat) : Int) = a by omega] at this
    have hal : a ∉ l := fun h => hna (by rw [hfa, if_pos h])
    rw [if_neg hal] at hfa
    have hmark : (D.r (f.map D.i)).get a = .i (f.getD a.toNat 0) := marks_get ha.1 (by omega)
    rw [go_need]
    refine ⟨by simp only [go_need, go_br, go_leaf, go_back, allSay, X.says, X.ev, X.evs, evl, tblS, List.getD_cons_zero, List.getD_cons_succ, List.getElem?_cons_zero, List.getElem?_cons_succ, tt_b, int_i, str_s, rs_r, Option.isSome_some, Option.getD_some, decide_eq_true_eq, decide_eq_false_iff_not, dS_eS, dC_eC, dU_eU, dW_eW, dY_eY, eC_0, eC_1, eU_0, eU_1, eW_0, eW_1, eW_2, eY_0, eY_1, eS_0, eS_1, eS_2, eS_3, eS_4, eS_5, List.length_map, i_inj, b_inj, s_inj, eC_eq, eU_eq, eW_eq, eY_eq, eS_eq, rng64, List.take_succ_cons, List.take_zero, List.nil_append, List.cons_append, decide_true, decide_false, Bool.or_true, true_and, and_true]; omega, ?_⟩
    rw [go_br]
    -- what the marks are when a path is done
    have finish : ∀ (p : List Int), (∀ x ∈ p, inS s x = true) → (∀ x ∈ p, En s x) → En s i → (∀ x ∈ l, x ∈ p) → ∀ (f' : List Int), f'.length = s.cs.length → (∀ j : Nat, j < s.cs.length → f'.getD j 0 = if (j : Int) ∈ p then 2 else m.getD j 0) →
        updB (fun x x_1 => False) 3 (fun st' => (∃ (i : Nat) (m : List Int), i ≤ s.cs.length ∧ st' = [.b false, .i i, .r (m.map D.i)] ∧ Mk0 s m ∧ (∀ j : Nat, j < s.cs.length → m.getD j 0 = 0 ∨ m.getD j 0 = 2) ∧ ∀ j : Nat, j < i → En s j) ∧ s.cs.length - (st'.getD 1 .u).int.toNat < s.cs.length - (([D.b false, D.i i, D.r (m.map D.i)] : List D).getD 1 .u).int.toNat) 3 [.b false, .i ((i : Int) + 1), .r (f'.map D.i)] := by
      intro p hp1 hp2 hei hlp f' hf1 hf2
      rw [updB, if_pos rfl]
      refine ⟨⟨i + 1, f', hil, by simp, ⟨hf1, fun j hj => ?_⟩, fun j hj => ?_, fun j hj => ?_⟩, ?_⟩
      · by_cases hjl : j < s.cs.length
        · rw [hf2 j hjl] at hj
          split at hj
          · rename_i hjp; exact hp2 _ hjp
          · exact hm.en j hj
        · rw [List.getD_eq_getElem?_getD, List.getElem?_eq_none (by omega)] at hj
          cases hj
      · rw [hf2 j hj]
        split
        · exact .inr rfl
        · exact hm02 j hj
      · rcases Nat.lt_succ_iff_lt_or_eq.1 hj with h | h
        · exact hdone j h
        · rw [h]; exact hei
      · simp [D.int]
        omega
    have hend : En s a → En s i := fun he => by
      cases l with
      | nil => rw [← hhd]; exact he
      | cons y l => rw [← hhd]; exact hch.en he y List.mem_cons_self
    refine ⟨fun hz => ?_, fun hz => ?_⟩
    · -- an unknown cell
      have hz' : f.getD a.toNat 0 = 0 := by
        simp only [go_need, go_br, go_leaf, go_back, allSay, X.says, X.ev, X.evs, evl, tblS, List.getD_cons_zero, List.getD_cons_succ, List.getElem?_cons_zero, List.getElem?_cons_succ, tt_b, int_i, str_s, rs_r, Option.isSome_some, Option.getD_some, decide_eq_true_eq, decide_eq_false_iff_not, dS_eS, dC_eC, dU_eU, dW_eW, dY_eY, eC_0, eC_1, eU_0, eU_1, eW_0, eW_1, eW_2, eY_0, eY_1, eS_0, eS_1, eS_2, eS_3, eS_4, eS_5, List.length_map, i_inj, b_inj, s_inj, eC_eq, eU_eq, eW_eq, eY_eq, eS_eq, rng64, List.take_succ_cons, List.take_zero, List.nil_append, List.cons_append, decide_true, decide_false, Bool.or_true, true_and, and_true, hmark] at hz
        exact hz
      have hc0 : 0 < f.count 0 := List.count_pos_iff.2 (by
        rw [List.getD_eq_getElem?_getD, List.getElem?_eq_getElem (by omega)] at hz'
        have : f[a.toNat] = 0 := hz'
        exact List.mem_iff_getElem.2 ⟨a.toNat, by omega, this⟩)
      have hcl : f.count 0 ≤ f.length := List.count_le_length
      have hset : (f.set a.toNat 1).count 0 = f.count 0 - 1 := by
        rw [List.count_set (by omega)]
        have : f[a.toNat]'(by omega) = 0 := by
          rw [List.getD_eq_getElem?_getD, List.getElem?_eq_getElem (by omega)] at hz'
          exact hz'
        simp [this]
      rw [go_need, go_need, go_need]
      refine ⟨by simp only [go_need, go_br, go_leaf, go_back, allSay, X.says, X.ev, X.evs, evl, tblS, List.getD_cons_zero, List.getD_cons_succ, List.getElem?_cons_zero, List.getElem?_cons_succ, tt_b, int_i, str_s, rs_r, Option.isSome_some, Option.getD_some, decide_eq_true_eq, decide_eq_false_iff_not, dS_eS, dC_eC, dU_eU, dW_eW, dY_eY, eC_0, eC_1, eU_0, eU_1, eW_0, eW_1, eW_2, eY_0, eY_1, eS_0, eS_1, eS_2, eS_3, eS_4, eS_5, List.length_map, i_inj, b_inj, s_inj, eC_eq, eU_eq, eW_eq, eY_eq, eS_eq, rng64, List.take_succ_cons, List.take_zero, List.nil_append, List.cons_append, decide_true, decide_false, Bool.or_true, true_and, and_true]; omega, by simp only [go_need, go_br, go_leaf, go_back, allSay, X.says, X.ev, X.evs, evl, tblS, List.getD_cons_zero, List.getD_cons_succ, List.getElem?_cons_zero, List.getElem?_cons_succ, tt_b, int_i, str_s, rs_r, Option.isSome_some, Option.getD_some, decide_eq_true_eq, decide_eq_false_iff_not, dS_eS, dC_eC, dU_eU, dW_eW, dY_eY, eC_0, eC_1, eU_0, eU_1, eW_0, eW_1, eW_2, eY_0, eY_1, eS_0, eS_1, eS_2, eS_3, eS_4, eS_5, List.length_map, i_inj, b_inj, s_inj, eC_eq, eU_eq, eW_eq, eY_eq, eS_eq, rng64, List.take_succ_cons, List.take_zero, List.nil_append, List.cons_append, decide_true, decide_false, Bool.or_true, true_and, and_true]; omega, by simp only [go_need, go_br, go_leaf, go_back, allSay, X.says, X.ev, X.evs, evl, tblS, List.getD_cons_zero, List.getD_cons_succ, List.getElem?_cons_zero, List.getElem?_cons_succ, tt_b, int_i, str_s, rs_r, Option.isSome_some, Option.getD_some, decide_eq_true_eq, decide_eq_false_iff_not, dS_eS, dC_eC, dU_eU, dW_eW, dY_eY, eC_0, eC_1, eU_0, eU_1, eW_0, eW_1, eW_2, eY_0, eY_1, eS_0, eS_1, eS_2, eS_3, eS_4, eS_5, List.length_map, i_inj, b_inj, s_inj, eC_eq, eU_eq, eW_eq, eY_eq, eS_eq, rng64, List.take_succ_cons, List.take_zero, List.nil_append, List.cons_append, decide_true, decide_false, Bool.or_true, true_and, and_true]; omega, ?_⟩
      rw [go_br]
      have hcond : (X.ev (evl (tblS []) ([eS s, D.b false, D.i i, D.r (m.map D.i)] ++ [D.r (l.map D.i), D.i a, D.b false, D.r (f.map D.i)])) ((.or (.not (.eq (.fld (.get (.fld (.tok 0) 0) (.tok 5)) 0) (.lit (.i 0)))) (.eq (.fld (.get (.fld (.tok 0) 0) (.tok 5)) 1) (.tok 5))))).tt = !decide (Ns s a) := by
        simp only [go_need, go_br, go_leaf, go_back, allSay, X.says, X.ev, X.evs, evl, tblS, List.getD_cons_zero, List.getD_cons_succ, List.getElem?_cons_zero, List.getElem?_cons_succ, tt_b, int_i, str_s, rs_r, Option.isSome_some, Option.getD_some, decide_eq_true_eq, decide_eq_false_iff_not, dS_eS, dC_eC, dU_eU, dW_eW, dY_eY, eC_0, eC_1, eU_0, eU_1, eW_0, eW_1, eW_2, eY_0, eY_1, eS_0, eS_1, eS_2, eS_3, eS_4, eS_5, List.length_map, i_inj, b_inj, s_inj, eC_eq, eU_eq, eW_eq, eY_eq, eS_eq, rng64, List.take_succ_cons, List.take_zero, List.nil_append, List.cons_append, decide_true, decide_false, Bool.or_true, true_and, and_true, cell_get hin, Ns, tagS_in hin]
        by_cases h0 : (cellAt s a).t = 0 <;> simp [h0]
      refine ⟨fun hst => ?_, fun hst => ?_⟩
      · have hns : ¬ Ns s a := by
          have := hcond.symm.trans hst
          simpa using this
        have hea := En.st hns
        refine mark_ok (P := .app (.tok 4) (.row [.tok 5])) (l := l ++ [a]) (m := f.set a.toNat 1) (i := i) rfl (fun e => by simp [X.ev, X.evs, evl, D.rs]) (by simp [X.ev, evl, D.rs, D.int]) rfl ⟨by omega, by omega⟩ (fun x hx => ?_) (by simp; omega) fun f' hf1 hf2 => ?_
        · rcases List.mem_append.1 hx with hx | hx
          · have := inS_iff.1 (hl x hx); simp; omega
          · obtain rfl : x = a := by simpa using hx
            simp; omega
        · refine finish (l ++ [a]) (fun x hx => ?_) (fun x hx => ?_) (hend hea) (fun x hx => List.mem_append_left _ hx) f' (by simpa [hfl] using hf1) fun j hj => ?_
          · rcases List.mem_append.1 hx with hx | hx
            · exact hl x hx
            · obtain rfl : x = a := by simpa using hx
              exact hin
          · rcases List.mem_append.1 hx with hx | hx
            · exact hch.en hea x hx
            · obtain rfl : x = a := by simpa using hx
              exact hea
          · rw [hf2 j (by simp; omega)]
            by_cases hjm : (j : Int) ∈ l ++ [a]
            · rw [if_pos hjm, if_pos hjm]
            · rw [if_neg hjm, if_neg hjm, getD_set (by omega), if_neg, hf j hj, if_neg fun h => hjm (List.mem_append_left _ h)]
              intro e
              exact hjm (List.mem_append_right _ (by simp; omega))
      · have hns : Ns s a := by
          have := hcond.symm.trans hst
          simpa using this
        have hin2 : inS s (cellAt s a).n = true := hrange a hns
        have hb := inS_iff.1 hin2
        have hgb : (D.r ((f.set a.toNat 1).map D.i)).get ((cellAt s a).n) = .i ((f.set a.toNat 1).getD ((cellAt s a).n).toNat 0) := marks_get hb.1 (by simp; omega)
        have hput : D.r ((f.map D.i).set a.toNat (.i 1)) = D.r ((f.set a.toNat 1).map D.i) := by rw [marks_set]
        rw [go_need]
        refine ⟨by simp only [go_need, go_br, go_leaf, go_back, allSay, X.says, X.ev, X.evs, evl, tblS, List.getD_cons_zero, List.getD_cons_succ, List.getElem?_cons_zero, List.getElem?_cons_succ, tt_b, int_i, str_s, rs_r, Option.isSome_some, Option.getD_some, decide_eq_true_eq, decide_eq_false_iff_not, dS_eS, dC_eC, dU_eU, dW_eW, dY_eY, eC_0, eC_1, eU_0, eU_1, eW_0, eW_1, eW_2, eY_0, eY_1, eS_0, eS_1, eS_2, eS_3, eS_4, eS_5, List.length_map, i_inj, b_inj, s_inj, eC_eq, eU_eq, eW_eq, eY_eq, eS_eq, rng64, List.take_succ_cons, List.take_zero, List.nil_append, List.cons_append, decide_true, decide_false, Bool.or_true, true_and, and_true, cell_get hin, List.length_set]; omega, ?_⟩
        rw [go_br]
        simp only [go_need, go_br, go_leaf, go_back, allSay, X.says, X.ev, X.evs, evl, tblS, List.getD_cons_zero, List.getD_cons_succ, List.getElem?_cons_zero, List.getElem?_cons_succ, tt_b, int_i, str_s, rs_r, Option.isSome_some, Option.getD_some, decide_eq_true_eq, decide_eq_false_iff_not, dS_eS, dC_eC, dU_eU, dW_eW, dY_eY, eC_0, eC_1, eU_0, eU_1, eW_0, eW_1, eW_2, eY_0, eY_1, eS_0, eS_1, eS_2, eS_3, eS_4, eS_5, List.length_map, i_inj, b_inj, s_inj, eC_eq, eU_eq, eW_eq, eY_eq, eS_eq, rng64, List.take_succ_cons, List.take_zero, List.nil_append, List.cons_append, decide_true, decide_false, Bool.or_true, true_and, and_true, cell_get hin, hput, hgb]
        have hf' : ∀ j : Nat, j < s.cs.length → (f.set a.toNat 1).getD j 0 = if (j : Int) ∈ l ++ [a] then 1 else m.getD j 0 := fun j hj => by
          rw [getD_set (by omega), hf j hj]
          by_cases hja : a.toNat = j
          · rw [if_pos hja, if_pos (List.mem_append_right _ (by simp; omega))]
          · rw [if_neg hja]
            by_cases hjl : (j : Int) ∈ l
            · rw [if_pos hjl, if_pos (List.mem_append_left _ hjl)]
            · rw [if_neg hjl, if_neg fun h => ?_]
              rcases List.mem_append.1 h with h | h
              · exact hjl h
              · simp at h; omega
        refine ⟨fun hact => ?_, fun hact => ?_⟩
        · have hmem : (cellAt s a).n ∈ l ++ [a] := by
            rw [hf' _ (by omega), show ((((cellAt s a).n).toNat : Nat) : Int) = (cellAt s a).n by omega] at hact
            split at hact
            · assumption
            · have := hm02 ((cellAt s a).n).toNat (by omega)
              omega
          have hcl := closed_no (s := s) (Q := l ++ [a]) fun q hq => by
            rcases List.mem_append.1 hq with hq | hq
            · obtain ⟨g1, g2⟩ := hch.next q hq
              refine ⟨g1, g2.elim (List.mem_append_left _) fun e => List.mem_append_right _ (by simp [e])⟩
            · obtain rfl : q = a := by simpa using hq
              exact ⟨hns, hmem⟩
          have : acyP s = false := all_not hil (hcl _ _ (by
            rw [← hhd]
            cases l <;> simp))
          rw [this]
        · rw [updB, if_pos rfl]
          refine ⟨⟨l ++ [a], (cellAt s a).n, f.set a.toNat 1, by simp, hin2, by simp [hfl], hch.snoc hns rfl, by cases l <;> simpa using hhd, fun x hx => ?_, ?_, hact, hf'⟩, ?_⟩
          · rcases List.mem_append.1 hx with hx | hx
            · exact hl x hx
            · obtain rfl : x = a := by simpa using hx
              exact hin
          · rw [hset]
            simp
            omega
          · show List.count 0 (((f.set a.toNat 1).map D.i).map D.int) < List.count 0 ((f.map D.i).map D.int)
            rw [map_id' int_i, map_id' int_i, hset]
            omega
    · -- a cell that is done
      have hz' : ¬ f.getD a.toNat 0 = 0 := by
        simp only [go_need, go_br, go_leaf, go_back, allSay, X.says, X.ev, X.evs, evl, tblS, List.getD_cons_zero, List.getD_cons_succ, List.getElem?_cons_zero, List.getElem?_cons_succ, tt_b, int_i, str_s, rs_r, Option.isSome_some, Option.getD_some, decide_eq_true_eq, decide_eq_false_iff_not, dS_eS, dC_eC, dU_eU, dW_eW, dY_eY, eC_0, eC_1, eU_0, eU_1, eW_0, eW_1, eW_2, eY_0, eY_1, eS_0, eS_1, eS_2, eS_3, eS_4, eS_5, List.length_map, i_inj, b_inj, s_inj, eC_eq, eU_eq, eW_eq, eY_eq, eS_eq, rng64, List.take_succ_cons, List.take_zero, List.nil_append, List.cons_append, decide_true, decide_false, Bool.or_true, true_and, and_true, hmark] at hz
        exact hz
      have hea : En s a := by
        have h2 : m.getD a.toNat 0 = 2 := by
          have := hm02 a.toNat (by omega)
          omega
        have := hm.en _ h2
        rwa [show ((a.toNat : Nat) : Int) = a by omega] at this
      refine mark_ok (P := .tok 4) (l := l) (m := f) (i := i) rfl (fun e => by simp [X.ev, evl]) (by simp [X.ev, evl]) rfl ⟨by omega, by omega⟩ (fun x hx => ?_) (by omega) fun f' hf1 hf2 => ?_
      · have := inS_iff.1 (hl x hx); omega
      · refine finish l hl (hch.en hea) (hend hea) (fun x hx => hx) f' (by omega) fun j hj => ?_
        rw [hf2 j (by omega)]
        by_cases hjm : (j : Int) ∈ l
        · rw [if_pos hjm, if_pos hjm]
        · rw [if_neg hjm, if_neg hjm, hf j hj, if_neg hjm]
  · have : i = s.cs.length := by
      have : ¬ (i < s.cs.length) := by simpa [X.ev, evl, eS_0, D.int, D.rs, D.tt] using hlt
      omega
    subst this
    have : acyP s = true := all_yes fun j hj => (hdone j hj).ends
    rw [this]
    rfl
end Go.Proofs.Ytcjapglipkmbhaa
