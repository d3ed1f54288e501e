/-
  The reference's functions without loops: Same, Clone, valid, Variant; the law's same. No condition.
-/
import Derived.Test.YtloekfnlidclcaaTb
import Derived.Test.YtloekfnlidclcaaCp
import Derived.BigQuiet
namespace Go.Proofs.Ytloekfnlidclcaa
open Go.RowKit
set_option linter.unusedVariables false

/-- What a term's reader answers. -/
abbrev Says2 (f : FuncId) (b : Tm → Tm → Bool) : Prop := ∀ (t u : Tm) (w : World) (y z : Value), TmAt w w.heap.size t y → TmAt w w.heap.size u z → Calls Try.prog f #[y, z] w fun e w' => e = .returned (.bool (b t u)) ∧ But Nil w w'

theorem rsame_any : Says2 63 sameT := by
  intro t u w y z hy hz
  letI : Env := { T := fun n => match n with | 0 => t | _ => u }
  have ents : ∀ b c d, validT t = b → validT u = c → eqT t u = d → Entries [(23, [.tok 0], .val (.bool b)), (23, [.tok 1], .val (.bool c)), (83, [.tok 0, .tok 1], .val (.bool d))] := fun b c d hb hc hd =>
    ⟨ent_tv (fun _ _ => by kernel_rfl) fun w y h => hb ▸ rvalid_any t w y h, ent_tv (fun _ _ => by kernel_rfl) fun w y h => hc ▸ rvalid_any u w y h, ent_ttv (fun _ _ => by kernel_rfl) fun w y z h h' => hd ▸ rident_any t u w y z h h', trivial⟩
  have run : ∀ b c d, validT t = b → validT u = c → eqT t u = d → Entry 63 [.tok 0, .tok 1] (.val (.bool (b && c && d))) := fun b c d hb hc hd => by
    cases b <;> cases c <;> cases d <;>
      exact entry_code (tbl_ok (ents _ _ _ hb hc hd)) [.tok 0, .tok 1] Try.func63 rfl (fun _ _ => by kernel_rfl) (by kernel_rfl) (by kernel_rfl) rfl rfl (by simp [Try.ntmps63])
  exact (run _ _ _ rfl rfl rfl).val (vs := [y, z]) ⟨hy.fr, hz.fr, trivial⟩

end Go.Proofs.Ytloekfnlidclcaa

namespace Go.Proofs.Ytloekfnlidclcaa
open Go.RowKit Go.Maps
set_option linter.unusedVariables false

end Go.Proofs.Ytloekfnlidclcaa

namespace Go.Proofs.Ytloekfnlidclcaa
open Go.RowKit
set_option linter.unusedVariables false

/-- A function that makes a term of a term. -/
structure ConT (f : FuncId) (t u : Tm) : Prop where
  enter : ∀ args w, (callFunc f args).run Try.prog w = .ok (.enter f args) w
  call : ∀ (p : Nat → Option Nat) w v, TmIn w (Fr p) t v → Calls Try.prog f #[v] w fun e w' => ∃ x p', e = .returned x ∧ Ext p w p' w' ∧ TmIn w' (Fr p') u x

theorem Entry.con [Env] {f : FuncId} {n k : Nat} (h : Entry f [.tok n] (.tok k)) : ConT f (Env.T n) (Env.T k) := ⟨h.enter, fun p w v hv => h.call p w [v] ⟨hv, trivial⟩⟩
theorem Entry.conT [Env] {f : FuncId} {n : Nat} {u : Tm} (h : Entry f [.tok n] (.term u)) : ConT f (Env.T n) u := ⟨h.enter, fun p w v hv => h.call p w [v] ⟨hv, trivial⟩⟩
theorem ConT.ent [Env] {f : FuncId} {n k : Nat} (h : ConT f (Env.T n) (Env.T k)) : Entry f [.tok n] (.tok k) := ⟨h.enter, fun p w vs hv => by
  match vs, hv with
  | [v], ⟨h1, _⟩ => exact h.call p w v h1⟩

theorem rclone_con (t : Tm) : ConT 26 t (cloneT t) := by
  letI : Env := { T := fun _ => t }
  cases hb : validT t with
  | false =>
    have h : Entry 26 [.tok 0] (.term zeroT) :=
      entry_code (tbl_ok (T := [(23, [.tok 0], .val (.bool false))]) ⟨ent_tv (fun _ _ => by kernel_rfl) fun w y h => hb ▸ rvalid_any t w y h, trivial⟩) [.tok 0] Try.func26 rfl (fun _ _ => by kernel_rfl) (by kernel_rfl) (by kernel_rfl) rfl rfl (by simp [Try.ntmps26])
    have h2 : ConT 26 t zeroT := h.conT
    rw [show cloneT t = zeroT by simp [cloneT, hb]]
    exact h2
  | true =>
    have h : Entry 26 [.tok 0] (.tok 0) :=
      entry_code (tbl_ok (T := [(23, [.tok 0], .val (.bool true)), (69, [.tok 0], .tok 0)]) ⟨ent_tv (fun _ _ => by kernel_rfl) fun w y h => hb ▸ rvalid_any t w y h, ent_tt (fun _ _ => by kernel_rfl) fun w y h => copied_any t w y h (valid_fits hb), trivial⟩) [.tok 0] Try.func26 rfl (fun _ _ => by kernel_rfl) (by kernel_rfl) (by kernel_rfl) rfl rfl (by simp [Try.ntmps26])
    have h2 : ConT 26 t t := h.con
    rw [show cloneT t = t by simp [cloneT, hb]]
    exact h2

theorem rvalidc_con (t : Tm) : ConT 64 t (cloneT t) := by
  letI : Env := { T := fun n => match n with | 0 => t | _ => cloneT t }
  have h : Entry 64 [.tok 0] (.tok 1) :=
    entry_code (tbl_ok (T := [(26, [.tok 0], .tok 1)]) ⟨ConT.ent (rclone_con t), trivial⟩) [.tok 0] Try.func64 rfl (fun _ _ => by kernel_rfl) (by kernel_rfl) (by kernel_rfl) rfl rfl (by simp [Try.ntmps64])
  exact h.con

theorem addV_mem (l : List Int) (n : Int) : n ∈ addV l n := by
  unfold addV
  split
  · assumption
  · simp

theorem addV_ext (l : List Int) (n : Int) : ∃ r, addV l n = l ++ r := by
  unfold addV
  split
  · exact ⟨[], by simp⟩
  · exact ⟨[n], rfl⟩

theorem vars_ext (t : Tm) : ∀ s, ∃ r, (appT varG s t).1 = s ++ r := by
  induction t using Tm.ind with
  | h k n nm ts ih =>
    intro s
    unfold appT
    by_cases hk : k = 0
    · rw [if_pos hk]
      exact addV_ext s n
    · rw [if_neg hk]
      have aux : ∀ (l : List Tm), (∀ a ∈ l, ∀ s, ∃ r, (appT varG s a).1 = s ++ r) → ∀ s, ∃ r, (appL varG s l).1 = s ++ r := by
        intro l
        induction l with
        | nil => intro _ s; exact ⟨[], by simp [appL]⟩
        | cons a l ihl =>
          intro h s
          obtain ⟨r1, h1⟩ := h a (List.mem_cons_self) s
          obtain ⟨r2, h2⟩ := ihl (fun b hb => h b (List.mem_cons_of_mem _ hb)) (appT varG s a).1
          exact ⟨r1 ++ r2, by simp only [appL]; rw [h2, h1, List.append_assoc]⟩
      exact aux ts ih s

theorem idx_ext {l r : List Int} {n : Int} (h : n ∈ l) : (l ++ r).idxOf n = l.idxOf n := by
  rw [List.idxOf_append, if_pos h]

/-- The canonical form is the numbering by the list of all variables. -/
theorem can_num (L : List Int) (t : Tm) : ∀ s, (∃ r, L = (appT varG s t).1 ++ r) → (appT canG s t).1 = (appT varG s t).1 ∧ (appT canG s t).2 = (appT (numG L) () t).2 := by
  induction t using Tm.ind with
  | h k n nm ts ih =>
    intro s hL
    by_cases hk : k = 0
    · subst hk
      obtain ⟨r, hr⟩ := hL
      simp only [appT, if_true, varG, Tm.num] at hr
      simp only [appT, if_true, canG, varG, numG, Tm.num, true_and]
      have hm : n ∈ addV s n := addV_mem s n
      have : posI L n = ((addV s n).idxOf n : Nat) := by
        unfold posI
        rw [if_pos (by rw [hr]; exact List.mem_append_left _ hm), hr, idx_ext hm]
      rw [this]
    · have aux : ∀ (l : List Tm), (∀ a ∈ l, ∀ s, (∃ r, L = (appT varG s a).1 ++ r) → (appT canG s a).1 = (appT varG s a).1 ∧ (appT canG s a).2 = (appT (numG L) () a).2) → ∀ s, (∃ r, L = (appL varG s l).1 ++ r) →
          (appL canG s l).1 = (appL varG s l).1 ∧ (appL canG s l).2 = (appL (numG L) () l).2 := by
        intro l
        induction l with
        | nil => intro _ s _; simp [appL]
        | cons a l ihl =>
          intro h s hL
          simp only [appL] at hL ⊢
          have hL1 : ∃ r, L = (appT varG s a).1 ++ r := by
            obtain ⟨r, hr⟩ := hL
            have ext : ∀ (l : List Tm) s, ∃ r, (appL varG s l).1 = s ++ r := fun l => by
              induction l with
              | nil => intro s; exact ⟨[], by simp [appL]⟩
              | cons b l ihb =>
                intro s
                obtain ⟨r1, h1⟩ := vars_ext b s
                obtain ⟨r2, h2⟩ := ihb (appT varG s b).1
                exact ⟨r1 ++ r2, by simp only [appL]; rw [h2, h1, List.append_assoc]⟩
            obtain ⟨r2, h2⟩ := ext l (appT varG s a).1
            exact ⟨r2 ++ r, by rw [hr, h2, List.append_assoc]⟩
          obtain ⟨h1, h2⟩ := h a (List.mem_cons_self) s hL1
          obtain ⟨h3, h4⟩ := ihl (fun b hb => h b (List.mem_cons_of_mem _ hb)) (appT varG s a).1 hL
          rw [h1]
          exact ⟨h3, by rw [h2, h4]⟩
      simp only [appT, if_neg hk] at hL ⊢
      obtain ⟨h1, h2⟩ := aux ts ih s hL
      exact ⟨h1, by rw [h2]⟩

end Go.Proofs.Ytloekfnlidclcaa

namespace Go.Proofs.Ytloekfnlidclcaa
open Go.RowKit Go.Maps
set_option linter.unusedVariables false

theorem list_eq_of {l l' : List Int} (hl : l.length = l'.length) (h : ∀ q (h1 : q < l.length) (h2 : q < l'.length), l[q] = l'[q]) : l = l' := List.ext_getElem hl fun q h1 h2 => h q h1 h2

/-- A function that makes a list of numbers of a term. -/
structure ConI (f : FuncId) (t : Tm) (l : List Int) : Prop where
  enter : ∀ args w, (callFunc f args).run Try.prog w = .ok (.enter f args) w
  call : ∀ (p : Nat → Option Nat) w v, TmIn w (Fr p) t v → Calls Try.prog f #[v] w fun e w' => ∃ A cap p', e = .returned (.slice A l.length cap) ∧ Ext p w p' w' ∧ l.length ≤ cap ∧ cap ≤ maxLen ∧ l.length ≤ 1099511627777 ∧ IntsIn w' (Fr p') A l

theorem ConI.ent [Env] {f : FuncId} {n k : Nat} (h : ConI f (Env.T n) (Env.L k)) : Entry f [.tok n] (.itok k) := ⟨h.enter, fun p w vs hv => by
  match vs, hv with
  | [v], ⟨h1, _⟩ =>
    refine (h.call p w v h1).mono ?_
    rintro e w' ⟨A, cap, p', rfl, hx, h2, h3, h4, h5⟩
    exact ⟨_, p', rfl, hx, A, cap, rfl, h2, h3, h4, h5⟩⟩

end Go.Proofs.Ytloekfnlidclcaa

namespace Go.Proofs.Ytloekfnlidclcaa
open Go.RowKit Go.Maps
set_option linter.unusedVariables false

abbrev put4 (w : World) (g : Nat) (t : Tm) (A : Option Addr) (cap : Nat) : World :=
  (((w.setCell ⟨g, 0, none⟩ (.int .i64 t.kind)).setCell ⟨g, 1, none⟩ (.int .i64 t.num)).setCell ⟨g, 2, none⟩ (.string t.name)).setCell ⟨g, 3, none⟩ (.slice A t.args.length cap)

/-- The pins without block g. -/
def unpin (p : Nat → Option Nat) (g : Nat) : Nat → Option Nat := fun b => if b = g then none else p b

/-- A term made into the result's cell. -/
theorem made {f : FuncId} {t u : Tm} (hT : ConT f t u) (p : Nat → Option Nat) {p2 : Nat → Option Nat} {w w0 : World} {v : Value} {g : Nat} (hg : w.heap[g]? = some (TB zeroT none 0)) (hx : Ext p w0 p2 w) (hgw : w0.heap.size ≤ g) (hv : TmIn w (fun b => p2 b = none ∧ b ≠ g) t v) :
    Calls Try.prog f #[v] w fun e w1 => ∃ A cap, e = .returned (VT u A cap) ∧ w1.heap[g]? = some (TB zeroT none 0) ∧ ∃ p', Ext p w0 p' (put4 w1 g u A cap) ∧ TmIn (put4 w1 g u A cap) (Fr p') u (VT u A cap) := by
  have hv' : TmIn w (Fr fun b => if b = g then some 0 else p2 b) t v := TmIn.keeps (fun k o hk hd => ⟨hk, by show (if k = g then some 0 else p2 k) = none; rw [if_neg hd.2]; exact hd.1⟩) _ hv
  refine (hT.call _ w v hv').mono ?_
  rintro e w1 ⟨x, p1, rfl, hx1, hu⟩
  obtain ⟨A, cap, rfl, -⟩ := hu.form
  have hgl := lt_of_heap hg
  have hp1 : p1 g = some 0 := by rw [hx1.pin g hgl, if_pos rfl]
  have hb := (But.refl (· = g) w1).set4 (k := g) (.inl rfl) (.int .i64 u.kind) (.int .i64 u.num) (.string u.name) (.slice A u.args.length cap)
  refine ⟨A, cap, rfl, hx1.but.heap id hg, unpin p1 g, ⟨(hx.but.trans_nil hx1.but).trans hb fun i hi _ => .inr (by subst hi; exact hgw), fun b hb' => ?_⟩, ?_⟩
  · have h1 := hx.but.size
    have hbg : b ≠ g := by omega
    unfold unpin
    rw [if_neg hbg, hx1.pin b (by omega), if_neg hbg]
    exact hx.pin b hb'
  · refine TmIn.keeps (fun k o hk hd => ?_) _ hu
    have hkg : k ≠ g := fun e => by rw [e] at hd; simp only [Fr] at hd; rw [hp1] at hd; cases hd
    exact ⟨hb.heap hkg hk, by show unpin p1 g k = none; unfold unpin; rw [if_neg hkg]; exact hd⟩

/-- A function that makes a term of values. -/
def MakesT (f : FuncId) (args : Array Value) (p : Nat → Option Nat) (w : World) (u : Tm) : Prop :=
  Calls Try.prog f args w fun e w' => ∃ x p', e = .returned x ∧ Ext p w p' w' ∧ TmIn w' (Fr p') u x

/-- A contract of a maker, where its cell is made. -/
theorem made' {f : FuncId} {args : Array Value} {u : Tm} (hM : ∀ (p : Nat → Option Nat) (w : World), MakesT f args p w u) (p : Nat → Option Nat) {w w0 : World} {g : Nat} (hg : w.heap[g]? = some (TB zeroT none 0)) (hx : Ext p w0 p w) (hgw : w0.heap.size ≤ g) :
    Calls Try.prog f args w fun e w1 => ∃ A cap, e = .returned (VT u A cap) ∧ w1.heap[g]? = some (TB zeroT none 0) ∧ ∃ p', Ext p w0 p' (put4 w1 g u A cap) ∧ TmIn (put4 w1 g u A cap) (Fr p') u (VT u A cap) := by
  refine (hM (fun b => if b = g then some 0 else p b) w).mono ?_
  rintro e w1 ⟨x, p1, rfl, hx1, hu⟩
  obtain ⟨A, cap, rfl, -⟩ := hu.form
  have hgl := lt_of_heap hg
  have hp1 : p1 g = some 0 := by rw [hx1.pin g hgl, if_pos rfl]
  have hb := (But.refl (· = g) w1).set4 (k := g) (.inl rfl) (.int .i64 u.kind) (.int .i64 u.num) (.string u.name) (.slice A u.args.length cap)
  refine ⟨A, cap, rfl, hx1.but.heap id hg, unpin p1 g, ⟨(hx.but.trans_nil hx1.but).trans hb fun i hi _ => .inr (by subst hi; exact hgw), fun b hb' => ?_⟩, ?_⟩
  · have h1 := hx.but.size
    have hbg : b ≠ g := by omega
    unfold unpin
    rw [if_neg hbg, hx1.pin b (by omega), if_neg hbg]
  · refine TmIn.keeps (fun k o hk hd => ?_) _ hu
    have hkg : k ≠ g := fun e => by rw [e] at hd; simp only [Fr] at hd; rw [hp1] at hd; cases hd
    exact ⟨hb.heap hkg hk, by show unpin p1 g k = none; unfold unpin; rw [if_neg hkg]; exact hd⟩

end Go.Proofs.Ytloekfnlidclcaa

namespace Go.Proofs.Ytloekfnlidclcaa
open Go.RowKit Go.Maps
set_option linter.unusedVariables false

/-- What the reference makes. -/
def rindT (s : ByteArray) (n : Int) : Tm := if 0 ≤ n ∧ n ≤ 8 then cloneT (.mk 3 0 ⟨#[47]⟩ [.mk 2 0 s [], .mk 1 n ⟨#[]⟩ []]) else zeroT

end Go.Proofs.Ytloekfnlidclcaa

namespace Go.Proofs.Ytloekfnlidclcaa
open Go.RowKit
set_option linter.unusedVariables false

theorem same_self {t : Tm} (h : validT t = true) : sameT t t = true := by simp [sameT, h, eqT_refl]

theorem zero_valid : validT zeroT = true := by simp [zeroT, validT, fitsT, fitsL, nodeB, sizeT, leftT, leftL]

theorem clone_valid (t : Tm) : validT (cloneT t) = true := by
  unfold cloneT
  split
  · assumption
  · exact zero_valid

theorem same_clone (t : Tm) : sameT (cloneT t) (cloneT t) = true := same_self (clone_valid t)

theorem var_clone (n : Int) : varT n = cloneT (.mk 0 n ⟨#[]⟩ []) := by
  unfold varT cloneT numB
  have h : validT (.mk 0 n ⟨#[]⟩ []) = (decide (0 ≤ n) && decide (n ≤ 1099511627776)) := by
    simp [validT, fitsT, fitsL, nodeB, sizeT, leftT, leftL]
  rw [h]

theorem int_valid (n : Int) : validT (intT n) = true := by simp [intT, validT, fitsT, fitsL, nodeB, sizeT, leftT, leftL]

theorem atom_valid (s : ByteArray) : validT (atomT s) = true := clone_valid _
theorem struct_valid (s : ByteArray) (l : List Tm) : validT (structT s l) = true := by
  unfold structT
  split
  · exact clone_valid _
  · exact clone_valid _

theorem ind_rind (s : ByteArray) (n : Int) : indT s n = rindT s n := by
  unfold indT rindT indOk
  by_cases hn : 0 ≤ n ∧ n ≤ 8
  · rw [if_pos hn]
    by_cases hs : (s.size : Int) ≤ 100
    · rw [if_pos (by simp [hn, hs])]
      have : atomT s = .mk 2 0 s [] := by
        unfold atomT cloneT
        rw [if_pos (by simp [validT, fitsT, fitsL, nodeB, sizeT, leftT, leftL, hs])]
      rw [this]
      rfl
    · rw [if_neg (by simp [hn, hs])]
      unfold cloneT
      rw [if_neg]
      simp [validT, fitsT, fitsL, nodeB, hs]
  · rw [if_neg hn, if_neg]
    intro h
    simp only [Bool.and_eq_true, decide_eq_true_eq] at h
    exact hn h.2

theorem rind_valid (s : ByteArray) (n : Int) : validT (rindT s n) = true := by
  unfold rindT
  split
  · exact clone_valid _
  · exact zero_valid

section
variable [Env]

/-- A function that makes a numbered term of knowns. -/
theorem ent_mk {f : FuncId} {l : List Ab} {k : Nat} (hen : ∀ args w, (callFunc f args).run Try.prog w = .ok (.enter f args) w) (h : ∀ p w vs, Args p w l vs → MakesT f vs.toArray p w (Env.T k)) : Entry f l (.tok k) := ⟨hen, h⟩

omit [Env] in
theorem makes_new {f : FuncId} {args : Array Value} {p : Nat → Option Nat} {w : World} {u : Tm} (h : Calls Try.prog f args w fun e w' => ∃ x, e = .returned x ∧ TmNew w' w.heap.size u x ∧ But Nil w w') : MakesT f args p w u :=
  h.mono fun _ _ ⟨x, he, ht, hb⟩ => ⟨x, pin0 p w, he, Ext.plain hb, ht.pins⟩
end

end Go.Proofs.Ytloekfnlidclcaa
