/-
  Maps from int64 to integers that a call makes: what they hold. Plain laws. No condition.
-/
import Derived.Test.YtloekfnlidclcaaBt
import Derived.Test.YtloekfnlidclcaaRows
import Derived.Maps.OwnSet
import Derived.Maps.OwnOps
import Derived.Test.YtloekfnlidclcaaCl
import Derived.Deep.DeepCutAuto
import Derived.Test.YtloekfnlidclcaaVa
import Derived.Deep.RegionWith
import Derived.Deep.LoopGhost
namespace Go.Proofs.Ytloekfnlidclcaa
open Go.RowKit Go.Maps
set_option linter.unusedVariables false

theorem lawI : Keyed Try.prog 2 := int_keyed Try.underlying2

/-- Block b is a map with the keys ks, and the value f n at n. -/
def MapI (E : TypeId) (w : World) (b : Nat) (ks : List Int) (f : Int → Int) : Prop :=
  ∃ D : DataW Unit, w.ownsMap Try.prog 2 (plainElem Try.prog E) b ks.length D ∧ (∀ n, D.atKey (.int .i64 n) (.lit (.int .i64 0)) = .lit (.int .i64 (if n ∈ ks then f n else 0))) ∧
    (∀ n, Maps.has D (.int .i64 n) = decide (n ∈ ks)) ∧ Maps.size D = ks.length

theorem MapI.made (E : TypeId) (w : World) (f : Int → Int) : MapI E (w.alloc (.map #[] 0)) w.heap.size [] f :=
  ⟨.map [], World.ownsMap_made _ _ _ _, fun n => by simp [DataW.atKey], fun n => by simp [Maps.has], by simp [Maps.size]⟩

theorem MapI.but {E : TypeId} {S : Nat → Prop} {w w' : World} {b : Nat} {ks : List Int} {f : Int → Int} (h : MapI E w b ks f) (hb : But S w w') (hS : ¬ S b) : MapI E w' b ks f := by
  obtain ⟨D, ⟨es, clock, h1, h2⟩, r⟩ := h
  exact ⟨D, ⟨es, clock, hb.heap hS h1, h2⟩, r⟩

theorem MapI.isMap {E : TypeId} {w : World} {b : Nat} {ks : List Int} {f : Int → Int} (h : MapI E w b ks f) : ∃ es clock, w.heap[b]? = some (.map es clock) := by
  obtain ⟨D, ⟨es, clock, h1, h2⟩, r⟩ := h
  exact ⟨es, clock, h1⟩

theorem lit_ne {n m : Int} (h : ¬ n = m) : (Lit.int .i64 n) ≠ Lit.int .i64 m := by
  intro e
  injection e with _ e
  exact h e

/-- A new key. -/
theorem MapI.put {E : TypeId} {w' : World} {b : Nat} {D : DataW Unit} {ks : List Int} {f g : Int → Int} {x c : Int} (hown : w'.ownsMap Try.prog 2 (plainElem Try.prog E) b (ks.length + 1) (D.put (.int .i64 x) (.lit (.int .i64 c))))
    (hD : IsMap D) (hT : Tidy D) (hat : ∀ n, D.atKey (.int .i64 n) (.lit (.int .i64 0)) = .lit (.int .i64 (if n ∈ ks then f n else 0)))
    (hh : ∀ n, Maps.has D (.int .i64 n) = decide (n ∈ ks)) (hs : Maps.size D = ks.length) (hx : ¬ x ∈ ks) (hgx : g x = c) (hg : ∀ n ∈ ks, g n = f n) : MapI E w' b (ks ++ [x]) g := by
  refine ⟨_, by simpa using hown, fun n => ?_, fun n => ?_, ?_⟩
  · by_cases hn : n = x
    · subst hn
      rw [atKey_put_same hD (show WideAt.IsKeyLit (Lit.int .i64 n) from trivial)]
      simp [hgx]
    · rw [atKey_put_other (lit_ne hn), hat n]
      by_cases hk : n ∈ ks
      · simp [hk, hg n hk]
      · simp [hk, hn]
  · by_cases hn : n = x
    · subst hn
      rw [has_put_same hD (show WideAt.IsKeyLit (Lit.int .i64 n) from trivial)]
      simp
    · rw [has_put_other (lit_ne hn), hh n]
      simp [hn]
  · rw [size_put hT, hh x, hs]
    simp [hx]

/-- Distinct integers from 0 to m are m + 1 at most. -/
theorem nodup_le : ∀ (m : Nat) (l : List Int), l.Nodup → (∀ x ∈ l, 0 ≤ x ∧ x < m) → l.length ≤ m
  | 0, l, _, h => by
    cases l with
    | nil => simp
    | cons x l => have := h x (by simp); omega
  | m + 1, l, hn, h => by
    have h1 := nodup_le m (l.erase (m : Int)) (hn.erase _) (fun x hx => by
      have hx' := (List.Nodup.mem_erase_iff hn).1 hx
      have := h x hx'.2
      have hne := hx'.1
      omega)
    have h2 := List.length_erase (a := (m : Int)) (l := l)
    split at h2 <;> omega

end Go.Proofs.Ytloekfnlidclcaa

namespace Go.Proofs.Ytloekfnlidclcaa
open Go.RowKit Go.Maps
set_option linter.unusedVariables false

def addV (l : List Int) (n : Int) : List Int := if n ∈ l then l else l ++ [n]
/-- The canonical form: l are the variables that were met before. -/
def canG (l : List Int) (t : Tm) : List Int × Tm := (addV l t.num, .mk 0 ((addV l t.num).idxOf t.num) ⟨#[]⟩ [])

structure InvV (l : List Int) : Prop where
  nodup : l.Nodup
  bd : ∀ x ∈ l, 0 ≤ x ∧ x ≤ 1099511627776

theorem InvV.len {l : List Int} (h : InvV l) : l.length ≤ 1099511627777 := nodup_le 1099511627777 l h.nodup fun x hx => by have := h.bd x hx; omega

theorem InvV.add {l : List Int} (h : InvV l) {n : Int} (h0 : 0 ≤ n) (h1 : n ≤ 1099511627776) : InvV (addV l n) := by
  unfold addV
  split
  · exact h
  · rename_i hn
    refine ⟨?_, fun x hx => ?_⟩
    · rw [List.nodup_append]
      exact ⟨h.nodup, by simp, fun a ha b hb => by simp at hb; subst hb; intro e; subst e; exact hn ha⟩
    · rcases List.mem_append.1 hx with hx | hx
      · exact h.bd x hx
      · simp at hx; omega

theorem var_bd {t : Tm} (hk : t.kind = 0) (h : nodeB t = true) : 0 ≤ t.num ∧ t.num ≤ 1099511627776 := by
  cases t with
  | mk k n s l =>
    simp only [Tm.kind] at hk
    subst hk
    simp [nodeB] at h
    exact h.1.1

theorem zeroE64 (w : World) : (zeroValue 2).run Try.prog w = .ok (.int .i64 0) w := by kernel_rfl

/-- The canonical form. -/
def canonT (t : Tm) : Tm := if validT t then (appT canG [] t).2 else zeroT

end Go.Proofs.Ytloekfnlidclcaa

namespace Go.Proofs.Ytloekfnlidclcaa
open Go.RowKit Go.Maps
set_option linter.unusedVariables false

/-- A slice of integers at A reads as l; its cells lie in blocks of D. -/
def IntsIn (w : World) (D : Nat → Prop) (A : Option Addr) (l : List Int) : Prop :=
  ∀ j (h : j < l.length), ∃ b o, A = some ⟨b, o, none⟩ ∧ D b ∧ w.cell? ⟨b, o + j, none⟩ = some (.int .i64 l[j])

theorem IntsIn.but {S D D' : Nat → Prop} {w w' : World} {A : Option Addr} {l : List Int} (h : IntsIn w D A l) (hb : But S w w') (hS : ∀ k, D k → ¬ S k ∧ D' k) : IntsIn w' D' A l := fun j hj => by
  obtain ⟨b, o, rfl, hd, hc⟩ := h j hj
  exact ⟨b, o, rfl, (hS b hd).2, hb.cell (hS b hd).1 hc⟩

theorem IntsIn.nil {D : Nat → Prop} {w w' : World} {A : Option Addr} {l : List Int} (h : IntsIn w D A l) (hb : But Nil w w') : IntsIn w' D A l := h.but hb fun k hk => ⟨id, hk⟩

theorem IntsIn.of_row {w : World} {base e : Nat} {v : Value} {l : List Int} (h : w.ownsRow base e 1 v l.length (l.map (.int .i64))) : ∃ A cap, v = .slice A l.length cap ∧ l.length ≤ cap ∧ cap ≤ maxLen ∧ IntsIn w (fun b => base ≤ b) A l := by
  rcases h.2 with ⟨rfl, h0⟩ | ⟨g, cap, cur, rfl, hg, hh, hc1, hc2, hc3, hc4⟩
  · have : l = [] := List.eq_nil_of_length_eq_zero h0
    subst this
    exact ⟨none, 0, rfl, by simp, by unfold maxLen; omega, fun j hj => by simp at hj⟩
  · refine ⟨some ⟨g, 0, none⟩, cap, rfl, hc1, hc2, fun j hj => ⟨g, 0, rfl, hg, ?_⟩⟩
    rw [h.cellAt _ (by omega)]
    simp [hj]

def varG (l : List Int) (t : Tm) : List Int × Tm := (addV l t.num, t)

theorem Try.infoI64 : (Try.prog.info? 2).map (fun i => (i.zero, i.size, i.bytes)) = some (some (.int .i64 0), 1, 8) := by kernel_rfl

theorem zeroEint (w : World) : (zeroValue 3).run Try.prog w = .ok (.int .i64 0) w := by kernel_rfl

theorem own_far {w : World} {base e size n k : Nat} {v : Value} {xs : List Value} {o : Obj} (h : w.ownsRow base e size v n xs) (hk : w.heap[k]? = some o) (hne : ∀ cs f, o ≠ .cells cs e f) : v.ownBlock ≠ some k := by
  rcases h.2 with ⟨rfl, _⟩ | ⟨g', cap, cur, rfl, hg', hh, r⟩
  · simp [Value.ownBlock]
  · intro e
    obtain rfl : g' = k := by simpa [Value.ownBlock] using e
    rw [hk] at hh
    injection hh with hh
    exact hne _ _ hh

theorem own_ntblk {w : World} {base e size n k : Nat} {v : Value} {xs : List Value} (h : w.ownsRow base e size v n xs) (he : e ≠ 24) (hk : v.ownBlock = some k) : ¬ TBlk w k := fun ⟨c, f, hc⟩ => own_far h hc (by intro cs f e'; injection e' with _ e'; exact he e'.symm) hk

/-- The variables. -/
def varsT (t : Tm) : List Int := if validT t then (appT varG [] t).1 else []

end Go.Proofs.Ytloekfnlidclcaa

namespace Go.Proofs.Ytloekfnlidclcaa
open Go.RowKit Go.Maps
set_option linter.unusedVariables false

def numB (n : Int) : Bool := decide (0 ≤ n) && decide (n ≤ 1099511627776)

def renG (from_ : Int) : Unit → Tm → Unit × Tm := fun _ t => ((), .mk 0 (t.num + from_) ⟨#[]⟩ [])

def renameT (t : Tm) (n : Int) : Tm × Int :=
  if validT t && numB n then if (varsT t).any (fun v => decide (1099511627776 - n < v)) then (zeroT, 2) else ((appT (renG n) () t).2, 0) else (zeroT, 1)

end Go.Proofs.Ytloekfnlidclcaa

namespace Go.Proofs.Ytloekfnlidclcaa
open Go.RowKit Go.Maps
set_option linter.unusedVariables false

/-- The first function of Replace counts. -/
def repS (v d : Int) : Int → Tm → Int × Tm := fun s t => (if t.num = v then wrap64 (s + d) else s, t)
/-- The second puts the term in. -/
def repG (v : Int) (by_ : Tm) : Unit → Tm → Unit × Tm := fun _ t => ((), if t.num = v then cloneT by_ else t)

def InvS (pv ps pe : Nat) (v d s : Int) (w : World) : Prop :=
  w.heap[pv]? = some (.cells #[.int .i64 v] 2 (0, 0)) ∧ w.heap[ps]? = some (.cells #[.int .i64 s] 3 (0, 0)) ∧ w.heap[pe]? = some (.cells #[.int .i64 d] 3 (0, 0)) ∧ pe ≠ ps

/-- The term that is put in lies below B. -/
def InvB (B pv pb : Nat) (v : Int) (by_ : Tm) (w : World) : Prop :=
  w.heap[pv]? = some (.cells #[.int .i64 v] 2 (0, 0)) ∧ pb < B ∧ B ≤ w.heap.size ∧ ∃ A cap, w.heap[pb]? = some (TB by_ A cap) ∧ TmIn w (fun b => b < B) by_ (.agg #[.int .i64 by_.kind, .int .i64 by_.num, .string by_.name, .slice A by_.args.length cap])

theorem InvB.but {S : Nat → Prop} {B pv pb : Nat} {v : Int} {by_ : Tm} {w w' : World} (h : InvB B pv pb v by_ w) (hb : But S w w') (hv : ¬ S pv) (hS : ∀ k, S k → B ≤ k) : InvB B pv pb v by_ w' := by
  obtain ⟨h1, h2, h3, A, cap, h4, h5⟩ := h
  exact ⟨hb.heap hv h1, h2, by have := hb.size; omega, A, cap, hb.heap (fun hs => by have := hS _ hs; omega) h4, TmIn.keeps (fun k o hk hd => ⟨hb.heap (fun hs => by have := hS _ hs; omega) hk, hd⟩) _ h5⟩

theorem But.setNew {a w : World} (h : But Nil a w) {k i : Nat} (hk : a.heap.size ≤ k) {u : Value} : But Nil a (w.setCell ⟨k, i, none⟩ u) := h.setCell (p := ⟨k, i, none⟩) (.inr hk) u

theorem size_bd (t : Tm) : 1 ≤ sizeT t ∧ sizeT t ≤ 2001 := by
  have := left_bd t 2001 (by omega)
  unfold sizeT
  omega

def replaceT (t : Tm) (v : Int) (by_ : Tm) : Tm × Int :=
  if validT t && numB v && validT by_ then if 2000 < (appT (repS v (sizeT by_ - 1)) (sizeT t) t).1 then (zeroT, 2) else ((appT (repG v by_) () t).2, 0) else (zeroT, 1)

end Go.Proofs.Ytloekfnlidclcaa

namespace Go.Proofs.Ytloekfnlidclcaa
open Go.RowKit Go.Maps
set_option linter.unusedVariables false

/-- The four cells of a term. -/
abbrev C4 (t : Tm) (A : Option Addr) (cap : Nat) : List Value := [.int .i64 t.kind, .int .i64 t.num, .string t.name, .slice A t.args.length cap]
abbrev VT (t : Tm) (A : Option Addr) (cap : Nat) : Value := .agg #[.int .i64 t.kind, .int .i64 t.num, .string t.name, .slice A t.args.length cap]

/-- A row of one, two, three terms. -/
theorem args1 {w : World} {B b : Nat} {cs : Array Value} {f : Nat × Nat} {t : Tm} {A : Option Addr} {cap : Nat} (hb : w.heap[b]? = some (.cells cs 24 f)) (hc : cs.toList = C4 t A cap) (ht : TmAt w B t (VT t A cap)) :
    ArgsAt w B [t] (some ⟨b, 0, none⟩) 0 := by
  have hcs : cs = (C4 t A cap).toArray := by rw [← hc]
  subst hcs
  unfold ArgsAt ArgsIn ArgsIn
  exact ⟨⟨b, 0, _, _, _, _, rfl, .inr ⟨_, _, hb⟩, cell_of_row _ _ 0 _ _ _ hb, cell_of_row _ _ 1 _ _ _ hb, cell_of_row _ _ 2 _ _ _ hb, cell_of_row _ _ 3 _ _ _ hb, ht⟩, trivial⟩

theorem args2 {w : World} {B b : Nat} {cs : Array Value} {f : Nat × Nat} {t t' : Tm} {A A' : Option Addr} {cap cap' : Nat} (hb : w.heap[b]? = some (.cells cs 24 f)) (hc : cs.toList = C4 t A cap ++ C4 t' A' cap')
    (ht : TmAt w B t (VT t A cap)) (ht' : TmAt w B t' (VT t' A' cap')) : ArgsAt w B [t, t'] (some ⟨b, 0, none⟩) 0 := by
  have hcs : cs = (C4 t A cap ++ C4 t' A' cap').toArray := by rw [← hc]
  subst hcs
  unfold ArgsAt ArgsIn ArgsIn ArgsIn
  exact ⟨⟨b, 0, _, _, _, _, rfl, .inr ⟨_, _, hb⟩, cell_of_row _ _ 0 _ _ _ hb, cell_of_row _ _ 1 _ _ _ hb, cell_of_row _ _ 2 _ _ _ hb, cell_of_row _ _ 3 _ _ _ hb, ht⟩,
    ⟨b, 0, _, _, _, _, rfl, .inr ⟨_, _, hb⟩, cell_of_row _ _ 4 _ _ _ hb, cell_of_row _ _ 5 _ _ _ hb, cell_of_row _ _ 6 _ _ _ hb, cell_of_row _ _ 7 _ _ _ hb, ht'⟩, trivial⟩

theorem args3 {w : World} {B b : Nat} {cs : Array Value} {f : Nat × Nat} {t t' t'' : Tm} {A A' A'' : Option Addr} {cap cap' cap'' : Nat} (hb : w.heap[b]? = some (.cells cs 24 f)) (hc : cs.toList = C4 t A cap ++ C4 t' A' cap' ++ C4 t'' A'' cap'')
    (ht : TmAt w B t (VT t A cap)) (ht' : TmAt w B t' (VT t' A' cap')) (ht'' : TmAt w B t'' (VT t'' A'' cap'')) : ArgsAt w B [t, t', t''] (some ⟨b, 0, none⟩) 0 := by
  have hcs : cs = (C4 t A cap ++ C4 t' A' cap' ++ C4 t'' A'' cap'').toArray := by rw [← hc]
  subst hcs
  unfold ArgsAt ArgsIn ArgsIn ArgsIn ArgsIn
  exact ⟨⟨b, 0, _, _, _, _, rfl, .inr ⟨_, _, hb⟩, cell_of_row _ _ 0 _ _ _ hb, cell_of_row _ _ 1 _ _ _ hb, cell_of_row _ _ 2 _ _ _ hb, cell_of_row _ _ 3 _ _ _ hb, ht⟩,
    ⟨b, 0, _, _, _, _, rfl, .inr ⟨_, _, hb⟩, cell_of_row _ _ 4 _ _ _ hb, cell_of_row _ _ 5 _ _ _ hb, cell_of_row _ _ 6 _ _ _ hb, cell_of_row _ _ 7 _ _ _ hb, ht'⟩,
    ⟨b, 0, _, _, _, _, rfl, .inr ⟨_, _, hb⟩, cell_of_row _ _ 8 _ _ _ hb, cell_of_row _ _ 9 _ _ _ hb, cell_of_row _ _ 10 _ _ _ hb, cell_of_row _ _ 11 _ _ _ hb, ht''⟩, trivial⟩

theorem mk_at {w : World} {B : Nat} {k n : Int} {s : ByteArray} {l : List Tm} {A : Option Addr} {cap : Nat} (h1 : wf64 k) (h2 : wf64 n) (h3 : s.size ≤ 140737488351232) (h5 : l.length ≤ cap) (h6 : l.length ≤ 140737488351232) (hm : cap ≤ maxLen) (h : ArgsAt w B l A 0) :
    TmAt w B (.mk k n s l) (.agg #[.int .i64 k, .int .i64 n, .string s, .slice A l.length cap]) := by
  unfold TmAt TmIn
  exact ⟨A, l.length, cap, rfl, h1, h2, h3, rfl, h5, h6, hm, h⟩

theorem flat_new {w : World} {B : Nat} {k n : Int} {s : ByteArray} (h1 : wf64 k) (h2 : wf64 n) (h3 : s.size ≤ 140737488351232) : TmNew w B (.mk k n s []) (.agg #[.int .i64 k, .int .i64 n, .string s, .slice none 0 0]) := by
  unfold TmNew TmIn
  exact ⟨none, 0, 0, rfl, h1, h2, h3, rfl, by simp, by simp, by unfold maxLen; omega, by unfold ArgsIn; trivial⟩

def varT (n : Int) : Tm := if numB n then .mk 0 n ⟨#[]⟩ [] else zeroT
def intT (n : Int) : Tm := .mk 1 n ⟨#[]⟩ []
def atomT (s : ByteArray) : Tm := cloneT (.mk 2 0 s [])
def structT (s : ByteArray) (l : List Tm) : Tm := if l.length = 0 then atomT s else cloneT (.mk 3 0 s l)

theorem int_any (n : Int) (w : World) (h : wf64 n) : Calls Try.prog 72 #[.int .i64 n] w fun e w' => ∃ u, e = .returned u ∧ TmNew w' w.heap.size (intT n) u ∧ But Nil w w' := by
  go_enter Try.func72, Try.ntmps72
  go_wp2_with fail
  exact bodyPost_ret (v := .agg #[.int .i64 1, .int .i64 n, .string ⟨#[]⟩, .slice none 0 0]) (by simp [results, Try.results72, go_sem]) rfl
    ⟨_, rfl, flat_new (by unfold wf64; omega) h (by decide), (But.refl _ _).alloc _⟩

set_option maxHeartbeats 400000 in
theorem atom_any (s : ByteArray) (w : World) (h : s.size ≤ 140737488351232) : Calls Try.prog 85 #[.string s] w fun e w' => ∃ u, e = .returned u ∧ TmNew w' w.heap.size (atomT s) u ∧ But Nil w w' := by
  have hk1 : But Nil w (w.alloc (TB zeroT none 0)) := (But.refl _ _).alloc _
  go_enter Try.func85, Try.ntmps85
  go_wp2_with fail
  refine (clone_any (.mk 2 0 s []) _ _ ((flat_new (B := 0) (by unfold wf64; omega) (by unfold wf64; omega) h).at_ _)).mono ?_
  rintro e w1 ⟨u, rfl, hnew, hb1⟩
  obtain ⟨A2, cap2, hu, -⟩ := hnew.form
  have hk2 := hk1.trans_nil hb1
  have hz := hb1.heap id (heap_new (w := w) (o := TB zeroT none 0) rfl)
  obtain ⟨p0, p1, p2, p3⟩ := blk4 hz
  have f0 := frz hz
  have Hset := Lib.hid (set4 (a' := .int .i64 (cloneT (.mk 2 0 s [])).kind) (b' := .int .i64 (cloneT (.mk 2 0 s [])).num) (c' := .string (cloneT (.mk 2 0 s [])).name) (d' := .slice A2 (cloneT (.mk 2 0 s [])).args.length cap2) hz)
  have Hu := Lib.hid hu
  rw [hu]
  clear hz hu
  go_wp2_with fail
  obtain ⟨r0, r1, r2, r3⟩ := blk4 Hset.out
  have hb4 := (But.refl (· = w.heap.size) w1).set4 (.inl rfl) (.int .i64 (cloneT (.mk 2 0 s [])).kind) (.int .i64 (cloneT (.mk 2 0 s [])).num) (.string (cloneT (.mk 2 0 s [])).name) (.slice A2 (cloneT (.mk 2 0 s [])).args.length cap2)
  refine bodyPost_ret (v := VT (cloneT (.mk 2 0 s [])) A2 cap2) (by simp [results, Try.results85, go_sem, r0, r1, r2, r3]) rfl ?_
  rw [VT, ← Hu.out]
  exact ⟨_, rfl, hnew.far hb4 (fun k hk => .inl (by subst hk; simp)) (by simp), hk2.trans hb4 fun i hi _ => .inr (by subst hi; omega)⟩

set_option maxHeartbeats 400000 in
theorem struct_any (s : ByteArray) (l : List Tm) (A : Option Addr) (cap : Nat) (w : World) (h : s.size ≤ 140737488351232) (h5 : l.length ≤ cap) (h6 : l.length ≤ 140737488351232) (hm : cap ≤ maxLen) (hl : ArgsAt w w.heap.size l A 0) :
    Calls Try.prog 86 #[.string s, .slice A l.length cap] w fun e w' => ∃ u, e = .returned u ∧ TmNew w' w.heap.size (structT s l) u ∧ But Nil w w' := by
  have hk1 : But Nil w (w.alloc (TB zeroT none 0)) := (But.refl _ _).alloc _
  by_cases h0 : l.length = 0
  · have h0' : ((l.length : Int) == 0) = true := by simpa using h0
    have H0 := Lib.hid h0
    clear h0
    go_enter Try.func86, Try.ntmps86
    go_wp2_with fail
    refine (atom_any s _ h).mono ?_
    rintro e w1 ⟨u, rfl, hnew, hb1⟩
    obtain ⟨A2, cap2, hu, -⟩ := hnew.form
    have hk2 := hk1.trans_nil hb1
    have hz := hb1.heap id (heap_new (w := w) (o := TB zeroT none 0) rfl)
    obtain ⟨p0, p1, p2, p3⟩ := blk4 hz
    have f0 := frz hz
    have Hset := Lib.hid (set4 (a' := .int .i64 (atomT s).kind) (b' := .int .i64 (atomT s).num) (c' := .string (atomT s).name) (d' := .slice A2 (atomT s).args.length cap2) hz)
    have Hu := Lib.hid hu
    rw [hu]
    clear hz hu
    go_wp2_with fail
    obtain ⟨r0, r1, r2, r3⟩ := blk4 Hset.out
    have hb4 := (But.refl (· = w.heap.size) w1).set4 (.inl rfl) (.int .i64 (atomT s).kind) (.int .i64 (atomT s).num) (.string (atomT s).name) (.slice A2 (atomT s).args.length cap2)
    refine bodyPost_ret (v := VT (atomT s) A2 cap2) (by simp [results, Try.results86, go_sem, r0, r1, r2, r3]) rfl ?_
    rw [VT, ← Hu.out]
    exact ⟨_, rfl, by simp only [structT, if_pos H0.out]; exact hnew.far hb4 (fun k hk => .inl (by subst hk; simp)) (by simp), hk2.trans hb4 fun i hi _ => .inr (by subst hi; omega)⟩
  · have h0' : ((l.length : Int) == 0) = false := by simpa using h0
    have H0 := Lib.hid h0
    clear h0
    go_enter Try.func86, Try.ntmps86
    go_wp2_with fail
    refine (clone_any (.mk 3 0 s l) _ _ (TmAt.nil (mk_at (by unfold wf64; omega) (by unfold wf64; omega) h h5 h6 hm hl) hk1)).mono ?_
    rintro e w1 ⟨u, rfl, hnew, hb1⟩
    obtain ⟨A2, cap2, hu, -⟩ := hnew.form
    have hk2 := hk1.trans_nil hb1
    have hz := hb1.heap id (heap_new (w := w) (o := TB zeroT none 0) rfl)
    obtain ⟨p0, p1, p2, p3⟩ := blk4 hz
    have f0 := frz hz
    have Hset := Lib.hid (set4 (a' := .int .i64 (cloneT (.mk 3 0 s l)).kind) (b' := .int .i64 (cloneT (.mk 3 0 s l)).num) (c' := .string (cloneT (.mk 3 0 s l)).name) (d' := .slice A2 (cloneT (.mk 3 0 s l)).args.length cap2) hz)
    have Hu := Lib.hid hu
    rw [hu]
    clear hz hu
    go_wp2_with fail
    obtain ⟨r0, r1, r2, r3⟩ := blk4 Hset.out
    have hb4 := (But.refl (· = w.heap.size) w1).set4 (.inl rfl) (.int .i64 (cloneT (.mk 3 0 s l)).kind) (.int .i64 (cloneT (.mk 3 0 s l)).num) (.string (cloneT (.mk 3 0 s l)).name) (.slice A2 (cloneT (.mk 3 0 s l)).args.length cap2)
    refine bodyPost_ret (v := VT (cloneT (.mk 3 0 s l)) A2 cap2) (by simp [results, Try.results86, go_sem, r0, r1, r2, r3]) rfl ?_
    rw [VT, ← Hu.out]
    exact ⟨_, rfl, by simp only [structT, if_neg H0.out]; exact hnew.far hb4 (fun k hk => .inl (by subst hk; simp)) (by simp), hk2.trans hb4 fun i hi _ => .inr (by subst hi; omega)⟩

end Go.Proofs.Ytloekfnlidclcaa

namespace Go.Proofs.Ytloekfnlidclcaa
open Go.RowKit
set_option linter.unusedVariables false

mutual
def nodesT : Tm → Nat
  | .mk _ _ _ l => 1 + nodesL l
def nodesL : List Tm → Nat
  | [] => 0
  | t :: l => nodesT t + nodesL l
end

theorem nodes_pos (t : Tm) : 1 ≤ nodesT t := by cases t; simp [nodesT]

theorem cnt_min (t : Tm) : ∀ m, 0 < m → cntT t m = min (nodesT t : Int) m := by
  induction t using Tm.ind with
  | h k n s l ih =>
    intro m hm
    have : ∀ (l : List Tm), (∀ a ∈ l, ∀ m, 0 < m → cntT a m = min (nodesT a : Int) m) → ∀ n m, n ≤ m → cntL l n m = min (n + (nodesL l : Int)) m := by
      intro l
      induction l with
      | nil => intro _ n m h; simp [cntL, nodesL]; omega
      | cons t l ihl =>
        intro h n m hnm
        simp only [cntL, nodesL]
        have hp := nodes_pos t
        by_cases hlt : n < m
        · rw [if_pos hlt, h t (by simp) _ (by omega), ihl (fun a ha => h a (by simp [ha])) _ m (by omega)]
          push_cast
          omega
        · rw [if_neg hlt]
          push_cast
          omega
    simp only [cntT, nodesT]
    rw [this l ih 1 m (by omega)]
    push_cast
    omega

theorem size_min (t : Tm) : sizeT t = min (nodesT t : Int) 2001 := by rw [← size_cnt, cnt_min t 2001 (by omega)]

theorem valid_nodes {t : Tm} (h : validT t = true) : nodesT t ≤ 2000 := by
  simp only [validT, Bool.and_eq_true, decide_eq_true_eq] at h
  have := size_min t
  omega

theorem nodes_get {l : List Tm} {j : Nat} (hj : j < l.length) : nodesT l[j] ≤ nodesL l := by
  induction l generalizing j with
  | nil => simp at hj
  | cons t l ih =>
    rcases j with _ | j
    · simp [nodesL]
    · have := ih (j := j) (by simpa using hj)
      simp [nodesL]
      omega

/-- An argument of a valid term is valid. -/
theorem valid_arg {k n : Int} {s : ByteArray} {l : List Tm} (h : validT (.mk k n s l) = true) {j : Nat} (hj : j < l.length) : validT l[j] = true := by
  have hn := valid_nodes h
  have hf : fitsT (.mk k n s l) = true := by
    simp only [validT, Bool.and_eq_true] at h
    exact h.2
  have hg := nodes_get hj
  have hs := size_min l[j]
  simp only [nodesT] at hn
  have hfl : ∀ (l : List Tm) (j : Nat) (hj : j < l.length), fitsL l = true → fitsT l[j] = true := by
    intro l
    induction l with
    | nil => intro j hj; simp at hj
    | cons t l ih =>
      intro j hj h
      simp only [fitsL, Bool.and_eq_true] at h
      rcases j with _ | j
      · exact h.1
      · exact ih j (by simpa using hj) h.2
  unfold fitsT at hf
  simp only [Bool.and_eq_true] at hf
  simp only [validT, Bool.and_eq_true, decide_eq_true_eq]
  exact ⟨by omega, hfl l j hj hf.2⟩

end Go.Proofs.Ytloekfnlidclcaa

namespace Go.Proofs.Ytloekfnlidclcaa
open Go.RowKit Go.Maps
set_option linter.unusedVariables false

def variantT (t u : Tm) : Bool := validT t && validT u && eqT (canonT t) (canonT u)

end Go.Proofs.Ytloekfnlidclcaa

namespace Go.Proofs.Ytloekfnlidclcaa
open Go.RowKit Go.Maps
set_option linter.unusedVariables false

def indOk (s : ByteArray) (n : Int) : Bool := decide ((s.size : Int) ≤ 100) && (decide (0 ≤ n) && decide (n ≤ 8))
def indT (s : ByteArray) (n : Int) : Tm := if indOk s n then structT ⟨#[47]⟩ [atomT s, intT n] else zeroT

end Go.Proofs.Ytloekfnlidclcaa

namespace Go.Proofs.Ytloekfnlidclcaa
open Go.RowKit Go.Maps
set_option linter.unusedVariables false

/-- The sizes of the elements, added to s, stay within the limit, and each element is valid. -/
def lszB : List Tm → Int → Bool
  | [], _ => true
  | x :: l, s => if 2000 < s + (1 + sizeT x) then false else fitsT x && lszB l (s + (1 + sizeT x))

def consT (x t : Tm) : Tm := .mk 3 0 ⟨#[46]⟩ [x, t]
def consL (l : List Tm) (t : Tm) : Tm := l.foldr (fun x t => consT (cloneT x) t) t
def listT (l : List Tm) (tail : Tm) : Tm := if decide (l.length ≤ 2000) && validT tail && lszB l (sizeT tail) then consL l (cloneT tail) else zeroT

theorem consL_drop {l : List Tm} {j : Nat} (hj : j < l.length) (t : Tm) : consL (l.drop j) t = consT (cloneT l[j]) (consL (l.drop (j + 1)) t) := by
  rw [List.drop_eq_getElem_cons hj]
  rfl

theorem wf64_int {w : World} {D : Nat → Prop} {t : Tm} {v : Value} (h : TmIn w D t v) : wf64 t.kind ∧ wf64 t.num := let ⟨_, _, _, h1, h2, _⟩ := h.form; ⟨h1, h2⟩

/-- A cons of two terms. -/
theorem cons_in {w : World} {D : Nat → Prop} {b : Nat} {cs : Array Value} {f : Nat × Nat} {t t' : Tm} {A A' : Option Addr} {cap cap' : Nat} (hb : w.heap[b]? = some (.cells cs 24 f)) (hB : D b) (hc : cs.toList = C4 t A cap ++ C4 t' A' cap')
    (ht : TmIn w D t (VT t A cap)) (ht' : TmIn w D t' (VT t' A' cap')) : TmIn w D (consT t t') (.agg #[.int .i64 3, .int .i64 0, .string ⟨#[46]⟩, .slice (some ⟨b, 0, none⟩) 2 2]) := by
  have hcs : cs = (C4 t A cap ++ C4 t' A' cap').toArray := by rw [← hc]
  subst hcs
  unfold consT TmIn ArgsIn ArgsIn ArgsIn
  exact ⟨_, _, _, rfl, by unfold wf64; omega, by unfold wf64; omega, by decide, rfl, by omega, by omega, by unfold maxLen; omega,
    ⟨b, 0, _, _, _, _, rfl, hB, cell_of_row _ _ 0 _ _ _ hb, cell_of_row _ _ 1 _ _ _ hb, cell_of_row _ _ 2 _ _ _ hb, cell_of_row _ _ 3 _ _ _ hb, ht⟩,
    ⟨b, 0, _, _, _, _, rfl, hB, cell_of_row _ _ 4 _ _ _ hb, cell_of_row _ _ 5 _ _ _ hb, cell_of_row _ _ 6 _ _ _ hb, cell_of_row _ _ 7 _ _ _ hb, ht'⟩, trivial⟩

theorem OBlk.nil {w w' : World} {b : Nat} (h : OBlk w b) (hb : But Nil w w') : OBlk w' b := h.but hb id

/-- One step of List: the new cons. -/
theorem list_step {w wr w5 : World} {g : Nat} {x t : Tm} {A2 A3 : Option Addr} {cap2 cap3 : Nat} (hwr : But Nil w wr) (hg : w.heap.size ≤ g)
    (hblk : wr.heap[g]? = some (TB t A2 cap2)) (ht : TmIn wr (fun b => w.heap.size ≤ b ∧ OBlk wr b ∧ b ≠ g) t (VT t A2 cap2)) (hb5 : But Nil wr.drew w5) (hx : TmNew w5 wr.drew.heap.size x (VT x A3 cap3)) :
    ((((((w5.setCell ⟨g, 0, none⟩ (.int .i64 3)).setCell ⟨g, 1, none⟩ (.int .i64 0)).setCell ⟨g, 2, none⟩ (.string ⟨#[46]⟩)).setCell ⟨g, 3, none⟩ (.slice (some ⟨w5.heap.size, 0, none⟩) 2 2))).alloc (.cells (C4 x A3 cap3 ++ C4 t A2 cap2).toArray 24)).heap[g]? = some (TB (consT x t) (some ⟨w5.heap.size, 0, none⟩) 2) ∧
    TmIn ((((((w5.setCell ⟨g, 0, none⟩ (.int .i64 3)).setCell ⟨g, 1, none⟩ (.int .i64 0)).setCell ⟨g, 2, none⟩ (.string ⟨#[46]⟩)).setCell ⟨g, 3, none⟩ (.slice (some ⟨w5.heap.size, 0, none⟩) 2 2))).alloc (.cells (C4 x A3 cap3 ++ C4 t A2 cap2).toArray 24)) (fun b => w.heap.size ≤ b ∧ OBlk ((((((w5.setCell ⟨g, 0, none⟩ (.int .i64 3)).setCell ⟨g, 1, none⟩ (.int .i64 0)).setCell ⟨g, 2, none⟩ (.string ⟨#[46]⟩)).setCell ⟨g, 3, none⟩ (.slice (some ⟨w5.heap.size, 0, none⟩) 2 2))).alloc (.cells (C4 x A3 cap3 ++ C4 t A2 cap2).toArray 24)) b ∧ b ≠ g) (consT x t) (VT (consT x t) (some ⟨w5.heap.size, 0, none⟩) 2) ∧
    But (· = g) w5 ((((((w5.setCell ⟨g, 0, none⟩ (.int .i64 3)).setCell ⟨g, 1, none⟩ (.int .i64 0)).setCell ⟨g, 2, none⟩ (.string ⟨#[46]⟩)).setCell ⟨g, 3, none⟩ (.slice (some ⟨w5.heap.size, 0, none⟩) 2 2))).alloc (.cells (C4 x A3 cap3 ++ C4 t A2 cap2).toArray 24)) := by
  have hgl := lt_of_heap hblk
  have hwd : wr.drew.heap.size = wr.heap.size := rfl
  have hs5 := hb5.size
  have hb4 := (But.refl (· = g) w5).set4 (.inl rfl) (.int .i64 3) (.int .i64 0) (.string ⟨#[46]⟩) (.slice (some ⟨w5.heap.size, 0, none⟩) 2 2)
  have hss : ((((w5.setCell ⟨g, 0, none⟩ (.int .i64 3)).setCell ⟨g, 1, none⟩ (.int .i64 0)).setCell ⟨g, 2, none⟩ (.string ⟨#[46]⟩)).setCell ⟨g, 3, none⟩ (.slice (some ⟨w5.heap.size, 0, none⟩) 2 2)).heap.size = w5.heap.size := by simp [World.setCell]
  have hbx : But Nil wr w5 := (But.refl Nil wr).drew.trans_nil hb5
  have hset := set4 (a' := .int .i64 3) (b' := .int .i64 0) (c' := .string ⟨#[46]⟩) (d' := .slice (some ⟨w5.heap.size, 0, none⟩) 2 2) (hbx.heap id hblk)
  generalize (((w5.setCell ⟨g, 0, none⟩ (.int .i64 3)).setCell ⟨g, 1, none⟩ (.int .i64 0)).setCell ⟨g, 2, none⟩ (.string ⟨#[46]⟩)).setCell ⟨g, 3, none⟩ (.slice (some ⟨w5.heap.size, 0, none⟩) 2 2) = ws at *
  have hba : But Nil ws (ws.alloc (.cells (C4 x A3 cap3 ++ C4 t A2 cap2).toArray 24)) := (But.refl _ _).alloc _
  refine ⟨heap_old hset, ?_, hb4.trans_nil hba⟩
  exact cons_in (heap_new hss.symm) ⟨by have := hwr.size; omega, ⟨_, heap_new hss.symm⟩, by omega⟩ (by simp)
      (TmIn.keeps (fun k o hk hd => ⟨heap_old (hb4.heap (by have := hd.1; omega) hk), by have := hd.1; have := hwr.size; omega, (hd.2.but hb4 (by have := hd.1; omega)).nil hba, by have := hd.1; omega⟩) _ hx)
      (TmIn.keeps (fun k o hk hd => ⟨heap_old (hb4.heap hd.2.2 (hbx.heap id hk)), hd.1, ((hd.2.1.nil hbx).but hb4 hd.2.2).nil hba, hd.2.2⟩) _ ht)

end Go.Proofs.Ytloekfnlidclcaa

namespace Go.Proofs.Ytloekfnlidclcaa
open Go.RowKit Go.Maps
set_option linter.unusedVariables false

mutual
/-- The elements of a list, and its tail. -/
def elT : Tm → List Tm × Tm
  | .mk k n s l => if k = 3 ∧ s = ⟨#[46]⟩ then elA (.mk k n s l) l else ([], .mk k n s l)
def elA (whole : Tm) : List Tm → List Tm × Tm
  | [a, b] => (a :: (elT b).1, (elT b).2)
  | _ => ([], whole)
end

def isCons (t : Tm) : Bool := decide (t.kind = 3) && (decide (t.name = ⟨#[46]⟩) && decide (t.args.length = 2))

theorem elT_cons {t : Tm} (h : isCons t = true) (h0 : 0 < t.args.length) (h1 : 1 < t.args.length) : elT t = (t.args[0] :: (elT t.args[1]).1, (elT t.args[1]).2) := by
  cases t with
  | mk k n s l =>
    simp only [isCons, Bool.and_eq_true] at h
    obtain ⟨h1, h2, h3⟩ := h
    have e1 : k = 3 := of_decide_eq_true h1
    have e2 : s = ⟨#[46]⟩ := of_decide_eq_true h2
    have h2 : l.length = 2 := of_decide_eq_true h3
    subst e1 e2
    match l, h2 with
    | [a, b], _ => simp [elT, elA, Tm.args]

theorem elT_else {t : Tm} (h : isCons t = false) : elT t = ([], t) := by
  cases t with
  | mk k n s l =>
    simp only [isCons, Tm.kind, Tm.name, Tm.args] at h
    unfold elT
    split
    · rename_i hks
      obtain ⟨rfl, rfl⟩ := hks
      match l, h with
      | [], _ => rfl
      | [a], _ => rfl
      | [a, b], h => simp at h
      | a :: b :: c :: r, _ => rfl
    · rfl

theorem cons_len {t : Tm} (h : isCons t = true) : t.args.length = 2 := by
  simp only [isCons, Bool.and_eq_true] at h
  exact of_decide_eq_true h.2.2

theorem nodes_args {t : Tm} {j : Nat} (hj : j < t.args.length) : nodesT t.args[j] + 1 ≤ nodesT t := by
  cases t with
  | mk k n s l =>
    have := nodes_get (l := l) hj
    simp only [nodesT, Tm.args]
    omega

theorem valid_args {t : Tm} (h : validT t = true) {j : Nat} (hj : j < t.args.length) : validT t.args[j] = true := by
  cases t with
  | mk k n s l => exact valid_arg h hj

def elemsT (t : Tm) : List Tm × Tm := if validT t then ((elT t).1.map cloneT, cloneT (elT t).2) else ([], zeroT)

/-- One more element. -/
theorem elems_step {w w1 wr w3 w4 : World} {g cap3 cap4 : Nat} {va : Value} {done : List Tm} {x : Tm} {xs : List Value} {A3 : Option Addr}
    (hw : w.heap.size < w1.heap.size) (hw1 : w1.heap.size ≤ wr.heap.size) (hown : wr.ownsRow w1.heap.size 24 4 va done.length xs) (hx : RowE wr w1.heap.size va done xs) (hb3 : But Nil wr w3)
    (hnew : TmNew w3 wr.heap.size x (VT x A3 cap3))
    (hown4 : w4.ownsRow w1.heap.size 24 4 (.slice (some ⟨g, 0, none⟩) (done.length + 1) cap4) (done.length + 1) (xs ++ C4 x A3 cap3))
    (hgrow : (w3.alloc (TB x A3 cap3)).grownBy w4 va.ownBlock) (hat : va.ownBlock = some g ∨ g = w3.heap.size + 1) :
    But (fun k => va.ownBlock = some k) w3 w4 ∧ (∀ k, va.ownBlock = some k → w1.heap.size ≤ k) ∧ RowT w4 w1.heap.size (.slice (some ⟨g, 0, none⟩) (done.length + 1) cap4) (done ++ [x]) := by
  have hba : But Nil w3 (w3.alloc (TB x A3 cap3)) := (But.refl _ _).alloc _
  have hb4 : But (fun k => va.ownBlock = some k) (w3.alloc (TB x A3 cap3)) w4 := (But.refl _ _).grown hgrow (fun k hk => .inl hk)
  refine ⟨(hba.of_nil).trans_same hb4, fun k hk => (hown.lt k hk).1, ?_⟩
  exact RowT.push ((own_but hown hb3 (fun _ _ => id)).alloc _) ((hx.but hb3 fun k hk => hk.elim).but hba fun k hk => hk.elim) rfl (hnew.but hba (fun k hk => hk.elim) (Nat.le_refl _)) hw1
    (fun k hk => (hown.lt k hk).2) hown4 hgrow (hat.imp id (fun e => by simp; omega))

end Go.Proofs.Ytloekfnlidclcaa
