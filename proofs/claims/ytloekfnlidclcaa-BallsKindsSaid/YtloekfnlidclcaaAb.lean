/-
  A region of calls on terms, run on what is known of the values ('Ab') in place of the values: sound. No condition.
-/
import Derived.Test.YtloekfnlidclcaaRg
import Derived.Test.YtloekfnlidclcaaMp
namespace Go.Proofs.Ytloekfnlidclcaa
open Go.RowKit
set_option linter.unusedVariables false

abbrev Fr (p : Nat → Option Nat) : Nat → Prop := fun b => p b = none

theorem Ext.keepsIn {p p' : Nat → Option Nat} {w w' : World} (h : Ext p w p' w') : KeepsIn (Fr p) (Fr p') w w' := fun k o hk hd =>
  ⟨h.but.heap id hk, (h.pin k (lt_of_heap hk)).trans hd⟩

theorem IntsIn.ext {p p' : Nat → Option Nat} {w w' : World} (hx : Ext p w p' w') {A : Option Addr} {l : List Int} (h : IntsIn w (Fr p) A l) : IntsIn w' (Fr p') A l := fun j hj => by
  obtain ⟨b, o, e, h0, h1⟩ := h j hj
  exact ⟨b, o, e, (hx.pin b (lt_of_cell h1)).trans h0, hx.but.cell id h1⟩

/-- The pins of a world that has only more blocks. -/
def pin0 (p : Nat → Option Nat) (w : World) : Nat → Option Nat := fun b => if b < w.heap.size then p b else none

theorem Ext.plain {p : Nat → Option Nat} {w w' : World} (h : But Nil w w') : Ext p w (pin0 p w) w' := ⟨h, fun b hb => by simp [pin0, hb]⟩

theorem TmIn.at_w {w : World} {D : Nat → Prop} {t : Tm} {v : Value} (h : TmIn w D t v) : TmAt w w.heap.size t v :=
  TmIn.keeps (fun k o hk _ => ⟨hk, .inl (lt_of_heap hk)⟩) _ h
theorem ArgsIn.at_w {w : World} {D : Nat → Prop} {l : List Tm} {A : Option Addr} {i : Nat} (h : ArgsIn w D l A i) : ArgsAt w w.heap.size l A i :=
  ArgsIn.keeps (fun k o hk _ => ⟨hk, .inl (lt_of_heap hk)⟩) h

theorem TmIn.pins {p : Nat → Option Nat} {w w' : World} {t : Tm} {v : Value} (h : TmNew w' w.heap.size t v) : TmIn w' (Fr (pin0 p w)) t v :=
  TmIn.keeps (fun k o hk hd => ⟨hk, by have := hd.1; simp only [Fr, pin0]; rw [if_neg (by omega)]⟩) _ h
theorem ArgsIn.pins {p : Nat → Option Nat} {w w' : World} {l : List Tm} {A : Option Addr} {i : Nat} (h : ArgsIn w' (fun b => w.heap.size ≤ b ∧ OBlk w' b) l A i) : ArgsIn w' (Fr (pin0 p w)) l A i :=
  ArgsIn.keeps (fun k o hk hd => ⟨hk, by have := hd.1; simp only [Fr, pin0]; rw [if_neg (by omega)]⟩) h

section
variable {P : Program} {Q : Exit → Act → World → Prop} {o : Oper} {a : Act} {w : World} {K : Act → World → Prop}

theorem wp_value {v : Value} {w' : World} (h : (execOp a.eval o).run P w = .ok (.value v) w') (hk : K (a.put o.dst v) w') : o.wp P a w K Q := by
  unfold Oper.wp
  rw [h]
  exact hk

theorem wp_calls {f : FuncId} {args : Array Value} (h : (execOp a.eval o).run P w = .ok (.enter f args) w) (hc : Calls P f args w fun e w' => ∃ v, e = .returned v ∧ K (a.put o.dst v) w') : o.wp P a w K Q := by
  unfold Oper.wp
  rw [h]
  exact hc.mono (by rintro e w' ⟨v, rfl, hk⟩; exact hk)

theorem leaves_same {f : Pd} {p : Nat → Option Nat} {v : Value} (h : f p w v) : Leaves f o a p w (a.put o.dst v) w := ⟨v, p, rfl, Ext.refl _ _, h⟩
end

theorem Fr.new {p : Nat → Option Nat} {w : World} : Fr (pin0 p w) w.heap.size := by simp [Fr, pin0]

theorem TmIn.alloc {p : Nat → Option Nat} {w : World} {t : Tm} {v : Value} (h : TmIn w (Fr p) t v) (ob : Obj) : TmIn (w.alloc ob) (Fr (pin0 p w)) t v :=
  TmIn.keeps (Ext.plain ((But.refl _ _).alloc _)).keepsIn _ h

/-- A number: known by a number, or as it is. -/
inductive IR where
  | tok (n : Nat)
  | lit (k : Int)
inductive SR where
  | tok (n : Nat)
  | lit (s : ByteArray)
inductive Rel where
  | lt
  | eq
inductive Ari where
  | add
  | sub
  | mul

def IR.beq : IR → IR → Bool
  | .tok a, .tok b => a == b
  | .lit a, .lit b => a == b
  | _, _ => false
def SR.beq : SR → SR → Bool
  | .tok a, .tok b => a == b
  | .lit a, .lit b => decide (a = b)
  | _, _ => false
theorem IR.beq_ok {a b : IR} (h : IR.beq a b = true) : a = b := by
  unfold IR.beq at h
  split at h <;> simp_all
theorem SR.beq_ok {a b : SR} (h : SR.beq a b = true) : a = b := by
  unfold SR.beq at h
  split at h <;> simp_all
def Rel.beq : Rel → Rel → Bool
  | .lt, .lt => true
  | .eq, .eq => true
  | _, _ => false
theorem Rel.beq_ok {a b : Rel} (h : Rel.beq a b = true) : a = b := by
  unfold Rel.beq at h
  split at h <;> simp_all
def Ari.beq : Ari → Ari → Bool
  | .add, .add => true
  | .sub, .sub => true
  | .mul, .mul => true
  | _, _ => false
theorem Ari.beq_ok {a b : Ari} (h : Ari.beq a b = true) : a = b := by
  unfold Ari.beq at h
  split at h <;> simp_all

def IR.at (I : Nat → Int) : IR → Int
  | .tok n => I n
  | .lit k => k
def SR.at (S : Nat → ByteArray) : SR → ByteArray
  | .tok n => S n
  | .lit s => s
def Rel.says : Rel → Int → Int → Bool
  | .lt, a, b => decide (a < b)
  | .eq, a, b => a == b
def Ari.says : Ari → Int → Int → Int
  | .add, a, b => a + b
  | .sub, a, b => a - b
  | .mul, a, b => a * b

/-- What is known of the things that go by a number. -/
inductive Fact where
  | rel (r : Rel) (a b : IR) (c : Bool)
  | seq (a b : SR) (c : Bool)
  | ari (o : Ari) (a b : IR) (k : Nat)
  | ilen (n k : Nat)
  | rlen (n k : Nat)
  | slen (n k : Nat)
  | iget (n : Nat) (i : IR) (k : Nat)
  | rget (n : Nat) (i : IR) (k : Nat)
  | tm (n a b c d : Nat)
  | push (n : Option Nat) (k m : Nat) (fin : Bool)
  | mk (m : Nat) (k n : IR) (s : SR) (l : List Nat)
  | mkr (m : Nat) (k n : IR) (s : SR) (r : Nat)

def baseRow (R : Nat → List Tm) : Option Nat → List Tm
  | none => []
  | some n => R n

def Fact.holds (T : Nat → Tm) (I : Nat → Int) (L : Nat → List Int) (R : Nat → List Tm) (S : Nat → ByteArray) : Fact → Prop
  | .rel r a b c => r.says (a.at I) (b.at I) = c
  | .seq a b c => decide (a.at S = b.at S) = c
  | .ari o a b k => o.says (a.at I) (b.at I) = I k ∧ wf64 (I k)
  | .ilen n k => ((L n).length : Int) = I k
  | .rlen n k => ((R n).length : Int) = I k
  | .slen n k => ((S n).size : Int) = I k
  | .iget n i k => 0 ≤ i.at I ∧ (L n)[(i.at I).toNat]? = some (I k)
  | .rget n i k => 0 ≤ i.at I ∧ (R n)[(i.at I).toNat]? = some (T k)
  | .tm n a b c d => (T n).kind = I a ∧ (T n).num = I b ∧ (T n).name = S c ∧ (T n).args = R d
  | .push n k m _ => R m = baseRow R n ++ [T k] ∧ (R m).length ≤ 1000000
  | .mk m k n s l => T m = .mk (k.at I) (n.at I) (s.at S) (l.map T) ∧ wf64 (k.at I) ∧ wf64 (n.at I) ∧ (s.at S).size ≤ 140737488351232
  | .mkr m k n s r => T m = .mk (k.at I) (n.at I) (s.at S) (R r) ∧ wf64 (k.at I) ∧ wf64 (n.at I) ∧ (s.at S).size ≤ 140737488351232

def AllHold (T : Nat → Tm) (I : Nat → Int) (L : Nat → List Int) (R : Nat → List Tm) (S : Nat → ByteArray) : List Fact → Prop
  | [] => True
  | f :: l => f.holds T I L R S ∧ AllHold T I L R S l

/-- Terms that go by a number. -/
class Env where
  T : Nat → Tm
  I : Nat → Int := fun _ => 0
  L : Nat → List Int := fun _ => []
  R : Nat → List Tm := fun _ => []
  S : Nat → ByteArray := fun _ => ⟨#[]⟩
  F : List Fact := []
  ok : AllHold T I L R S F := by trivial

def findF {α : Type} (f : Fact → Option α) : List Fact → Option α
  | [] => none
  | g :: l => match f g with
    | some x => some x
    | none => findF f l

theorem findF_ok {α : Type} {T : Nat → Tm} {I : Nat → Int} {L : Nat → List Int} {R : Nat → List Tm} {S : Nat → ByteArray} {f : Fact → Option α} {x : α} : ∀ {l : List Fact}, AllHold T I L R S l → findF f l = some x → ∃ g, g.holds T I L R S ∧ f g = some x
  | [], _, h => by cases h
  | g :: l, hl, h => by
    unfold findF at h
    split at h
    · rename_i y hy
      exact ⟨g, hl.1, hy.trans h⟩
    · exact findF_ok hl.2 h

variable [Env]

theorem env_find {α : Type} {f : Fact → Option α} {x : α} (h : findF f Env.F = some x) : ∃ g : Fact, g.holds Env.T Env.I Env.L Env.R Env.S ∧ f g = some x := findF_ok Env.ok h

inductive Ab where
  | any
  | val (v : Value)
  | term (t : Tm)
  | row (l : List Tm)
  | ints (l : List Int)
  | pair (x y : Ab)
  | tup3 (x y z : Ab)
  | tup4 (x y z u : Ab)
  | tok (n : Nat)
  | vtok (n : Nat)
  | itok (n : Nat)
  | rtok (n : Nat)
  | stok (n : Nat)
  | vcell (s : Tmp) (x : Ab)
  | mfld (s : Tmp) (n j : Nat)
  | intAt (n : Int)
  | termAt (t : Tm)
  | elm (n : Nat)
  | fld (n j : Nat)
  | iat (k : Nat)
  | toks (l : List Nat)
  | grow (s : Tmp) (n : Nat)
  | own (s : Tmp) (n : Nat)
  | srow (l : List SR)
  | sat (s : SR)

def tmOf : Ab → Option Tm
  | .term t => some t
  | .tok n => some (Env.T n)
  | _ => none

def tmAny : Ab → Option Tm
  | .term t => some t
  | .tok n => some (Env.T n)
  | .own _ n => some (Env.T n)
  | _ => none

def isTm : Ab → Bool
  | .term _ => true
  | .tok _ => true
  | .own _ _ => true
  | _ => false

/-- The strings of a slice. -/
def StrsIn (w : World) (D : Nat → Prop) (A : Option Addr) (l : List ByteArray) : Prop := ∀ j (h : j < l.length), ∃ b o, A = some ⟨b, o, none⟩ ∧ D b ∧ w.cell? ⟨b, o + j, none⟩ = some (.string l[j])

omit [Env] in
theorem StrsIn.keeps {D D' : Nat → Prop} {w w' : World} (hk : KeepsIn D D' w w') {A : Option Addr} {l : List ByteArray} (h : StrsIn w D A l) : StrsIn w' D' A l := fun j hj =>
  let ⟨b, o, e, hd, hc⟩ := h j hj
  ⟨b, o, e, (hk.cell hd hc).2, (hk.cell hd hc).1⟩

/-- A row of terms that grows: the slot of its first append, its elements. -/
def GrowAt (s : Tmp) (ts : List Tm) (p : Nat → Option Nat) (w : World) (v : Value) : Prop :=
  ∃ xs, w.ownsRow 0 24 4 v ts.length xs ∧ (∀ g, v.ownBlock = some g → p g = some (s + 1)) ∧ ts.length ≤ 1000000 ∧ ∀ i (h : i < ts.length), ∃ A0 cap0, xs[i * 4]? = some (.int .i64 ts[i].kind) ∧ xs[i * 4 + 1]? = some (.int .i64 ts[i].num) ∧
    xs[i * 4 + 2]? = some (.string ts[i].name) ∧ xs[i * 4 + 3]? = some (.slice A0 ts[i].args.length cap0) ∧
    TmIn w (Fr p) ts[i] (.agg #[.int .i64 ts[i].kind, .int .i64 ts[i].num, .string ts[i].name, .slice A0 ts[i].args.length cap0])

omit [Env] in
theorem own_lt {w : World} {base size n e : Nat} {v : Value} {xs : List Value} (h : w.ownsRow base e size v n xs) {g : Nat} (hg : v.ownBlock = some g) : g < w.heap.size := by
  rcases h.2 with ⟨rfl, _⟩ | ⟨g', cap, cur, rfl, hg', hh, r⟩
  · cases hg
  · obtain rfl : g' = g := by simpa [Value.ownBlock] using hg
    exact lt_of_heap hh

omit [Env] in
theorem GrowAt.kept {s : Tmp} {ts : List Tm} : Kept (GrowAt s ts) := fun p w p' w' v hx ⟨xs, ho, hp, hl, hr⟩ =>
  ⟨xs, own_but ho hx.but (fun _ _ => id), fun g hg => (hx.pin g (own_lt ho hg)).trans (hp g hg), hl, fun i hi => let ⟨A0, cap0, e0, e1, e2, e3, ht⟩ := hr i hi; ⟨A0, cap0, e0, e1, e2, e3, TmIn.keeps hx.keepsIn _ ht⟩⟩

/-- A pointer to the place number j of a term in memory, to be read. -/
def FieldAt (t : Tm) (j : Nat) (p : Nat → Option Nat) (w : World) (v : Value) : Prop :=
  ∃ b o A cap, v = .pointer (some ⟨b, o + j, none⟩) ∧ w.cell? ⟨b, o, none⟩ = some (.int .i64 t.kind) ∧ w.cell? ⟨b, o + 1, none⟩ = some (.int .i64 t.num) ∧
      w.cell? ⟨b, o + 2, none⟩ = some (.string t.name) ∧ w.cell? ⟨b, o + 3, none⟩ = some (.slice A t.args.length cap) ∧ TmIn w (Fr p) t (VT t A cap)

/-- A pointer to the place number j of a term in memory. -/
def TermPlace (t : Tm) (j : Nat) (p : Nat → Option Nat) (w : World) (v : Value) : Prop :=
  ∃ b o A cap, v = .pointer (some ⟨b, o + j, none⟩) ∧ p b = none ∧ w.cell? ⟨b, o, none⟩ = some (.int .i64 t.kind) ∧ w.cell? ⟨b, o + 1, none⟩ = some (.int .i64 t.num) ∧
      w.cell? ⟨b, o + 2, none⟩ = some (.string t.name) ∧ w.cell? ⟨b, o + 3, none⟩ = some (.slice A t.args.length cap) ∧ TmIn w (Fr p) t (VT t A cap)

omit [Env] in
theorem TermPlace.kept {t : Tm} {j : Nat} : Kept (TermPlace t j) := fun p w p' w' v hx ⟨b, o, A, cap, e, h0, h1, h2, h3, h4, h5⟩ =>
  ⟨b, o, A, cap, e, (hx.pin b (lt_of_cell h1)).trans h0, hx.but.cell id h1, hx.but.cell id h2, hx.but.cell id h3, hx.but.cell id h4, TmIn.keeps hx.keepsIn _ h5⟩

def Ab.pd : Ab → Pd
  | .tok n => fun p w v => TmIn w (Fr p) (Env.T n) v
  | .vtok n => fun p w v => v = .int .i64 (Env.I n)
  | .stok n => fun p w v => v = .string (Env.S n)
  | .itok n => fun p w v => ∃ A cap, v = .slice A (Env.L n).length cap ∧ (Env.L n).length ≤ cap ∧ cap ≤ maxLen ∧ (Env.L n).length ≤ 1099511627777 ∧ IntsIn w (Fr p) A (Env.L n)
  | .rtok n => fun p w v => ∃ A cap, v = .slice A (Env.R n).length cap ∧ (Env.R n).length ≤ cap ∧ (Env.R n).length ≤ 140737488351232 ∧ cap ≤ maxLen ∧ ArgsIn w (Fr p) (Env.R n) A 0
  | .toks l => fun p w v => ∃ A cap, v = .slice A l.length cap ∧ l.length ≤ cap ∧ l.length ≤ 140737488351232 ∧ cap ≤ maxLen ∧ ArgsIn w (Fr p) (l.map Env.T) A 0
  | .grow s n => fun p w v => GrowAt s (Env.R n) p w v
  | .srow l => fun p w v => ∃ A cap, v = .slice A l.length cap ∧ l.length ≤ cap ∧ cap ≤ maxLen ∧ StrsIn w (Fr p) A (l.map (·.at Env.S))
  | .sat s => fun p w v => ∃ b o, v = .pointer (some ⟨b, o, none⟩) ∧ p b = none ∧ w.cell? ⟨b, o, none⟩ = some (.string (s.at Env.S))
  | .elm n => fun p w v => TermPlace (Env.T n) 0 p w v
  | .fld n j => fun p w v => TermPlace (Env.T n) j p w v
  | .iat k => fun p w v => ∃ b o, v = .pointer (some ⟨b, o, none⟩) ∧ p b = none ∧ w.cell? ⟨b, o, none⟩ = some (.int .i64 (Env.I k))
  | .any => fun _ _ _ => True
  | .val u => fun _ _ v => v = u
  | .term t => fun p w v => TmIn w (Fr p) t v
  | .row l => fun p w v => ∃ A cap, v = .slice A l.length cap ∧ l.length ≤ cap ∧ l.length ≤ 140737488351232 ∧ cap ≤ maxLen ∧ ArgsIn w (Fr p) l A 0
  | .ints l => fun p w v => ∃ A cap, v = .slice A l.length cap ∧ l.length ≤ cap ∧ cap ≤ maxLen ∧ l.length ≤ 1099511627777 ∧ IntsIn w (Fr p) A l
  | .pair x y => fun p w v => ∃ a b, v = .tuple #[a, b] ∧ x.pd p w a ∧ y.pd p w b
  | .tup3 x y z => fun p w v => ∃ a b c, v = .tuple #[a, b, c] ∧ x.pd p w a ∧ y.pd p w b ∧ z.pd p w c
  | .tup4 x y z u => fun p w v => ∃ a b c d, v = .tuple #[a, b, c, d] ∧ x.pd p w a ∧ y.pd p w b ∧ z.pd p w c ∧ u.pd p w d
  | .vcell s x => fun p w v => ∃ t, tmAny x = some t ∧ ∃ g A cap, v = .pointer (some ⟨g, 0, none⟩) ∧ p g = some (s + 1) ∧ w.heap[g]? = some (TB t A cap) ∧ x.pd p w (VT t A cap)
  | .own s n => fun p w v => TmIn w (fun b => p b = some (s + 1) ∧ OBlk w b) (Env.T n) v
  | .mfld s n j => fun p w v => ∃ g A cap, v = .pointer (some ⟨g, 0 + j, none⟩) ∧ p g = some (s + 1) ∧ w.heap[g]? = some (TB (Env.T n) A cap) ∧ TmIn w (Fr p) (Env.T n) (VT (Env.T n) A cap)
  | .intAt n => fun p w v => ∃ b o, v = .pointer (some ⟨b, o, none⟩) ∧ p b = none ∧ w.cell? ⟨b, o, none⟩ = some (.int .i64 n)
  | .termAt t => fun p w v => ∃ b o A cap, v = .pointer (some ⟨b, o, none⟩) ∧ p b = none ∧ w.cell? ⟨b, o, none⟩ = some (.int .i64 t.kind) ∧ w.cell? ⟨b, o + 1, none⟩ = some (.int .i64 t.num) ∧
      w.cell? ⟨b, o + 2, none⟩ = some (.string t.name) ∧ w.cell? ⟨b, o + 3, none⟩ = some (.slice A t.args.length cap) ∧ TmIn w (Fr p) t (VT t A cap)

theorem Ab.kept : ∀ (x : Ab), Kept x.pd
  | .any => fun p w p' w' v hx h => trivial
  | .elm n => TermPlace.kept
  | .toks l => fun p w p' w' v hx ⟨A, cap, e, h1, h2, h3, h⟩ => ⟨A, cap, e, h1, h2, h3, ArgsIn.keeps hx.keepsIn h⟩
  | .grow s n => GrowAt.kept
  | .srow l => fun p w p' w' v hx ⟨A, cap, e, h1, h2, h3⟩ => ⟨A, cap, e, h1, h2, h3.keeps hx.keepsIn⟩
  | .sat s => fun p w p' w' v hx ⟨b, o, e, h0, h1⟩ => ⟨b, o, e, (hx.pin b (lt_of_cell h1)).trans h0, hx.but.cell id h1⟩
  | .fld n j => TermPlace.kept
  | .iat k => fun p w p' w' v hx ⟨b, o, e, h0, h1⟩ => ⟨b, o, e, (hx.pin b (lt_of_cell h1)).trans h0, hx.but.cell id h1⟩
  | .val u => fun p w p' w' v hx h => h
  | .term t => fun p w p' w' v hx h => TmIn.keeps hx.keepsIn _ h
  | .row l => fun p w p' w' v hx ⟨A, cap, e, h1, h2, h3, h⟩ => ⟨A, cap, e, h1, h2, h3, ArgsIn.keeps hx.keepsIn h⟩
  | .ints l => fun p w p' w' v hx ⟨A, cap, e, h1, h2, h3, h⟩ => ⟨A, cap, e, h1, h2, h3, h.ext hx⟩
  | .pair x y => fun p w p' w' v hx ⟨a, b, e, h1, h2⟩ => ⟨a, b, e, x.kept _ _ _ _ _ hx h1, y.kept _ _ _ _ _ hx h2⟩
  | .tup3 x y z => fun p w p' w' v hx ⟨a, b, c, e, h1, h2, h3⟩ => ⟨a, b, c, e, x.kept _ _ _ _ _ hx h1, y.kept _ _ _ _ _ hx h2, z.kept _ _ _ _ _ hx h3⟩
  | .tup4 x y z u => fun p w p' w' v hx ⟨a, b, c, d, e, h1, h2, h3, h4⟩ => ⟨a, b, c, d, e, x.kept _ _ _ _ _ hx h1, y.kept _ _ _ _ _ hx h2, z.kept _ _ _ _ _ hx h3, u.kept _ _ _ _ _ hx h4⟩
  | .tok n => fun p w p' w' v hx h => TmIn.keeps hx.keepsIn _ h
  | .vtok n => fun p w p' w' v hx h => h
  | .stok n => fun p w p' w' v hx h => h
  | .itok n => fun p w p' w' v hx ⟨A, cap, e, h1, h2, h3, h⟩ => ⟨A, cap, e, h1, h2, h3, h.ext hx⟩
  | .rtok n => fun p w p' w' v hx ⟨A, cap, e, h1, h2, h3, h⟩ => ⟨A, cap, e, h1, h2, h3, ArgsIn.keeps hx.keepsIn h⟩
  | .vcell s x => fun p w p' w' v hx ⟨t, ht, g, A, cap, e, h1, h2, h3⟩ => ⟨t, ht, g, A, cap, e, (hx.pin g (lt_of_heap h2)).trans h1, hx.but.heap id h2, x.kept _ _ _ _ _ hx h3⟩
  | .own s n => fun p w p' w' v hx h => TmIn.keeps (fun k o ho hd => ⟨hx.but.heap id ho, (hx.pin k (lt_of_heap ho)).trans hd.1, hd.2.but hx.but id⟩) _ h
  | .mfld s n j => fun p w p' w' v hx ⟨g, A, cap, e, h1, h2, h3⟩ => ⟨g, A, cap, e, (hx.pin g (lt_of_heap h2)).trans h1, hx.but.heap id h2, TmIn.keeps hx.keepsIn _ h3⟩
  | .intAt n => fun p w p' w' v hx ⟨b, o, e, h0, h1⟩ => ⟨b, o, e, (hx.pin b (lt_of_cell h1)).trans h0, hx.but.cell id h1⟩
  | .termAt t => fun p w p' w' v hx ⟨b, o, A, cap, e, h0, h1, h2, h3, h4, h5⟩ => ⟨b, o, A, cap, e, (hx.pin b (lt_of_cell h1)).trans h0, hx.but.cell id h1, hx.but.cell id h2, hx.but.cell id h3, hx.but.cell id h4, TmIn.keeps hx.keepsIn _ h5⟩

theorem tm_pd {x : Ab} {t : Tm} (h : tmOf x = some t) {p : Nat → Option Nat} {w : World} {v : Value} : x.pd p w v ↔ TmIn w (Fr p) t v := by
  cases x with
  | term u => injection h with h; subst h; exact Iff.rfl
  | tok n => injection h with h; subst h; exact Iff.rfl
  | _ => cases h

theorem isTm_of {x : Ab} (h : isTm x = true) : ∃ t, tmAny x = some t := by
  cases x with
  | term u => exact ⟨u, rfl⟩
  | tok n => exact ⟨_, rfl⟩
  | own s n => exact ⟨_, rfl⟩
  | _ => cases h

theorem any_form {x : Ab} {t : Tm} (h : tmAny x = some t) {p : Nat → Option Nat} {w : World} {v : Value} (hv : x.pd p w v) : ∃ A cap, v = VT t A cap := by
  cases x with
  | term u => injection h with h; subst h; obtain ⟨A, cap, e, -⟩ := TmIn.form hv; exact ⟨A, cap, e⟩
  | tok n => injection h with h; subst h; obtain ⟨A, cap, e, -⟩ := TmIn.form hv; exact ⟨A, cap, e⟩
  | own s n => injection h with h; subst h; obtain ⟨A, cap, e, -⟩ := TmIn.form hv; exact ⟨A, cap, e⟩
  | _ => cases h

def lk : List (Tmp × Ab) → Tmp → Option Ab
  | [], _ => none
  | (s, x) :: σ, t => if s == t then some x else lk σ t

def ev (ρ : Tmp → Option Ab) : Operand → Option Ab
  | .tmp t => ρ t
  | .const v => some (.val v)
  | _ => none

def evs (ρ : Tmp → Option Ab) : List Operand → Option (List Ab)
  | [] => some []
  | x :: l => match ev ρ x, evs ρ l with
    | some y, some ys => some (y :: ys)
    | _, _ => none

def Args (p : Nat → Option Nat) (w : World) : List Ab → List Value → Prop
  | [], [] => True
  | x :: l, v :: vs => x.pd p w v ∧ Args p w l vs
  | _, _ => False

def opnTmps (l : List Operand) : List Tmp := l.filterMap fun | .tmp t => some t | _ => none

theorem ev_ok {ρ : Tmp → Option Ab} {F : Tmp → Pd} (hF : ∀ t x, ρ t = some x → F t = x.pd) {a : Act} {p : Nat → Option Nat} {w : World} {x : Operand} {y : Ab} (h : ev ρ x = some y)
    (hf : ∀ t, x = .tmp t → ∃ v, a.tmps[t]? = some v ∧ F t p w v) : y.pd p w (a.eval x) := by
  cases x with
  | tmp t =>
    obtain ⟨v, h1, h2⟩ := hf t rfl
    rw [hF t y h] at h2
    have : a.eval (.tmp t) = v := by
      show a.tmps.getD t undef = v
      rw [Array.getD_eq_getD_getElem?, h1]; rfl
    rw [this]
    exact h2
  | const v =>
    simp only [ev, Option.some.injEq] at h
    subst h
    rfl
  | global g => simp [ev] at h
  | func f => simp [ev] at h

theorem evs_ok {ρ : Tmp → Option Ab} {F : Tmp → Pd} (hF : ∀ t x, ρ t = some x → F t = x.pd) {a : Act} {p : Nat → Option Nat} {w : World} : ∀ {l : List Operand} {ys : List Ab}, evs ρ l = some ys →
    (∀ x ∈ l, ∀ t, x = .tmp t → ∃ v, a.tmps[t]? = some v ∧ F t p w v) → Args p w ys (l.map a.eval)
  | [], ys, h, hf => by
    simp only [evs, Option.some.injEq] at h
    subst h
    trivial
  | x :: l, ys, h, hf => by
    simp only [evs] at h
    cases h1 : ev ρ x with
    | none => rw [h1] at h; cases h
    | some y =>
      cases h2 : evs ρ l with
      | none => rw [h1, h2] at h; cases h
      | some zs =>
        rw [h1, h2] at h
        simp only [Option.some.injEq] at h
        subst h
        exact ⟨ev_ok hF h1 (hf x (List.mem_cons_self)), evs_ok hF h2 fun z hz => hf z (List.mem_cons_of_mem _ hz)⟩

/-- What calls do, on what is known. -/
def CallsOk (C : FuncId → List Ab → Option Ab) : Prop := ∀ f l x, C f l = some x → (∀ args w, (callFunc f args).run Try.prog w = .ok (.enter f args) w) ∧ ∀ p w vs, Args p w l vs →
  Calls Try.prog f vs.toArray w fun e w' => ∃ v p', e = .returned v ∧ Ext p w p' w' ∧ x.pd p' w' v

def terms : List Ab → Option (List Tm)
  | [] => some []
  | .term t :: l => match terms l with
    | some ts => some (t :: ts)
    | none => none
  | _ => none

def isTerm (t : TypeId) : Bool := t == 24
def isTerms (t : TypeId) : Bool := t == 22
def isStrs (t : TypeId) : Bool := t == 45
def isInts (t : TypeId) : Bool := false && t == 0

def irOf : Ab → Option IR
  | .vtok n => some (.tok n)
  | .val (.int .i64 k) => some (.lit k)
  | _ => none
def srOf : Ab → Option SR
  | .stok n => some (.tok n)
  | .val (.string s) => some (.lit s)
  | _ => none

def absSlice (ρ : Tmp → Option Ab) (t : TypeId) (n : Nat) : List (Nat × Operand) → Option Ab
  | [(i, x)] => match ev ρ x with
    | some (.term u) => if isTerms t && (n == 1) && (i == 0) then some (.row [u]) else none
    | some (.tok u) => if isTerms t && (n == 1) && (i == 0) then some (.toks [u]) else none
    | some y => match srOf y with
      | some a => if isStrs t && (n == 1) && (i == 0) then some (.srow [a]) else none
      | none => none
    | _ => none
  | [(i, x), (j, y)] => match ev ρ x, ev ρ y with
    | some (.term u), some (.term v) => if isTerms t && (n == 2) && (i == 0) && (j == 1) then some (.row [u, v]) else none
    | some (.tok u), some (.tok v) => if isTerms t && (n == 2) && (i == 0) && (j == 1) then some (.toks [u, v]) else none
    | some y, some z => match srOf y, srOf z with
      | some a, some b => if isStrs t && (n == 2) && (i == 0) && (j == 1) then some (.srow [a, b]) else none
      | _, _ => none
    | _, _ => none
  | [(i, x), (j, y), (k, z)] => match ev ρ x, ev ρ y, ev ρ z with
    | some (.term u), some (.term v), some (.term r) => if isTerms t && (n == 3) && (i == 0) && (j == 1) && (k == 2) then some (.row [u, v, r]) else none
    | some (.tok u), some (.tok v), some (.tok r) => if isTerms t && (n == 3) && (i == 0) && (j == 1) && (k == 2) then some (.toks [u, v, r]) else none
    | _, _, _ => none
  | _ => none

def isInt (t : TypeId) : Bool := t == 3 || t == 2

def bl (b : Bool) : Ab := .val (.bool b)

def relOf (r : Rel) (a b : IR) : Option Bool := match a, b with
  | .lit x, .lit y => some (r.says x y)
  | _, _ => findF (fun | .rel r' a' b' c => if Rel.beq r' r && IR.beq a' a && IR.beq b' b then some c else none | _ => none) Env.F
def ariOf (o : Ari) (a b : IR) : Option Nat :=
  findF (fun | .ari o' a' b' k => if Ari.beq o' o && IR.beq a' a && IR.beq b' b then some k else none | _ => none) Env.F
def ariAb (o : Ari) (a b : IR) : Option Ab := match a, b with
  | .lit x, .lit y => if decide (-9223372036854775808 ≤ o.says x y) && decide (o.says x y ≤ 9223372036854775807) then some (.val (.int .i64 (o.says x y))) else none
  | _, _ => (ariOf o a b).map .vtok
def seqOf (a b : SR) : Option Bool :=
  findF (fun | .seq a' b' c => if SR.beq a' a && SR.beq b' b then some c else none | _ => none) Env.F

inductive Cmp where
  | rel (r : Rel) (swap neg : Bool)
  | ari (o : Ari)

def cmpOf : BinOp → Option Cmp
  | .lss => some (.rel .lt false false)
  | .gtr => some (.rel .lt true false)
  | .leq => some (.rel .lt true true)
  | .geq => some (.rel .lt false true)
  | .eql => some (.rel .eq false false)
  | .neq => some (.rel .eq false true)
  | .add => some (.ari .add)
  | .sub => some (.ari .sub)
  | .mul => some (.ari .mul)
  | _ => none

def absBin (op : BinOp) (t : TypeId) (x y : Ab) : Option Ab := match cmpOf op with
  | some (.rel r sw ng) => match irOf x, irOf y with
    | some a, some b => (if sw then relOf r b a else relOf r a b).map fun c => bl (if ng then !c else c)
    | _, _ => match srOf x, srOf y with
      | some a, some b => match r with
        | .eq => if t == 9 then (seqOf a b).map fun c => bl (if ng then !c else c) else none
        | .lt => none
      | _, _ => none
  | some (.ari o) => match irOf x, irOf y with
    | some a, some b => if isInt t then ariAb o a b else none
    | _, _ => none
  | none => none

def mkOf (k n : IR) (s : SR) (l : List Nat) : Option Ab :=
  findF (fun | .mk m k' n' s' l' => if IR.beq k' k && IR.beq n' n && SR.beq s' s && (l' == l) then some (.tok m) else none | _ => none) Env.F
def mkrOf (k n : IR) (s : SR) (r : Nat) : Option Ab :=
  findF (fun | .mkr m k' n' s' r' => if IR.beq k' k && IR.beq n' n && SR.beq s' s && (r' == r) then some (.tok m) else none | _ => none) Env.F

def absBuild (ρ : Tmp → Option Ab) (t : TypeId) : List (Nat × Operand) → Option Ab
  | [(i, x), (j, y)] => match ev ρ x, ev ρ y with
    | some (.val (.int .i64 k)), some (.val (.string s)) =>
      if isTerm t && (i == 0) && (j == 2) && decide (-9223372036854775808 ≤ k) && decide (k ≤ 9223372036854775807) && decide (s.size ≤ 140737488351232) then some (.term (.mk k 0 s [])) else none
    | some x, some y =>
      if isTerm t && (i == 0) && (j == 2) then (match irOf x, srOf y with
        | some k, some s => mkOf k (.lit 0) s []
        | _, _ => none)
      else if isTerm t && (i == 0) && (j == 1) then (match irOf x, irOf y with
        | some k, some n => mkOf k n (.lit ⟨#[]⟩) []
        | _, _ => none)
      else none
    | _, _ => none
  | [(i, x)] => match ev ρ x with
    | some x => if isTerm t && (i == 1) then (match irOf x with
        | some n => mkOf (.lit 0) n (.lit ⟨#[]⟩) []
        | none => none)
      else none
    | none => none
  | [(i, x), (j, y), (k, z)] => match ev ρ x, ev ρ y, ev ρ z with
    | some x, some y, some z => if isTerm t && (i == 0) && (j == 2) && (k == 3) then (match irOf x, srOf y, z with
        | some k, some s, .toks l => mkOf k (.lit 0) s l
        | some k, some s, .rtok r => mkrOf k (.lit 0) s r
        | _, _, _ => none)
      else none
    | _, _, _ => none
  | [] => if isTerm t then some (.term zeroT) else none
  | _ => none

def absLen (ρ : Tmp → Option Ab) : List Operand → List TypeId → Option Ab
  | [x], [t] => match ev ρ x with
    | some (.ints l) => if isInts t then some (.val (.int .i64 l.length)) else none
    | some (.row l) => if isTerms t then some (.val (.int .i64 l.length)) else none
    | some (.itok n) => if isInts t then findF (fun | .ilen n' k => if n' == n then some (.vtok k) else none | _ => none) Env.F else none
    | some (.rtok n) => if isTerms t then findF (fun | .rlen n' k => if n' == n then some (.vtok k) else none | _ => none) Env.F else none
    | some (.srow l) => if isStrs t then some (.val (.int .i64 l.length)) else none
    | some (.val (.string s)) => if t == 9 then some (.val (.int .i64 s.size)) else none
    | some (.stok n) => if t == 9 then findF (fun | .slen n' k => if n' == n then some (.vtok k) else none | _ => none) Env.F else none
    | _ => none
  | _, _ => none

def absFld (n j : Nat) (t : TypeId) : Option Ab :=
  findF (fun | .tm n' a b c d => if n' == n then (if j == 0 && t == 3 then some (.vtok a) else if j == 1 && t == 2 then some (.vtok b) else if j == 2 && t == 9 then some (.stok c) else if j == 3 && isTerms t then some (.rtok d) else none) else none | _ => none) Env.F

def absOp (C : FuncId → List Ab → Option Ab) (ρ : Tmp → Option Ab) (o : Oper) : Option Ab :=
  match o.op with
  | .move x => ev ρ x
  | .assign x => ev ρ x
  | .pick c x y => match ev ρ c with
    | some (.val (.bool true)) => ev ρ x
    | some (.val (.bool false)) => ev ρ y
    | _ => none
  | .unOp .not _ x => match ev ρ x with
    | some (.val (.bool b)) => some (.val (.bool !b))
    | _ => none
  | .binOp .eql t x y _ => match ev ρ x, ev ρ y with
    | some (.val (.int .i64 a)), some (.val (.int .i64 b)) => some (.val (.bool (a == b)))
    | some (.val (.bool a)), some (.val (.bool b)) => if t == 4 then some (.val (.bool (a == b))) else none
    | some (.vtok a), some (.vtok b) => if a == b then some (.val (.bool true)) else (relOf .eq (.tok a) (.tok b)).map bl
    | some x, some y => absBin .eql t x y
    | _, _ => none
  | .binOp .neq t x y _ => match ev ρ x, ev ρ y with
    | some (.val (.bool a)), some (.val (.bool b)) => if t == 4 then some (.val (.bool (a != b))) else none
    | some x, some y => absBin .neq t x y
    | _, _ => none
  | .binOp op t x y _ => match ev ρ x, ev ρ y with
    | some a, some b => absBin op t a b
    | _, _ => none
  | .fieldAddr t x j => match ev ρ x with
    | some (.vcell s (.tok n)) => if isTerm t && decide (j ≤ 3) then some (.mfld s n j) else none
    | some (.elm n) => if isTerm t && decide (j ≤ 3) then some (.fld n j) else none
    | _ => none
  | .build t ps => absBuild ρ t ps.toList
  | .buildSlice t n ps => absSlice ρ t n ps.toList
  | .load t x => match ev ρ x with
    | some (.vcell _ u) => if isTerm t then some u else none
    | some (.termAt u) => if isTerm t then some (.term u) else none
    | some (.intAt n) => if t == 2 then some (.val (.int .i64 n)) else none
    | some (.iat k) => if t == 2 then some (.vtok k) else none
    | some (.elm n) => if isTerm t then some (.tok n) else none
    | some (.sat s) => if t == 9 then some (match s with | .tok n => .stok n | .lit b => .val (.string b)) else none
    | some (.fld n j) => absFld n j t
    | some (.mfld _ n j) => absFld n j t
    | _ => none
  | .indexAddr t x y => match ev ρ x, ev ρ y with
    | some (.ints l), some (.val (.int .i64 i)) => match l[i.toNat]? with
      | some n => if isInts t && decide (0 ≤ i) then some (.intAt n) else none
      | none => none
    | some (.row l), some (.val (.int .i64 i)) => match l[i.toNat]? with
      | some n => if isTerms t && decide (0 ≤ i) then some (.termAt n) else none
      | none => none
    | some (.srow l), some (.val (.int .i64 i)) => match l[i.toNat]? with
      | some a => if isStrs t && decide (0 ≤ i) then some (.sat a) else none
      | none => none
    | some (.itok n), some z => match irOf z with
      | some i => if isInts t then findF (fun | .iget n' i' k => if n' == n && IR.beq i' i then some (.iat k) else none | _ => none) Env.F else none
      | none => none
    | some (.rtok n), some z => match irOf z with
      | some i => if isTerms t then findF (fun | .rget n' i' k => if n' == n && IR.beq i' i then some (.elm k) else none | _ => none) Env.F else none
      | none => none
    | _, _ => none
  | .extract x i => match ev ρ x with
    | some (.pair a b) => if i == 0 then some a else if i == 1 then some b else none
    | some (.tup3 a b c) => if i == 0 then some a else if i == 1 then some b else if i == 2 then some c else none
    | some (.tup4 a b c d) => if i == 0 then some a else if i == 1 then some b else if i == 2 then some c else if i == 3 then some d else none
    | _ => none
  | .box t x => match ev ρ x with
    | some y => if isTerm t && isTm y then o.dst.map fun s => .vcell s y else none
    | none => none
  | .alloc t => if isTerm t then o.dst.map fun s => .vcell s (.term zeroT) else none
  | .call c => match c.callee with
    | .value (.func f) => match evs ρ c.args.toList with
      | some l => C f l
      | none => none
    | .builtin .len => absLen ρ c.args.toList c.argTypes.toList
    | _ => none
  | _ => none

end Go.Proofs.Ytloekfnlidclcaa

