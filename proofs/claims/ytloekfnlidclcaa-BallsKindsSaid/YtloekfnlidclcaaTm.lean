/-
  Go terms as plain data, and what it means that a value reads as a term in a world: plain definitions and their carrying laws. No condition.
-/
import Derived.Test.YtloekfnlidclcaaRows
import Derived.Test.YtloekfnlidclcaaBt
namespace Go.Proofs.Ytloekfnlidclcaa
open Go.RowKit
set_option linter.unusedVariables false

/-- A term: kind, number, name, arguments. -/
inductive Tm where
  | mk (k n : Int) (s : ByteArray) (args : List Tm)

namespace Tm
def kind : Tm → Int | .mk k _ _ _ => k
def num : Tm → Int | .mk _ n _ _ => n
def name : Tm → ByteArray | .mk _ _ s _ => s
def args : Tm → List Tm | .mk _ _ _ l => l

theorem ind {P : Tm → Prop} (h : ∀ k n s l, (∀ a ∈ l, P a) → P (.mk k n s l)) (t : Tm) : P t :=
  Tm.rec (motive_1 := P) (motive_2 := fun l => ∀ a ∈ l, P a) (fun k n s l ih => h k n s l ih) (by simp)
    (fun t l iht ihl a ha => by
      rcases List.mem_cons.1 ha with rfl | h'
      · exact iht
      · exact ihl a h') t
end Tm

def wf64 (n : Int) : Prop := -9223372036854775808 ≤ n ∧ n ≤ 9223372036854775807

/-- The block number k is a row of terms. -/
def TBlk (w : World) (k : Nat) : Prop := ∃ c f, w.heap[k]? = some (.cells c 24 f)

/-- A row of terms, from B on. -/
def TBk (B : Nat) (w : World) : Nat → Prop := fun k => B ≤ k ∧ TBlk w k

mutual
/-- The value v reads as the term in w; every array of arguments lies in a block of D. -/
def TmIn (w : World) (D : Nat → Prop) : Tm → Value → Prop
  | .mk k n s l, v => ∃ A len cap, v = .agg #[.int .i64 k, .int .i64 n, .string s, .slice A len cap] ∧ wf64 k ∧ wf64 n ∧ s.size ≤ 140737488351232 ∧
      len = l.length ∧ len ≤ cap ∧ len ≤ 140737488351232 ∧ cap ≤ maxLen ∧ ArgsIn w D l A 0
def ArgsIn (w : World) (D : Nat → Prop) : List Tm → Option Addr → Nat → Prop
  | [], _, _ => True
  | t :: l, A, i => (∃ b o c0 c1 c2 c3, A = some ⟨b, o, none⟩ ∧ D b ∧ w.cell? ⟨b, o + i * 4, none⟩ = some c0 ∧ w.cell? ⟨b, o + i * 4 + 1, none⟩ = some c1 ∧
      w.cell? ⟨b, o + i * 4 + 2, none⟩ = some c2 ∧ w.cell? ⟨b, o + i * 4 + 3, none⟩ = some c3 ∧ TmIn w D t (.agg #[c0, c1, c2, c3])) ∧ ArgsIn w D l A (i + 1)
end

/-- The element number i of a slice of terms at A. -/
def ArgIn (w : World) (D : Nat → Prop) (t : Tm) (A : Option Addr) (i : Nat) : Prop :=
  ∃ b o c0 c1 c2 c3, A = some ⟨b, o, none⟩ ∧ D b ∧ w.cell? ⟨b, o + i * 4, none⟩ = some c0 ∧ w.cell? ⟨b, o + i * 4 + 1, none⟩ = some c1 ∧
      w.cell? ⟨b, o + i * 4 + 2, none⟩ = some c2 ∧ w.cell? ⟨b, o + i * 4 + 3, none⟩ = some c3 ∧ TmIn w D t (.agg #[c0, c1, c2, c3])

/-- Every array of arguments lies below B or in a row of terms. -/
abbrev TmAt (w : World) (B : Nat) : Tm → Value → Prop := TmIn w (fun b => b < B ∨ TBlk w b)
abbrev ArgsAt (w : World) (B : Nat) : List Tm → Option Addr → Nat → Prop := ArgsIn w (fun b => b < B ∨ TBlk w b)

/-- Row b of terms is the call's own: it is not frozen. -/
def OBlk (w : World) (b : Nat) : Prop := ∃ c, w.heap[b]? = some (.cells c 24 (0, 0))
/-- Every array of arguments is a row of terms from B on, not frozen. -/
abbrev TmNew (w : World) (B : Nat) : Tm → Value → Prop := TmIn w (fun b => B ≤ b ∧ OBlk w b)

theorem argsIn_iff {w : World} {D : Nat → Prop} {A : Option Addr} : ∀ {l : List Tm} {i : Nat}, ArgsIn w D l A i ↔ ∀ j (h : j < l.length), ArgIn w D l[j] A (i + j)
  | [], i => by simp [ArgsIn]
  | t :: l, i => by
    simp only [ArgsIn]
    constructor
    · rintro ⟨h0, h1⟩ j hj
      rcases j with _ | j
      · exact h0
      · have := (argsIn_iff (l := l) (i := i + 1)).1 h1 j (by simpa using hj)
        simpa [Nat.add_assoc, Nat.add_comm 1 j] using this
    · intro h
      refine ⟨h 0 (by simp), (argsIn_iff (l := l) (i := i + 1)).2 fun j hj => ?_⟩
      have := h (j + 1) (by simpa using hj)
      simpa [Nat.add_assoc, Nat.add_comm 1 j] using this

theorem TmIn.form {w : World} {D : Nat → Prop} {t : Tm} {v : Value} (h : TmIn w D t v) : ∃ A cap, v = .agg #[.int .i64 t.kind, .int .i64 t.num, .string t.name, .slice A t.args.length cap] ∧
    wf64 t.kind ∧ wf64 t.num ∧ t.name.size ≤ 140737488351232 ∧ t.args.length ≤ cap ∧ t.args.length ≤ 140737488351232 ∧ cap ≤ maxLen ∧ ArgsIn w D t.args A 0 := by
  cases t with
  | mk k n s l =>
    unfold TmIn at h
    obtain ⟨A, len, cap, e, h1, h2, h3, rfl, h5, h6, hc, h7⟩ := h
    exact ⟨A, cap, e, h1, h2, h3, h5, h6, hc, h7⟩

theorem ArgIn.form {w : World} {D : Nat → Prop} {t : Tm} {A : Option Addr} {i : Nat} (h : ArgIn w D t A i) : ∃ b o A0 cap0, A = some ⟨b, o, none⟩ ∧ D b ∧
    w.cell? ⟨b, o + i * 4, none⟩ = some (.int .i64 t.kind) ∧ w.cell? ⟨b, o + i * 4 + 1, none⟩ = some (.int .i64 t.num) ∧
    w.cell? ⟨b, o + i * 4 + 2, none⟩ = some (.string t.name) ∧ w.cell? ⟨b, o + i * 4 + 3, none⟩ = some (.slice A0 t.args.length cap0) ∧
    TmIn w D t (.agg #[.int .i64 t.kind, .int .i64 t.num, .string t.name, .slice A0 t.args.length cap0]) := by
  obtain ⟨b, o, c0, c1, c2, c3, rfl, hb, e0, e1, e2, e3, ht⟩ := h
  obtain ⟨A0, cap0, e, _⟩ := ht.form
  injection e with e
  obtain ⟨rfl, rfl, rfl, rfl⟩ : c0 = _ ∧ c1 = _ ∧ c2 = _ ∧ c3 = _ := by simpa using e
  exact ⟨b, o, A0, cap0, rfl, hb, e0, e1, e2, e3, ht⟩

/-- The element number j of a slice of terms. -/
theorem ArgsIn.get {w : World} {D : Nat → Prop} {l : List Tm} {A : Option Addr} (h : ArgsIn w D l A 0) {j : Nat} (hj : j < l.length) : ∃ b o A0 cap0, A = some ⟨b, o, none⟩ ∧ D b ∧
    w.cell? ⟨b, o + j * 4, none⟩ = some (.int .i64 l[j].kind) ∧ w.cell? ⟨b, o + j * 4 + 1, none⟩ = some (.int .i64 l[j].num) ∧
    w.cell? ⟨b, o + j * 4 + 2, none⟩ = some (.string l[j].name) ∧ w.cell? ⟨b, o + j * 4 + 3, none⟩ = some (.slice A0 l[j].args.length cap0) ∧
    TmIn w D l[j] (.agg #[.int .i64 l[j].kind, .int .i64 l[j].num, .string l[j].name, .slice A0 l[j].args.length cap0]) := by
  have := (argsIn_iff.1 h j hj).form
  simpa only [Nat.zero_add] using this

/-- What the world must keep so that terms stay. -/
def KeepsIn (D D' : Nat → Prop) (w w' : World) : Prop := ∀ k o, w.heap[k]? = some o → D k → w'.heap[k]? = some o ∧ D' k

theorem KeepsIn.cell {D D' : Nat → Prop} {w w' : World} (h : KeepsIn D D' w w') {b o : Nat} {v : Value} (hk : D b) (hc : w.cell? ⟨b, o, none⟩ = some v) : w'.cell? ⟨b, o, none⟩ = some v ∧ D' b := by
  have hlt : b < w.heap.size := lt_of_cell hc
  obtain ⟨h1, h2⟩ := h b _ (Array.getElem?_eq_getElem hlt) hk
  exact ⟨(World.cell?_of_block (w := w) (by rw [h1, Array.getElem?_eq_getElem hlt])).trans hc, h2⟩

theorem TmIn.keeps {D D' : Nat → Prop} {w w' : World} (hk : KeepsIn D D' w w') (t : Tm) : ∀ {v : Value}, TmIn w D t v → TmIn w' D' t v := by
  induction t using Tm.ind with
  | h k n s l ih =>
    intro v hv
    unfold TmIn at hv ⊢
    obtain ⟨A, len, cap, e, h1, h2, h3, h4, h5, h6, hc, h7⟩ := hv
    refine ⟨A, len, cap, e, h1, h2, h3, h4, h5, h6, hc, ?_⟩
    rw [argsIn_iff] at h7 ⊢
    intro j hj
    obtain ⟨b, o, c0, c1, c2, c3, rfl, hb, e0, e1, e2, e3, ht⟩ := h7 j hj
    exact ⟨b, o, c0, c1, c2, c3, rfl, (hk.cell hb e0).2, (hk.cell hb e0).1, (hk.cell hb e1).1, (hk.cell hb e2).1, (hk.cell hb e3).1, ih _ (List.getElem_mem hj) ht⟩

theorem ArgIn.keeps {D D' : Nat → Prop} {w w' : World} (hk : KeepsIn D D' w w') {t : Tm} {A : Option Addr} {i : Nat} (h : ArgIn w D t A i) : ArgIn w' D' t A i := by
  obtain ⟨b, o, c0, c1, c2, c3, rfl, hb, e0, e1, e2, e3, ht⟩ := h
  exact ⟨b, o, c0, c1, c2, c3, rfl, (hk.cell hb e0).2, (hk.cell hb e0).1, (hk.cell hb e1).1, (hk.cell hb e2).1, (hk.cell hb e3).1, TmIn.keeps hk t ht⟩

theorem ArgsIn.keeps {D D' : Nat → Prop} {w w' : World} (hk : KeepsIn D D' w w') {l : List Tm} {A : Option Addr} {i : Nat} (h : ArgsIn w D l A i) : ArgsIn w' D' l A i := by
  rw [argsIn_iff] at h ⊢
  exact fun j hj => (h j hj).keeps hk

def Keeps (B : Nat) (w w' : World) : Prop := ∀ k o, w.heap[k]? = some o → (k < B ∨ TBlk w k) → w'.heap[k]? = some o

theorem Keeps.tblk {B : Nat} {w w' : World} (h : Keeps B w w') {k : Nat} (hk : TBlk w k) : TBlk w' k := by
  obtain ⟨c, f, hc⟩ := hk
  exact ⟨c, f, h k _ hc (.inr ⟨c, f, hc⟩)⟩

theorem Keeps.keepsIn {B B' : Nat} {w w' : World} (hB : B ≤ B') (h : Keeps B w w') : KeepsIn (fun b => b < B ∨ TBlk w b) (fun b => b < B' ∨ TBlk w' b) w w' :=
  fun k o hk hd => ⟨h k o hk hd, hd.elim (fun hl => .inl (by omega)) (fun ht => .inr (h.tblk ht))⟩

theorem TmAt.keeps {B B' : Nat} {w w' : World} (hB : B ≤ B') (hk : Keeps B w w') (t : Tm) {v : Value} (h : TmAt w B t v) : TmAt w' B' t v := TmIn.keeps (hk.keepsIn hB) t h
theorem ArgsAt.keeps {B B' : Nat} {w w' : World} (hB : B ≤ B') (hk : Keeps B w w') {l : List Tm} {A : Option Addr} {i : Nat} (h : ArgsAt w B l A i) : ArgsAt w' B' l A i := ArgsIn.keeps (hk.keepsIn hB) h

/-- What may turn: blocks from B on that are no rows of terms. -/
def Off (B : Nat) (w : World) : Nat → Prop := fun k => B ≤ k ∧ ¬ TBlk w k

theorem But.keeps {S : Nat → Prop} {B : Nat} {w w' : World} (h : But S w w') (hS : ∀ k, S k → Off B w k) : Keeps B w w' :=
  fun _ _ hk hd => h.heap (fun hs => hd.elim (fun hlt => by have := (hS _ hs).1; omega) (hS _ hs).2) hk

theorem But.keeps_nil {B : Nat} {w w' : World} (h : But Nil w w') : Keeps B w w' := h.keeps fun _ hs => hs.elim

theorem TmAt.all {B : Nat} {w : World} {t : Tm} {v : Value} (h : TmAt w B t v) (B' : Nat) (hB : B ≤ B') : TmAt w B' t v := TmAt.keeps hB (fun _ _ h _ => h) t h

theorem OBlk.tblk {w : World} {b : Nat} (h : OBlk w b) : TBlk w b := let ⟨c, hc⟩ := h; ⟨c, _, hc⟩

theorem TmNew.at_ {w : World} {B : Nat} {t : Tm} {v : Value} (h : TmNew w B t v) (B' : Nat) : TmAt w B' t v :=
  TmIn.keeps (fun _ _ hk hd => ⟨hk, .inr hd.2.tblk⟩) t h

theorem TmNew.but {S : Nat → Prop} {w w' : World} {B B' : Nat} {t : Tm} {v : Value} (h : TmNew w B t v) (hb : But S w w') (hS : ∀ k, S k → ¬ TBlk w k) (hB : B' ≤ B) : TmNew w' B' t v :=
  TmIn.keeps (fun _ _ hk hd => ⟨hb.heap (fun hs => hS _ hs hd.2.tblk) hk, Nat.le_trans hB hd.1, let ⟨c, hc⟩ := hd.2; ⟨c, hb.heap (fun hs => hS _ hs hd.2.tblk) hc⟩⟩) t h

theorem TmNew.far {S : Nat → Prop} {w w' : World} {B B' : Nat} {t : Tm} {v : Value} (h : TmNew w B t v) (hb : But S w w') (hS : ∀ k, S k → k < B ∨ ¬ TBlk w k) (hB : B' ≤ B) : TmNew w' B' t v :=
  TmIn.keeps (fun k _ hk hd => have hn : ¬ S k := fun hs => (hS _ hs).elim (fun hl => by have := hd.1; omega) (fun hn => hn hd.2.tblk)
    ⟨hb.heap hn hk, Nat.le_trans hB hd.1, let ⟨c, hc⟩ := hd.2; ⟨c, hb.heap hn hc⟩⟩) t h

theorem TBlk.but {S : Nat → Prop} {w w' : World} {k : Nat} (h : TBlk w k) (hb : But S w w') (hS : ¬ S k) : TBlk w' k := let ⟨c, f, hc⟩ := h; ⟨c, f, hb.heap hS hc⟩

theorem Off.back {w w' : World} {B i : Nat} (h : Off B w' i) (hb : But Nil w w') : Off B w i ∨ w.heap.size ≤ i := .inl ⟨h.1, fun ht => h.2 (ht.but hb id)⟩

/-- What a row keeps its kind. -/
theorem But.off_back {S : Nat → Prop} {w w' : World} {B i : Nat} (hb : But S w w') (hS : ∀ k, S k → ¬ TBlk w k) (h : Off B w' i) : Off B w i := ⟨h.1, fun ht => h.2 (ht.but hb (fun hs => hS _ hs ht))⟩

theorem TmIn.lt {w : World} {D : Nat → Prop} {t : Tm} {v : Value} (h : TmIn w D t v) : TmIn w (fun b => b < w.heap.size) t v :=
  TmIn.keeps (fun k o hk hd => ⟨hk, lt_of_heap hk⟩) t h

/-- A term that came in, or that a call gave back, in a later world. -/
theorem TmAt.nil {w w' : World} {t : Tm} {v : Value} (h : TmAt w w.heap.size t v) (hb : But Nil w w') : TmAt w' w'.heap.size t v := TmAt.keeps hb.size hb.keeps_nil t h

/-- The block of a term. -/
abbrev TB (t : Tm) (A : Option Addr) (cap : Nat) : Obj := .cells #[.int .i64 t.kind, .int .i64 t.num, .string t.name, .slice A t.args.length cap] 24

end Go.Proofs.Ytloekfnlidclcaa

