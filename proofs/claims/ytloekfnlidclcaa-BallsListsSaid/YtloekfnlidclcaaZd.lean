/-
  Lemmas of the walk and plain laws, put together. No condition.
-/
import Derived.BigQuiet
import Derived.LoopN
import Derived.Scope
import Derived.Test.YtloekfnlidclcaaZc
namespace Go.Proofs.Ytloekfnlidclcaa
open Go.RowKit Go.Maps
set_option linter.unusedVariables false

def okI (n : Int) : Bool := decide (-9223372036854775808 ≤ n) && decide (n ≤ 9223372036854775807)
def okS (s : ByteArray) : Bool := decide (s.size ≤ 140737488351232)

theorem okI_wf {n : Int} (h : okI n = true) : wf64 n := by
  simp only [okI, Bool.and_eq_true, decide_eq_true_eq] at h
  exact h

def rowOf : Ab → Option (List Tm)
  | .row l => some l
  | .val (.slice none 0 0) => some []
  | _ => none

variable [Env]

theorem rowOf_ok {x : Ab} {l : List Tm} (h : rowOf x = some l) {p : Nat → Option Nat} {w : World} {v : Value} (hv : x.pd p w v) : (Ab.row l).pd p w v := by
  unfold rowOf at h
  split at h
  · injection h with h; subst h; exact hv
  · injection h with h
    subst h
    obtain rfl : v = _ := hv
    exact ⟨none, 0, rfl, by simp, by simp, by unfold maxLen; omega, by unfold ArgsIn; trivial⟩
  · cases h

def c1i : List Ab → Option Int
  | [.val (.int .i64 n)] => if okI n then some n else none
  | _ => none
def c1s : List Ab → Option ByteArray
  | [.val (.string s)] => if okS s then some s else none
  | _ => none
def c1t : List Ab → Option Tm
  | [.term t] => some t
  | _ => none
def c2t : List Ab → Option (Tm × Tm)
  | [.term t, .term u] => some (t, u)
  | _ => none
def csr : List Ab → Option (ByteArray × List Tm)
  | [.val (.string s), y] => match rowOf y with
    | some l => if okS s then some (s, l) else none
    | none => none
  | _ => none
def cti : List Ab → Option (Tm × Int)
  | [.term t, .val (.int .i64 n)] => if okI n then some (t, n) else none
  | _ => none
def ctit : List Ab → Option (Tm × Int × Tm)
  | [.term t, .val (.int .i64 n), .term u] => some (t, n, u)
  | _ => none
def crt : List Ab → Option (List Tm × Tm)
  | [x, .term u] => match rowOf x with
    | some l => some (l, u)
    | none => none
  | _ => none

theorem c1i_ok {l : List Ab} {n : Int} (h : c1i l = some n) {p : Nat → Option Nat} {w : World} {vs : List Value} (hv : Args p w l vs) : vs = [.int .i64 n] ∧ wf64 n := by
  unfold c1i at h
  split at h
  · split at h
    · rename_i hk
      injection h with h
      subst h
      match vs, hv with
      | [v], ⟨h1, _⟩ => exact ⟨by rw [show v = _ from h1], okI_wf hk⟩
    · cases h
  · cases h

theorem c1s_ok {l : List Ab} {s : ByteArray} (h : c1s l = some s) {p : Nat → Option Nat} {w : World} {vs : List Value} (hv : Args p w l vs) : vs = [.string s] ∧ s.size ≤ 140737488351232 := by
  unfold c1s at h
  split at h
  · split at h
    · rename_i hk
      injection h with h
      subst h
      match vs, hv with
      | [v], ⟨h1, _⟩ => exact ⟨by rw [show v = _ from h1], by simpa [okS] using hk⟩
    · cases h
  · cases h

theorem c1t_ok {l : List Ab} {t : Tm} (h : c1t l = some t) {p : Nat → Option Nat} {w : World} {vs : List Value} (hv : Args p w l vs) : ∃ v, vs = [v] ∧ TmIn w (Fr p) t v := by
  unfold c1t at h
  split at h
  · injection h with h
    subst h
    match vs, hv with
    | [v], ⟨h1, _⟩ => exact ⟨v, rfl, h1⟩
  · cases h

theorem c2t_ok {l : List Ab} {t u : Tm} (h : c2t l = some (t, u)) {p : Nat → Option Nat} {w : World} {vs : List Value} (hv : Args p w l vs) : ∃ v v', vs = [v, v'] ∧ TmIn w (Fr p) t v ∧ TmIn w (Fr p) u v' := by
  unfold c2t at h
  split at h
  · injection h with h
    injection h with h h'
    subst h h'
    match vs, hv with
    | [v, v'], ⟨h1, h2, _⟩ => exact ⟨v, v', rfl, h1, h2⟩
  · cases h

theorem csr_ok {l : List Ab} {s : ByteArray} {ts : List Tm} (h : csr l = some (s, ts)) {p : Nat → Option Nat} {w : World} {vs : List Value} (hv : Args p w l vs) :
    s.size ≤ 140737488351232 ∧ ∃ A cap, vs = [.string s, .slice A ts.length cap] ∧ ts.length ≤ cap ∧ ts.length ≤ 140737488351232 ∧ cap ≤ maxLen ∧ ArgsIn w (Fr p) ts A 0 := by
  unfold csr at h
  split at h
  · split at h
    · rename_i l' hr
      split at h
      · rename_i hk
        injection h with h
        injection h with h h'
        subst h h'
        match vs, hv with
        | [v, v'], ⟨h1, h2, _⟩ =>
          obtain ⟨A, cap, he, h3⟩ := rowOf_ok hr h2
          exact ⟨by simpa [okS] using hk, A, cap, by rw [show v = _ from h1, he], h3⟩
      · cases h
    · cases h
  · cases h

theorem cti_ok {l : List Ab} {t : Tm} {n : Int} (h : cti l = some (t, n)) {p : Nat → Option Nat} {w : World} {vs : List Value} (hv : Args p w l vs) : wf64 n ∧ ∃ v, vs = [v, .int .i64 n] ∧ TmIn w (Fr p) t v := by
  unfold cti at h
  split at h
  · split at h
    · rename_i hk
      injection h with h
      injection h with h h'
      subst h h'
      match vs, hv with
      | [v, v'], ⟨h1, h2, _⟩ => exact ⟨okI_wf hk, v, by rw [show v' = _ from h2], h1⟩
    · cases h
  · cases h

theorem ctit_ok {l : List Ab} {t u : Tm} {n : Int} (h : ctit l = some (t, n, u)) {p : Nat → Option Nat} {w : World} {vs : List Value} (hv : Args p w l vs) : ∃ v v', vs = [v, .int .i64 n, v'] ∧ TmIn w (Fr p) t v ∧ TmIn w (Fr p) u v' := by
  unfold ctit at h
  split at h
  · injection h with h
    injection h with h h'
    injection h' with h' h''
    subst h h' h''
    match vs, hv with
    | [v, v', v''], ⟨h1, h2, h3, _⟩ => exact ⟨v, v'', by rw [show v' = _ from h2], h1, h3⟩
  · cases h

theorem crt_ok {l : List Ab} {u : Tm} {ts : List Tm} (h : crt l = some (ts, u)) {p : Nat → Option Nat} {w : World} {vs : List Value} (hv : Args p w l vs) :
    ∃ A cap v, vs = [.slice A ts.length cap, v] ∧ ts.length ≤ cap ∧ ts.length ≤ 140737488351232 ∧ cap ≤ maxLen ∧ ArgsIn w (Fr p) ts A 0 ∧ TmIn w (Fr p) u v := by
  unfold crt at h
  split at h
  · split at h
    · rename_i l' hr
      injection h with h
      injection h with h h'
      subst h h'
      match vs, hv with
      | [v, v'], ⟨h1, h2, _⟩ =>
        obtain ⟨A, cap, he, h3, h4, h5, h6⟩ := rowOf_ok hr h1
        exact ⟨A, cap, v', by rw [he], h3, h4, h5, h6, h2⟩
    · cases h
  · cases h

theorem ret_new {t : Tm} {p : Nat → Option Nat} {w : World} {e : Ending} {w' : World} (h : ∃ u, e = .returned u ∧ TmNew w' w.heap.size t u ∧ But Nil w w') : ∃ v p', e = .returned v ∧ Ext p w p' w' ∧ (Ab.term t).pd p' w' v := by
  obtain ⟨u, rfl, hn, hb⟩ := h
  exact ⟨u, pin0 p w, rfl, Ext.plain hb, hn.pins⟩

theorem ret_val {v : Value} {p : Nat → Option Nat} {w : World} {e : Ending} {w' : World} (h : e = .returned v ∧ But Nil w w') : ∃ v' p', e = .returned v' ∧ Ext p w p' w' ∧ (Ab.val v).pd p' w' v' := by
  obtain ⟨rfl, hb⟩ := h
  exact ⟨v, pin0 p w, rfl, Ext.plain hb, rfl⟩

end Go.Proofs.Ytloekfnlidclcaa

namespace Go.Proofs.Ytloekfnlidclcaa
open Go.RowKit
set_option linter.unusedVariables false
variable [Env]

def isNew : Ab → Bool
  | .vcell _ _ => true
  | .mfld _ _ _ => true
  | .grow _ _ => true
  | .own _ _ => true
  | .pair x y => isNew x || isNew y
  | .tup3 x y z => isNew x || (isNew y || isNew z)
  | .tup4 x y z u => isNew x || (isNew y || (isNew z || isNew u))
  | _ => false

def byKey (q : Tmp → Bool) (σ : List (Tmp × Ab)) : List (Tmp × Ab) := σ.filter fun e => q e.1

omit [Env] in
theorem lk_byKey {q : Tmp → Bool} {σ : List (Tmp × Ab)} {s : Tmp} {x : Ab} (h : lk (byKey q σ) s = some x) : q s = true ∧ lk σ s = some x := by
  induction σ with
  | nil => cases h
  | cons e σ ih =>
    unfold byKey at h
    rw [List.filter_cons] at h
    unfold lk
    by_cases hes : e.1 = s
    · rw [if_pos (by simpa using hes)]
      split at h
      · rename_i hq
        unfold lk at h
        rw [if_pos (by simpa using hes)] at h
        exact ⟨hes ▸ hq, h⟩
      · rename_i hq
        have := ih h
        rw [hes] at hq
        exact absurd this.1 hq
    · rw [if_neg (by simpa using hes)]
      split at h
      · unfold lk at h
        rw [if_neg (by simpa using hes)] at h
        exact ih h
      · exact ih h

def nodupB : List Tmp → Bool
  | [] => true
  | t :: l => !l.contains t && nodupB l

omit [Env] in
theorem lk_pair {σ : List (Tmp × Ab)} {s : Tmp} {x : Ab} (h : lk σ s = some x) : (s, x) ∈ σ := by
  induction σ with
  | nil => cases h
  | cons e σ ih =>
    unfold lk at h
    by_cases hes : e.1 = s
    · rw [if_pos (by simpa using hes)] at h
      injection h with h
      subst h hes
      exact List.mem_cons_self
    · rw [if_neg (by simpa using hes)] at h
      exact List.mem_cons_of_mem _ (ih h)

omit [Env] in
theorem pair_lk {σ : List (Tmp × Ab)} (hn : nodupB (σ.map (·.1)) = true) {s : Tmp} {x : Ab} (h : (s, x) ∈ σ) : lk σ s = some x := by
  induction σ with
  | nil => cases h
  | cons e σ ih =>
    simp only [List.map_cons, nodupB, Bool.and_eq_true, Bool.not_eq_true'] at hn
    unfold lk
    rcases List.mem_cons.1 h with rfl | h
    · simp
    · rw [if_neg, ih hn.2 h]
      intro he
      have : e.1 = s := by simpa using he
      have h1 : e.1 ∈ σ.map (·.1) := by rw [this]; exact List.mem_map.2 ⟨(s, x), h, rfl⟩
      have h2 := hn.1
      simp at h2
      exact h2 x (by rw [this]; exact h)

/-- What is known behind a store of the term u into the variable t. -/
def okAfter (t : Tmp) : Ab → Bool
  | .vcell r x => r != t && okAfter t x
  | .own r _ => r != t
  | .mfld r _ _ => r != t
  | .grow r _ => r != t
  | x => !isNew x

def settle (t : Tmp) (u : Ab) (σ : List (Tmp × Ab)) : Option (List (Tmp × Ab)) :=
  if nodupB (σ.map (·.1)) && okAfter t u then some ((t, .vcell t u) :: σ.filter fun e => e.1 != t && okAfter t e.2) else none

def appOf (o : Oper) : Option (Tmp × Tmp × Tmp) := match o.op, o.dst with
  | .call c, some t => match c.callee, c.args.toList, c.argTypes.toList with
    | .builtin .append, [.tmp a, .tmp b], [t1, t2] => if isTerms t1 && isTerms t2 then some (a, b, t) else none
    | _, _, _ => none
  | _, _ => none

/-- The key and the elements of a row that grows. -/
def keyOf (t : Tmp) : Ab → Option (Tmp × Option Nat)
  | .grow s n => some (s, some n)
  | .val (.slice none 0 0) => some (t, none)
  | _ => none

def pushOf (n : Option Nat) (k : Nat) : Option (Nat × Bool) :=
  findF (fun | .push n' k' m fin => if n' == n && k' == k then some (m, fin) else none | _ => none) Env.F

def appTl (σ : List (Tmp × Ab)) (a b t : Tmp) : Option (List (Tmp × Ab)) := match lk σ a, lk σ b with
  | some x, some (.toks [k]) => match keyOf t x with
    | some (s, n) => match pushOf n k with
      | some (m, fin) => if nodupB (σ.map (·.1)) then some ((t, if fin then .rtok m else .grow s m) :: σ.filter fun e => e.1 != t && okAfter s e.2) else none
      | none => none
    | none => none
  | _, _ => none

/-- One operation that is carried out. -/
def stTl (C : FuncId → List Ab → Option Ab) (σ : List (Tmp × Ab)) (o : Oper) : Option (List (Tmp × Ab)) :=
  match o.op with
  | .store ty (.tmp s) (.tmp v) => match lk σ s, lk σ v with
    | some (.vcell r _), some u => if isTerm ty && r == s && s != v && o.dst.isNone && isTm u then settle s u σ else none
    | _, _ => none
  | _ => match appOf o with
    | some (a, b, t) => appTl σ a b t
    | none => match o.dst with
      | none => none
      | some t => match absOp C (lk σ) o with
        | none => none
        | some x => some ((t, x) :: byKey (· != t) σ)

/-- The operations behind a region's free part, and those of a region in the text's order. -/
def runTl (C : FuncId → List Ab → Option Ab) (ds : List (Option Tmp)) : List (Tmp × Ab) → List Oper → Option (List (Tmp × Ab))
  | σ, [] => some σ
  | σ, o :: l => match o.guard with
    | none => match stTl C σ o with
      | some σ' => runTl C ds σ' l
      | none => none
    | some (g, b) => match (ds[g]?).join with
      | none => none
      | some tg => match lk σ tg with
        | some (.val (.bool c)) => if c == b then (match stTl C σ o with
            | some σ' => runTl C ds σ' l
            | none => none)
          else match o.dst with
            | some t => runTl C ds ((t, .val undef) :: byKey (· != t) σ) l
            | none => runTl C ds σ l
        | some x => if isUndef x then (match o.dst with
            | some t => runTl C ds ((t, .val undef) :: byKey (· != t) σ) l
            | none => runTl C ds σ l) else none
        | none => none

def tlB (z : Nat) (l : List Oper) : Bool := l.all fun o => (match o.dst with | some t => decide (t < z) | none => true) && (opTmps o).all fun t => decide (t < z)

/-- Pins of callers alone. -/
def Old (p : Nat → Option Nat) : Prop := ∀ b, p b = none ∨ p b = some 0

omit [Env] in
theorem Ext.stored {p0 p p' : Nat → Option Nat} {w0 w w' : World} {s : Tmp} (ho : Old p0) (h : Ext p0 w0 p w) (hp : ∀ b, b < w.heap.size → p b ≠ some (s + 1) → p' b = p b) (hb : But (fun b => p b = some (s + 1)) w w') : Ext p0 w0 p' w' := by
  have hold : ∀ b, b < w0.heap.size → p b ≠ some (s + 1) := fun b hb' e => by
    rw [h.pin b hb'] at e
    rcases ho b with h1 | h1 <;> rw [h1] at e <;> simp at e
  refine ⟨h.but.trans hb fun i hi _ => .inr ?_, fun b hb' => ?_⟩
  · rcases Nat.lt_or_ge i w0.heap.size with h1 | h1
    · exact absurd hi (hold i h1)
    · exact h1
  · have h1 := h.but.size
    rw [hp b (by omega) (hold b hb')]
    exact h.pin b hb'

omit [Env] in
theorem ok_new (s : Tmp) (z : Ab) (hz : isNew z = false) : okAfter s z = true := by
  cases z <;> first | rfl | (cases hz; done) | simp [okAfter, hz]

/-- A change of blocks of key s leaves what is known of other values. -/
theorem Ab.after {p p' : Nat → Option Nat} {w w' : World} {s : Tmp} (hp : ∀ b, b < w.heap.size → p b ≠ some (s + 1) → p' b = p b) (hb : But (fun b => p b = some (s + 1)) w w') : ∀ (x : Ab) (v : Value), okAfter s x = true → x.pd p w v → x.pd p' w' v := by
  have hfr : ∀ b, b < w.heap.size → p b = none → ¬ (p b = some (s + 1)) ∧ p' b = none := fun b hl h => ⟨fun e => (by rw [h] at e; cases e), (by rw [hp b hl (by rw [h]; simp), h])⟩
  have hk : KeepsIn (Fr p) (Fr p') w w' := fun k o ho hd => ⟨hb.heap (hfr k (lt_of_heap ho) hd).1 ho, (hfr k (lt_of_heap ho) hd).2⟩
  have hints : ∀ {A : Option Addr} {l : List Int}, IntsIn w (Fr p) A l → IntsIn w' (Fr p') A l := fun h j hj => by
    obtain ⟨b, o, e, hd, hc⟩ := h j hj
    exact ⟨b, o, e, (hfr b (lt_of_cell hc) hd).2, hb.cell (hfr b (lt_of_cell hc) hd).1 hc⟩
  intro x
  induction x with
  | any => intro v _ _; trivial
  | val u => intro v _ h; exact h
  | term t => intro v _ h; exact TmIn.keeps hk _ h
  | row l => intro v _ ⟨A, cap, e, h1, h2, h3, h⟩; exact ⟨A, cap, e, h1, h2, h3, ArgsIn.keeps hk h⟩
  | toks l => intro v _ ⟨A, cap, e, h1, h2, h3, h⟩; exact ⟨A, cap, e, h1, h2, h3, ArgsIn.keeps hk h⟩
  | ints l => intro v _ ⟨A, cap, e, h1, h2, h3, h⟩; exact ⟨A, cap, e, h1, h2, h3, hints h⟩
  | pair x y ihx ihy =>
    intro v hn ⟨a, b, e, h1, h2⟩
    have hn' : isNew x = false ∧ isNew y = false := by simpa [okAfter, isNew] using hn
    have ok : ∀ z : Ab, isNew z = false → okAfter s z = true := fun z hz => by
      cases z <;> first | rfl | (cases hz; done) | simp [okAfter, hz]
    exact ⟨a, b, e, ihx _ (ok _ hn'.1) h1, ihy _ (ok _ hn'.2) h2⟩
  | tup3 x y z ihx ihy ihz =>
    intro v hn ⟨a, b, c, e, h1, h2, h3⟩
    have hn' : isNew x = false ∧ isNew y = false ∧ isNew z = false := by simpa [okAfter, isNew] using hn
    exact ⟨a, b, c, e, ihx _ (ok_new s _ hn'.1) h1, ihy _ (ok_new s _ hn'.2.1) h2, ihz _ (ok_new s _ hn'.2.2) h3⟩
  | tup4 x y z u ihx ihy ihz ihu =>
    intro v hn ⟨a, b, c, d, e, h1, h2, h3, h4⟩
    have hn' : isNew x = false ∧ isNew y = false ∧ isNew z = false ∧ isNew u = false := by simpa [okAfter, isNew] using hn
    exact ⟨a, b, c, d, e, ihx _ (ok_new s _ hn'.1) h1, ihy _ (ok_new s _ hn'.2.1) h2, ihz _ (ok_new s _ hn'.2.2.1) h3, ihu _ (ok_new s _ hn'.2.2.2) h4⟩
  | tok n => intro v _ h; exact TmIn.keeps hk _ h
  | vtok n => intro v _ h; exact h
  | stok n => intro v _ h; exact h
  | itok n => intro v _ ⟨A, cap, e, h1, h2, h3, h⟩; exact ⟨A, cap, e, h1, h2, h3, hints h⟩
  | rtok n => intro v _ ⟨A, cap, e, h1, h2, h3, h⟩; exact ⟨A, cap, e, h1, h2, h3, ArgsIn.keeps hk h⟩
  | vcell r y ih =>
    intro v hn ⟨t, ht, g, A, cap, e, h1, h2, h3⟩
    simp only [okAfter, Bool.and_eq_true, bne_iff_ne, ne_eq] at hn
    obtain ⟨hr, hn⟩ := hn
    have hg : p g ≠ some (s + 1) := by rw [h1]; intro e; injection e with e; exact hr (Nat.succ.inj e)
    exact ⟨t, ht, g, A, cap, e, (hp g (lt_of_heap h2) hg).trans h1, hb.heap hg h2, ih _ hn h3⟩
  | own r n =>
    intro v hn h
    have hr : r ≠ s := by simpa [okAfter] using hn
    refine TmIn.keeps (fun k o ho hd => ?_) _ h
    have hg : p k ≠ some (s + 1) := by rw [hd.1]; intro e; injection e with e; exact hr (Nat.succ.inj e)
    exact ⟨hb.heap hg ho, (hp k (lt_of_heap ho) hg).trans hd.1, hd.2.but hb hg⟩
  | mfld r n j =>
    intro v hn ⟨g, A, cap, e, h1, h2, h3⟩
    have hr : r ≠ s := by simpa [okAfter] using hn
    have hg : p g ≠ some (s + 1) := by rw [h1]; intro e; injection e with e; exact hr (Nat.succ.inj e)
    exact ⟨g, A, cap, e, (hp g (lt_of_heap h2) hg).trans h1, hb.heap hg h2, TmIn.keeps hk _ h3⟩
  | grow r n =>
    intro v hn ⟨xs, ho, h1, hl, hr'⟩
    have hr : r ≠ s := by simpa [okAfter] using hn
    have hg : ∀ g, v.ownBlock = some g → p g ≠ some (s + 1) := fun g hgo => by rw [h1 g hgo]; intro e; injection e with e; exact hr (Nat.succ.inj e)
    exact ⟨xs, own_but ho hb hg, fun g hgo => (hp g (own_lt ho hgo) (hg g hgo)).trans (h1 g hgo), hl, fun i hi => let ⟨A0, cap0, e0, e1, e2, e3, ht⟩ := hr' i hi; ⟨A0, cap0, e0, e1, e2, e3, TmIn.keeps hk _ ht⟩⟩
  | intAt n => intro v _ ⟨b, o, e, h0, h1⟩; exact ⟨b, o, e, (hfr b (lt_of_cell h1) h0).2, hb.cell (hfr b (lt_of_cell h1) h0).1 h1⟩
  | sat n => intro v _ ⟨b, o, e, h0, h1⟩; exact ⟨b, o, e, (hfr b (lt_of_cell h1) h0).2, hb.cell (hfr b (lt_of_cell h1) h0).1 h1⟩
  | srow l => intro v _ ⟨A, cap, e, h1, h2, h⟩; exact ⟨A, cap, e, h1, h2, h.keeps hk⟩
  | iat n => intro v _ ⟨b, o, e, h0, h1⟩; exact ⟨b, o, e, (hfr b (lt_of_cell h1) h0).2, hb.cell (hfr b (lt_of_cell h1) h0).1 h1⟩
  | elm n => intro v _ ⟨b, o, A, cap, e, h0, h1, h2, h3, h4, h5⟩; exact ⟨b, o, A, cap, e, (hfr b (lt_of_cell h1) h0).2, hb.cell (hfr b (lt_of_cell h1) h0).1 h1, hb.cell (hfr b (lt_of_cell h1) h0).1 h2, hb.cell (hfr b (lt_of_cell h1) h0).1 h3, hb.cell (hfr b (lt_of_cell h1) h0).1 h4, TmIn.keeps hk _ h5⟩
  | fld n j => intro v _ ⟨b, o, A, cap, e, h0, h1, h2, h3, h4, h5⟩; exact ⟨b, o, A, cap, e, (hfr b (lt_of_cell h1) h0).2, hb.cell (hfr b (lt_of_cell h1) h0).1 h1, hb.cell (hfr b (lt_of_cell h1) h0).1 h2, hb.cell (hfr b (lt_of_cell h1) h0).1 h3, hb.cell (hfr b (lt_of_cell h1) h0).1 h4, TmIn.keeps hk _ h5⟩
  | termAt t => intro v _ ⟨b, o, A, cap, e, h0, h1, h2, h3, h4, h5⟩; exact ⟨b, o, A, cap, e, (hfr b (lt_of_cell h1) h0).2, hb.cell (hfr b (lt_of_cell h1) h0).1 h1, hb.cell (hfr b (lt_of_cell h1) h0).1 h2, hb.cell (hfr b (lt_of_cell h1) h0).1 h3, hb.cell (hfr b (lt_of_cell h1) h0).1 h4, TmIn.keeps hk _ h5⟩

section
variable {Q : Exit → Act → World → Prop}

theorem settle_facts {p p' : Nat → Option Nat} {w w' : World} {a : Act} {σ : List (Tmp × Ab)} {s t : Tmp} (hnd : nodupB (σ.map (·.1)) = true) (hf : Facts σ p w a) (hp : ∀ b, b < w.heap.size → p b ≠ some (s + 1) → p' b = p b) (hb : But (fun b => p b = some (s + 1)) w w') :
    Facts (σ.filter fun e => e.1 != t && okAfter s e.2) p' w' a := by
  intro r x hx
  have hm := lk_pair hx
  rw [List.mem_filter] at hm
  obtain ⟨hm, hq⟩ := hm
  simp only [Bool.and_eq_true] at hq
  obtain ⟨v, h1, h2⟩ := hf r x (pair_lk hnd hm)
  exact ⟨v, h1, Ab.after hp hb x v hq.2 h2⟩

theorem settle_ok {p : Nat → Option Nat} {w : World} {a : Act} {σ σ' : List (Tmp × Ab)} {s v : Tmp} {x : Ab} {u u0 : Tm} {g A cap A0 cap0 : _} (hxu : tmAny x = some u) (hf : Facts σ p w a) (hs : a.tmps[s]? = some (.pointer (some ⟨g, 0, none⟩))) (hp : p g = some (s + 1)) (hg : w.heap[g]? = some (TB u0 A0 cap0))
    (hu : x.pd p w (VT u A cap)) (h : settle s x σ = some σ') :
    Facts σ' p ((((w.setCell ⟨g, 0, none⟩ (.int .i64 u.kind)).setCell ⟨g, 1, none⟩ (.int .i64 u.num)).setCell ⟨g, 2, none⟩ (.string u.name)).setCell ⟨g, 3, none⟩ (.slice A u.args.length cap)) a := by
  unfold settle at h
  split at h
  · rename_i hnd0
    simp only [Bool.and_eq_true] at hnd0
    obtain ⟨hnd, hok⟩ := hnd0
    injection h with h
    subst h
    have hb0 := (But.refl (· = g) w).set4 (k := g) (.inl rfl) (.int .i64 u.kind) (.int .i64 u.num) (.string u.name) (.slice A u.args.length cap)
    have hb := hb0.mono (S' := fun b => p b = some (s + 1)) fun b e _ => by rw [e]; exact hp
    have hset := set4 (a' := .int .i64 u.kind) (b' := .int .i64 u.num) (c' := .string u.name) (d' := .slice A u.args.length cap) hg
    intro t x hx
    unfold lk at hx
    by_cases hst : s = t
    · subst hst
      rw [if_pos (by simp)] at hx
      injection hx with hx
      subst hx
      exact ⟨_, hs, u, hxu, g, A, cap, rfl, hp, hset, Ab.after (fun _ _ _ => rfl) hb x _ hok hu⟩
    · rw [if_neg (by simpa using hst)] at hx
      exact settle_facts hnd hf (fun _ _ _ => rfl) hb t x hx
  · cases h

theorem facts_put {p p' : Nat → Option Nat} {w w' : World} {a : Act} {σ : List (Tmp × Ab)} {t : Tmp} {x : Ab} {v : Value} {z : Nat} (hz : a.tmps.size = z) (ht : t < z) (hx : Ext p w p' w') (hf : Facts σ p w a) (hv : x.pd p' w' v) :
    Facts ((t, x) :: byKey (· != t) σ) p' w' (a.put (some t) v) := fun s y hs => by
  unfold lk at hs
  by_cases hts : t = s
  · subst hts
    rw [if_pos (by simp)] at hs
    injection hs with hs
    subst hs
    exact ⟨v, Array.getElem?_setIfInBounds_self_of_lt (by rw [hz]; exact ht), hv⟩
  · rw [if_neg (by simpa using hts)] at hs
    obtain ⟨u, h1, h2⟩ := hf s y (lk_byKey hs).2
    exact ⟨u, by rw [show (a.put (some t) v).tmps[s]? = a.tmps[s]? from Array.getElem?_setIfInBounds_ne hts]; exact h1, y.kept _ _ _ _ _ hx h2⟩

omit [Env] in
theorem GrowAt.row {s : Tmp} {ts : List Tm} {p p' : Nat → Option Nat} {w : World} {v : Value} (h : GrowAt s ts p w v) (hp : ∀ b, b < w.heap.size → p b = none ∨ p b = some (s + 1) → p' b = none) : ∃ A cap, v = .slice A ts.length cap ∧ ts.length ≤ cap ∧ ts.length ≤ 140737488351232 ∧ cap ≤ maxLen ∧ ArgsIn w (Fr p') ts A 0 := by
  obtain ⟨xs, ho, hpin, hl, hx⟩ := h
  have h2 := ho.2
  rcases h2 with ⟨rfl, h0⟩ | ⟨g, cap, cur, rfl, hg, hh, hc1, hc2, hc3, hc4⟩
  · have : ts = [] := List.eq_nil_of_length_eq_zero h0
    subst this
    exact ⟨none, 0, rfl, by simp, by simp, by unfold maxLen; omega, by unfold ArgsIn; trivial⟩
  · refine ⟨some ⟨g, 0, none⟩, cap, rfl, hc1, by omega, hc2, argsIn_iff.2 fun j hj => ?_⟩
    obtain ⟨A0, cap0, e0, e1, e2, e3, ht⟩ := hx j hj
    refine ⟨g, 0, _, _, _, _, rfl, hp g (lt_of_heap hh) (.inr (hpin g rfl)), ?_, ?_, ?_, ?_, TmIn.keeps (fun k o hk hd => ⟨hk, hp k (lt_of_heap hk) (.inl hd)⟩) _ ht⟩
    · rw [ho.cellAt _ (by omega)]; simpa using e0
    · rw [ho.cellAt _ (by omega)]; simpa using e1
    · rw [ho.cellAt _ (by omega)]; simpa using e2
    · rw [ho.cellAt _ (by omega)]; simpa using e3

omit [Env] in
/-- One more element of a row that grows. -/
theorem GrowAt.push {s : Tmp} {ts : List Tm} {t : Tm} {p p' : Nat → Option Nat} {w w' : World} {v : Value} {xs : List Value} {A0 : Option Addr} {cap0 g cap : Nat}
    (hown : w.ownsRow 0 24 4 v ts.length xs) (hpin : ∀ g, v.ownBlock = some g → p g = some (s + 1)) (hr : ∀ i (h : i < ts.length), ∃ A0 cap0, xs[i * 4]? = some (.int .i64 ts[i].kind) ∧ xs[i * 4 + 1]? = some (.int .i64 ts[i].num) ∧
      xs[i * 4 + 2]? = some (.string ts[i].name) ∧ xs[i * 4 + 3]? = some (.slice A0 ts[i].args.length cap0) ∧ TmIn w (Fr p) ts[i] (.agg #[.int .i64 ts[i].kind, .int .i64 ts[i].num, .string ts[i].name, .slice A0 ts[i].args.length cap0]))
    (ht : TmIn w (Fr p) t (VT t A0 cap0)) (hlen : ts.length + 1 ≤ 1000000)
    (ho' : w'.ownsRow 0 24 4 (.slice (some ⟨g, 0, none⟩) (ts.length + 1) cap) (ts.length + 1) (xs ++ C4 t A0 cap0)) (hg : w.grownBy w' v.ownBlock)
    (hp : ∀ b, b < w.heap.size → p b = none → p' b = none) (hpg : p' g = some (s + 1)) : GrowAt s (ts ++ [t]) p' w' (.slice (some ⟨g, 0, none⟩) (ts.length + 1) cap) := by
  have hl : xs.length = ts.length * 4 := hown.1
  have hk : KeepsIn (Fr p) (Fr p') w w' := fun k o ho hd => ⟨(hg.block k (lt_of_heap ho) (fun e => by have := hpin k e.symm; rw [show p k = none from hd] at this; cases this)).trans ho, hp k (lt_of_heap ho) hd⟩
  refine ⟨xs ++ C4 t A0 cap0, by simpa using ho', fun g' e => ?_, by simpa using hlen, fun i hi => ?_⟩
  · have : g = g' := by simpa [Value.ownBlock] using e
    rw [← this]; exact hpg
  · by_cases hlt : i < ts.length
    · obtain ⟨A1, cap1, e0, e1, e2, e3, h4⟩ := hr i hlt
      have hti : (ts ++ [t])[i] = ts[i] := List.getElem_append_left hlt
      rw [hti]
      refine ⟨A1, cap1, ?_, ?_, ?_, ?_, TmIn.keeps hk _ h4⟩
      · rw [List.getElem?_append_left (by omega)]; exact e0
      · rw [List.getElem?_append_left (by omega)]; exact e1
      · rw [List.getElem?_append_left (by omega)]; exact e2
      · rw [List.getElem?_append_left (by omega)]; exact e3
    · obtain rfl : i = ts.length := by simp at hi; omega
      have hti : (ts ++ [t])[ts.length] = t := by simp
      rw [hti]
      refine ⟨A0, cap0, ?_, ?_, ?_, ?_, TmIn.keeps hk _ ht⟩
      · rw [List.getElem?_append_right (by omega), hl]; simp
      · rw [List.getElem?_append_right (by omega), hl]; simp
      · rw [List.getElem?_append_right (by omega), hl]; simp
      · rw [List.getElem?_append_right (by omega), hl]; simp

theorem push_key {t s : Tmp} {x : Ab} {n : Option Nat} (h : keyOf t x = some (s, n)) {p : Nat → Option Nat} {w : World} {v : Value} (hv : x.pd p w v) : GrowAt s (baseRow Env.R n) p w v := by
  unfold keyOf at h
  split at h
  · simp only [Option.some.injEq, Prod.mk.injEq] at h
    obtain ⟨rfl, rfl⟩ := h
    exact hv
  · simp only [Option.some.injEq, Prod.mk.injEq] at h
    obtain ⟨rfl, rfl⟩ := h
    obtain rfl : v = .slice none 0 0 := hv
    refine ⟨[], World.ownsRow_nil _ _ _ _, ?_, ?_, ?_⟩
    · intro g hg; cases hg
    · simp [baseRow]
    · intro i hi; simp [baseRow] at hi
  · cases h

set_option maxHeartbeats 1000000 in
theorem app_tail {p0 : Nat → Option Nat} {w0 : World} {d : List Deferred} {z : Nat} (ho : Old p0) {o : Oper} {K : Act → World → Prop} {σ σ' : List (Tmp × Ab)} {p : Nat → Option Nat} {w : World} {ac : Act} {a b t : Tmp} (happ : appOf o = some (a, b, t)) (h : appTl σ a b t = some σ')
    (htz : t < z) (hx : Ext p0 w0 p w) (hd : ac.defers = d) (hz : ac.tmps.size = z) (hf : Facts σ p w ac)
    (hk : ∀ p' w' a', Ext p0 w0 p' w' → a'.defers = d → a'.tmps.size = z → Facts σ' p' w' a' → K a' w') : o.wp Try.prog ac w K Q := by
  obtain ⟨i0, hi0, hz0, hz1, hz2⟩ := info_parts Try.infoTerm
  obtain ⟨hop, hdst⟩ : o.op = .call { callee := .builtin .append, args := #[.tmp a, .tmp b], argTypes := #[22, 22] } ∧ o.dst = some t := by
    unfold appOf at happ
    split at happ
    · rename_i c t' hc ht'
      split at happ
      · rename_i a' b' t1 t2 h1 h2 h3
        split at happ
        · rename_i hok
          simp only [Bool.and_eq_true, isTerms, beq_iff_eq] at hok
          simp only [Option.some.injEq, Prod.mk.injEq] at happ
          obtain ⟨rfl, rfl, rfl⟩ := happ
          obtain ⟨callee, ⟨args⟩, ⟨tys⟩⟩ := c
          obtain rfl : callee = _ := h1
          obtain rfl : args = _ := h2
          obtain rfl : tys = _ := h3
          rw [hok.1, hok.2] at hc
          exact ⟨hc, ht'⟩
        · cases happ
      · cases happ
    · cases happ
  unfold appTl at h
  split at h
  · rename_i x k hxa hxb
    split at h
    · rename_i s n hkey
      split at h
      · rename_i m fin hpush
        split at h
        · rename_i hnd
          injection h with h
          subst h
          obtain ⟨va, ha1, ha2⟩ := hf _ _ hxa
          obtain ⟨vb, hb1, hb2⟩ := hf _ _ hxb
          obtain ⟨hR, hRl⟩ : Env.R m = baseRow Env.R n ++ [Env.T k] ∧ (Env.R m).length ≤ 1000000 := by
            unfold pushOf at hpush
            obtain ⟨g, hg, hgx⟩ := env_find hpush
            split at hgx
            · split at hgx
              · rename_i hok
                simp only [Bool.and_eq_true, beq_iff_eq] at hok
                injection hgx with hgx
                simp only [Prod.mk.injEq] at hgx
                obtain ⟨h1, h2⟩ := hok
                rw [← h1, ← h2, ← hgx.1]
                exact hg
              · cases hgx
            · cases hgx
          have hgrow := push_key hkey ha2
          obtain ⟨xs, hown, hpin, hl, hr⟩ := hgrow
          obtain ⟨A, cap, hvb, -, -, -, hargs⟩ := hb2
          simp only [List.map_cons, List.map_nil, ArgsIn] at hargs
          obtain ⟨hel, -⟩ := hargs
          have hel' : ArgIn w (Fr p) (Env.T k) A 0 := hel
          obtain ⟨bb, oo, A0, cap0, rfl, hbb, c0, c1, c2, c3, ht⟩ := hel'.form
          simp only [Nat.zero_mul, Nat.add_zero] at c0 c1 c2 c3
          have e1 : ac.eval (.tmp a) = va := by show ac.tmps.getD a undef = _; rw [Array.getD_eq_getD_getElem?, ha1]; rfl
          have e2 : ac.eval (.tmp b) = .slice (some ⟨bb, oo, none⟩) 1 cap := by
            show ac.tmps.getD b undef = _
            rw [Array.getD_eq_getD_getElem?, hb1, hvb]; rfl
          have hlen1 : (baseRow Env.R n).length + 1 ≤ 1000000 := by rw [hR] at hRl; simpa using hRl
          refine wp_append_lies w (.tmp a) (.tmp b) 22 hop 0 24 i0 _ 4 56 Try.underlying22 hi0 hz0 hz1 hz2 rfl (by omega) va _ xs e1 hown ⟨bb, oo, none⟩ 1 cap (C4 (Env.T k) A0 cap0) e2 rfl ?_ (by simp [Value.oneCell']) (by omega) (by unfold maxLen; omega) (by omega) (by omega) w.heap.size rfl ?_
          · intro j u hu
            have hadd : (⟨bb, oo, none⟩ : Addr).add j = ⟨bb, oo + j, none⟩ := by unfold Addr.add; split <;> simp_all
            rw [hadd]
            match j, hu with
            | 0, hu => simp only [List.getElem?_cons_zero, Option.some.injEq] at hu; subst hu; exact c0
            | 1, hu => simp only [List.getElem?_cons_succ, List.getElem?_cons_zero, Option.some.injEq] at hu; subst hu; exact c1
            | 2, hu => simp only [List.getElem?_cons_succ, List.getElem?_cons_zero, Option.some.injEq] at hu; subst hu; exact c2
            | 3, hu => simp only [List.getElem?_cons_succ, List.getElem?_cons_zero, Option.some.injEq] at hu; subst hu; exact c3
            | j + 4, hu => simp at hu
          · intro g cap' w' hown' hgrown hat hlt
            have hbut : But (fun b => p b = some (s + 1)) w w' := (But.refl _ _).grown hgrown fun k hk => .inl (hpin k hk)
            have hq : ∀ fin : Bool, ∃ p', (∀ b, b < w.heap.size → p b ≠ some (s + 1) → p' b = p b) ∧ (if fin then Ab.rtok m else .grow s m).pd p' w' (.slice (some ⟨g, 0, none⟩) ((baseRow Env.R n).length + 1) cap') := by
              intro fin
              have hG : ∃ p1 : Nat → Option Nat, (∀ b, b < w.heap.size → p1 b = p b) ∧ (∀ b, w.heap.size ≤ b → p1 b = some (s + 1)) ∧ GrowAt s (baseRow Env.R n ++ [Env.T k]) p1 w' (.slice (some ⟨g, 0, none⟩) ((baseRow Env.R n).length + 1) cap') := by
                refine ⟨fun b => if b < w.heap.size then p b else some (s + 1), fun b hb => if_pos hb, fun b hb => if_neg (by omega), ?_⟩
                refine GrowAt.push hown hpin hr ht hlen1 hown' hgrown (fun b hb h => by rw [if_pos hb]; exact h) ?_
                rcases hat with h | h
                · by_cases hgl : g < w.heap.size
                  · rw [if_pos hgl]; exact hpin g h
                  · rw [if_neg hgl]
                · rw [if_neg (by omega)]
              obtain ⟨p1, h1, h2, hG⟩ := hG
              cases fin with
              | false =>
                refine ⟨p1, fun b hb _ => h1 b hb, ?_⟩
                show GrowAt s (Env.R m) p1 w' _
                rw [hR]; exact hG
              | true =>
                refine ⟨fun b => if p1 b = some (s + 1) then none else p1 b, fun b hb hne => by show (if p1 b = some (s + 1) then none else p1 b) = p b; rw [h1 b hb, if_neg hne], ?_⟩
                have := hG.row (p' := fun b => if p1 b = some (s + 1) then none else p1 b) fun b hb h => by
                  rcases h with h | h
                  · simp [h]
                  · simp [h]
                show ∃ A cap, _
                rw [hR]
                exact this
            obtain ⟨p', hp', hres⟩ := hq fin
            rw [hdst]
            refine hk p' w' _ (hx.stored ho hp' hbut) hd (by simp only [Act.put, Array.size_setIfInBounds]; exact hz) fun r y hy => ?_
            unfold lk at hy
            by_cases htr : t = r
            · subst htr
              rw [if_pos (by simp)] at hy
              injection hy with hy
              subst hy
              exact ⟨_, Array.getElem?_setIfInBounds_self_of_lt (by rw [hz]; exact htz), hres⟩
            · rw [if_neg (by simpa using htr)] at hy
              obtain ⟨u, h1, h2⟩ := settle_facts (t := t) hnd hf hp' hbut r y hy
              exact ⟨u, by rw [show (ac.put (some t) _).tmps[r]? = ac.tmps[r]? from Array.getElem?_setIfInBounds_ne htr]; exact h1, h2⟩
        · cases h
      · cases h
    · cases h
  · cases h

theorem step_tail {C : FuncId → List Ab → Option Ab} (hC : CallsOk C) {p0 : Nat → Option Nat} {w0 : World} {d : List Deferred} {z : Nat} (ho : Old p0) {o : Oper} {K : Act → World → Prop} {σ σ' : List (Tmp × Ab)} {p : Nat → Option Nat} {w : World} {a : Act} (h : stTl C σ o = some σ')
    (hall : tlB z [o] = true) (hx : Ext p0 w0 p w) (hd : a.defers = d) (hz : a.tmps.size = z) (hf : Facts σ p w a)
    (hk : ∀ p' w' a', Ext p0 w0 p' w' → a'.defers = d → a'.tmps.size = z → Facts σ' p' w' a' → K a' w') : o.wp Try.prog a w K Q := by
  simp only [tlB, List.all_cons, List.all_nil, Bool.and_true, Bool.and_eq_true] at hall
  unfold stTl at h
  split at h
  · rename_i ty s v hop
    split at h
    · rename_i r u0 u hs hv
      split at h
      · rename_i hok
        simp only [Bool.and_eq_true, isTerm, beq_iff_eq, bne_iff_ne, ne_eq, Option.isNone_iff_eq_none] at hok
        obtain ⟨⟨⟨⟨rfl, rfl⟩, hne⟩, hdst⟩, htm⟩ := hok
        obtain ⟨ut, hut⟩ := isTm_of htm
        obtain ⟨vs, hs1, ut0, hut0, g, A0, cap0, rfl, hp, hblk, -⟩ := hf _ _ hs
        obtain ⟨vv, hv1, hv2⟩ := hf _ _ hv
        have hv2' := hv2
        obtain ⟨A, cap, rfl⟩ := any_form hut hv2'
        have e1 : a.eval (.tmp r) = .pointer (some ⟨g, 0, none⟩) := by show a.tmps.getD r undef = _; rw [Array.getD_eq_getD_getElem?, hs1]; rfl
        have e2 : a.eval (.tmp v) = VT ut A cap := by show a.tmps.getD v undef = _; rw [Array.getD_eq_getD_getElem?, hv1]; rfl
        obtain ⟨c0, c1, c2, c3⟩ := blk4 hblk
        have f0 := frz hblk
        have hrun : (execOp a.eval o).run Try.prog w = .ok .skip ((((w.setCell ⟨g, 0, none⟩ (.int .i64 ut.kind)).setCell ⟨g, 1, none⟩ (.int .i64 ut.num)).setCell ⟨g, 2, none⟩ (.string ut.name)).setCell ⟨g, 3, none⟩ (.slice A ut.args.length cap)) := by
          generalize a.eval = ev0 at *
          simp [execOp, hop, e1, e2, go_sem, c0, c1, c2, c3, f0]
        unfold Oper.wp
        rw [hrun]
        show K (a.put o.dst undef) _
        rw [hdst]
        exact hk _ _ _ (hx.stored (s := r) ho (fun _ _ _ => rfl) (((But.refl (· = g) w).set4 (k := g) (.inl rfl) _ _ _ _).mono fun b e _ => by rw [e]; exact hp)) hd hz (settle_ok (v := v) hut hf hs1 hp hblk hv2' h)
      · cases h
    · cases h
  · split at h
    · rename_i a' b' t' happ
      have htz : t' < z := by
        have := hall.1
        have hdst : o.dst = some t' := by
          unfold appOf at happ
          split at happ
          · rename_i c t'' hc ht''
            split at happ
            · split at happ
              · simp only [Option.some.injEq, Prod.mk.injEq] at happ
                rw [ht'', happ.2.2]
              · cases happ
            · cases happ
          · cases happ
        rw [hdst] at this
        simpa using this
      exact app_tail ho happ h htz hx hd hz hf hk
    split at h
    · cases h
    · rename_i t hdst
      split at h
      · cases h
      · rename_i x hx1
        injection h with h
        subst h
        have hrd := absOp_ok (Q := Q) (F := FF σ) hC (fun s y hs => FF.at hs) hx1 a p w (fun s hs => by
          have h1 := List.all_eq_true.1 hall.2 s hs
          have hsz : s < a.tmps.size := by rw [hz]; simpa using h1
          refine ⟨a.tmps[s], Array.getElem?_eq_getElem hsz, ?_⟩
          cases hl : lk σ s with
          | none => unfold FF; rw [hl]; trivial
          | some y =>
            obtain ⟨v, h2, h3⟩ := hf s y hl
            rw [Array.getElem?_eq_getElem hsz] at h2
            injection h2 with h2
            rw [FF.at hl, h2]
            exact h3)
        refine Oper.wp_mono ?_ hrd
        rintro a' w' ⟨v, p', rfl, hx', hv⟩
        have htz : t < z := by have := hall.1; rw [hdst] at this; simpa using this
        rw [hdst]
        exact hk _ _ _ (hx.trans hx') hd (by simp only [Act.put, Array.size_setIfInBounds]; exact hz) (facts_put hz htz hx' hf hv)

theorem wpList_tail {C : FuncId → List Ab → Option Ab} (hC : CallsOk C) {ops : Array Oper} {ds : List (Option Tmp)} (hds : ops.toList.map (·.dst) = ds) {p0 : Nat → Option Nat} {w0 : World} {d : List Deferred} {z : Nat} (ho : Old p0) : ∀ {l : List Oper} {σ σ' : List (Tmp × Ab)} {p : Nat → Option Nat} {w : World} {a : Act}, runTl C ds σ l = some σ' →
    tlB z l = true → Ext p0 w0 p w → a.defers = d → a.tmps.size = z → Facts σ p w a →
    (∀ p' w' a', Ext p0 w0 p' w' → a'.defers = d → a'.tmps.size = z → Facts σ' p' w' a' → Q .normal a' w') → wpList Try.prog ops Q l a w
  | [], σ, σ', p, w, a, h, _, hx, hd, hz, hf, hk => by
    simp only [runTl, Option.some.injEq] at h
    subst h
    exact hk p w a hx hd hz hf
  | o :: l, σ, σ', p, w, a, h, hall, hx, hd, hz, hf, hk => by
    have hall0 : tlB z [o] = true ∧ tlB z l = true := by
      simp only [tlB, List.all_cons, List.all_nil, Bool.and_true, Bool.and_eq_true] at hall ⊢
      exact hall
    unfold runTl at h
    unfold wpList
    cases hg : o.guard with
    | none =>
      rw [hg] at h
      simp only at h
      rw [if_pos (by unfold Region.wanted; simp only [hg])]
      refine .inl ?_
      split at h
      · rename_i σ1 h1
        exact step_tail hC ho h1 hall0.1 hx hd hz hf fun p' w' a' hx' hd' hz' hf' => wpList_tail hC hds ho h hall0.2 hx' hd' hz' hf' hk
      · cases h
    | some gb =>
      obtain ⟨g, b⟩ := gb
      rw [hg] at h
      simp only at h
      split at h
      · cases h
      · rename_i tg htg
        split at h
        · rename_i c hc
          obtain ⟨v, hv1, hv2⟩ := hf tg _ hc
          obtain rfl : v = .bool c := hv2
          have hy : yielded ops a.tmps g = some c := by
            unfold yielded
            rw [← hds, List.getElem?_map, Array.getElem?_toList] at htg
            cases hog : ops[g]? with
            | none => rw [hog] at htg; cases htg
            | some og =>
              rw [hog] at htg
              simp only [Option.map_some, Option.join_some] at htg
              simp [htg, hv1]
          split at h
          · rename_i hcb
            have hcb' : c = b := by simpa using hcb
            rw [if_pos (by unfold Region.wanted; simp only [hg, hy, hcb']; simp)]
            refine .inl ?_
            split at h
            · rename_i σ1 h1
              exact step_tail hC ho h1 hall0.1 hx hd hz hf fun p' w' a' hx' hd' hz' hf' => wpList_tail hC hds ho h hall0.2 hx' hd' hz' hf' hk
            · cases h
          · rename_i hcb
            rw [if_neg (by unfold Region.wanted; simp only [hg, hy]; simpa using hcb)]
            split at h
            · rename_i t hdst
              have htz : t < z := by have := hall0.1; simp only [tlB, List.all_cons, List.all_nil, Bool.and_true, Bool.and_eq_true, hdst, decide_eq_true_eq] at this; exact this.1
              rw [hdst]
              exact wpList_tail hC hds ho h hall0.2 hx hd (by simp only [Act.put, Array.size_setIfInBounds]; exact hz) (facts_put (x := .val undef) hz htz (Ext.refl _ _) hf rfl) hk
            · rename_i hdst
              rw [hdst]
              exact wpList_tail hC hds ho h hall0.2 hx hd hz hf hk
        · rename_i x0 _ hx0
          split at h
          · rename_i hun
            obtain rfl := isUndef_ok hun
            obtain ⟨v, hv1, hv2⟩ := hf tg _ hx0
            obtain rfl : v = undef := hv2
            have hy : yielded ops a.tmps g = none := by
              unfold yielded
              rw [← hds, List.getElem?_map, Array.getElem?_toList] at htg
              cases hog : ops[g]? with
              | none => rw [hog] at htg; cases htg
              | some og =>
                rw [hog] at htg
                simp only [Option.map_some, Option.join_some] at htg
                simp [htg, hv1, undef]
            rw [if_neg (by unfold Region.wanted; simp only [hg, hy]; simp)]
            split at h
            · rename_i t hdst
              have htz : t < z := by have := hall0.1; simp only [tlB, List.all_cons, List.all_nil, Bool.and_true, Bool.and_eq_true, hdst, decide_eq_true_eq] at this; exact this.1
              rw [hdst]
              exact wpList_tail hC hds ho h hall0.2 hx hd (by simp only [Act.put, Array.size_setIfInBounds]; exact hz) (facts_put (x := .val undef) hz htz (Ext.refl _ _) hf rfl) hk
            · rename_i hdst
              rw [hdst]
              exact wpList_tail hC hds ho h hall0.2 hx hd hz hf hk
          · cases h
        · cases h
/-- One operation of a region, wherever it stands. -/
theorem one_tail {C : FuncId → List Ab → Option Ab} (hC : CallsOk C) {ops : Array Oper} {ds : List (Option Tmp)} (hds : ops.toList.map (·.dst) = ds) {p0 : Nat → Option Nat} {w0 : World} {d : List Deferred} {z : Nat} (ho : Old p0) {o : Oper} {K : Act → World → Prop} {σ σ' : List (Tmp × Ab)} {p : Nat → Option Nat} {w : World} {a : Act} (h : runTl C ds σ [o] = some σ')
    (hall : tlB z [o] = true) (hx : Ext p0 w0 p w) (hd : a.defers = d) (hz : a.tmps.size = z) (hf : Facts σ p w a)
    (hk : ∀ p' w' a', Ext p0 w0 p' w' → a'.defers = d → a'.tmps.size = z → Facts σ' p' w' a' → K a' w') : if Region.wanted o (yielded ops a.tmps) then o.wp Try.prog a w K Q ∨ (o.asks Try.prog a w ∧ LetsOut Q) else K (a.put o.dst undef) w := by
  unfold runTl at h
  cases hg : o.guard with
  | none =>
    rw [hg] at h
    simp only at h
    rw [if_pos (by unfold Region.wanted; simp only [hg])]
    refine .inl ?_
    split at h
    · rename_i σ1 h1
      simp only [runTl, Option.some.injEq] at h
      subst h
      exact step_tail hC ho h1 hall hx hd hz hf hk
    · cases h
  | some gb =>
    obtain ⟨g, b⟩ := gb
    rw [hg] at h
    simp only at h
    split at h
    · cases h
    · rename_i tg htg
      split at h
      · rename_i c hc
        obtain ⟨v, hv1, hv2⟩ := hf tg _ hc
        obtain rfl : v = .bool c := hv2
        have hy : yielded ops a.tmps g = some c := by
          unfold yielded
          rw [← hds, List.getElem?_map, Array.getElem?_toList] at htg
          cases hog : ops[g]? with
          | none => rw [hog] at htg; cases htg
          | some og =>
            rw [hog] at htg
            simp only [Option.map_some, Option.join_some] at htg
            simp [htg, hv1]
        split at h
        · rename_i hcb
          have hcb' : c = b := by simpa using hcb
          rw [if_pos (by unfold Region.wanted; simp only [hg, hy, hcb']; simp)]
          refine .inl ?_
          split at h
          · rename_i σ1 h1
            simp only [runTl, Option.some.injEq] at h
            subst h
            exact step_tail hC ho h1 hall hx hd hz hf hk
          · cases h
        · rename_i hcb
          rw [if_neg (by unfold Region.wanted; simp only [hg, hy]; simpa using hcb)]
          split at h
          · rename_i t hdst
            have htz : t < z := by have := hall; simp only [tlB, List.all_cons, List.all_nil, Bool.and_true, Bool.and_eq_true, hdst, decide_eq_true_eq] at this; exact this.1
            rw [hdst]
            simp only [runTl, Option.some.injEq] at h
            subst h
            exact hk _ _ _ hx hd (by simp only [Act.put, Array.size_setIfInBounds]; exact hz) (facts_put (x := .val undef) hz htz (Ext.refl _ _) hf rfl)
          · rename_i hdst
            rw [hdst]
            simp only [runTl, Option.some.injEq] at h
            subst h
            exact hk _ _ _ hx hd hz hf
      · rename_i x0 _ hx0
        split at h
        · rename_i hun
          obtain rfl := isUndef_ok hun
          obtain ⟨v, hv1, hv2⟩ := hf tg _ hx0
          obtain rfl : v = undef := hv2
          have hy : yielded ops a.tmps g = none := by
            unfold yielded
            rw [← hds, List.getElem?_map, Array.getElem?_toList] at htg
            cases hog : ops[g]? with
            | none => rw [hog] at htg; cases htg
            | some og =>
              rw [hog] at htg
              simp only [Option.map_some, Option.join_some] at htg
              simp [htg, hv1, undef]
          rw [if_neg (by unfold Region.wanted; simp only [hg, hy]; simp)]
          split at h
          · rename_i t hdst
            have htz : t < z := by have := hall; simp only [tlB, List.all_cons, List.all_nil, Bool.and_true, Bool.and_eq_true, hdst, decide_eq_true_eq] at this; exact this.1
            rw [hdst]
            simp only [runTl, Option.some.injEq] at h
            subst h
            exact hk _ _ _ hx hd (by simp only [Act.put, Array.size_setIfInBounds]; exact hz) (facts_put (x := .val undef) hz htz (Ext.refl _ _) hf rfl)
          · rename_i hdst
            rw [hdst]
            simp only [runTl, Option.some.injEq] at h
            subst h
            exact hk _ _ _ hx hd hz hf
        · cases h
      · cases h

end

end Go.Proofs.Ytloekfnlidclcaa

namespace Go.Proofs.Ytloekfnlidclcaa
open Go.RowKit
set_option linter.unusedVariables false

def srsB : List SR → List SR → Bool
  | [], [] => true
  | a :: l, b :: m => SR.beq a b && srsB l m
  | _, _ => false

theorem srsB_ok : ∀ {l m : List SR}, srsB l m = true → l = m
  | [], [], _ => rfl
  | a :: l, b :: m, h => by
    simp only [srsB, Bool.and_eq_true] at h
    rw [SR.beq_ok h.1, srsB_ok h.2]
  | [], _ :: _, h => by cases h
  | _ :: _, [], h => by cases h

def Ab.beq : Ab → Ab → Bool
  | .srow l, .srow m => srsB l m
  | .toks a, .toks b => a == b
  | .val (.bool a), .val (.bool b) => a == b
  | .elm a, .elm b => a == b
  | .fld a j, .fld b k => a == b && j == k
  | .iat a, .iat b => a == b
  | .tok a, .tok b => a == b
  | .vtok a, .vtok b => a == b
  | .stok a, .stok b => a == b
  | .itok a, .itok b => a == b
  | .rtok a, .rtok b => a == b
  | .term a, .term b => eqT a b
  | .own a n, .own b m => a == b && n == m
  | .val (.slice none 0 0), .val (.slice none 0 0) => true
  | .val (.int .i64 a), .val (.int .i64 b) => a == b
  | .val (.string a), .val (.string b) => decide (a = b)
  | _, _ => false

theorem Ab.beq_ok {x y : Ab} (h : Ab.beq x y = true) : x = y := by
  unfold Ab.beq at h
  split at h
  · rw [srsB_ok h]
  · simp only [beq_iff_eq] at h; rw [h]
  · simp only [beq_iff_eq] at h; rw [h]
  · simp only [beq_iff_eq] at h; rw [h]
  · simp only [Bool.and_eq_true, beq_iff_eq] at h; rw [h.1, h.2]
  · simp only [beq_iff_eq] at h; rw [h]
  · simp only [beq_iff_eq] at h; rw [h]
  · simp only [beq_iff_eq] at h; rw [h]
  · simp only [beq_iff_eq] at h; rw [h]
  · simp only [beq_iff_eq] at h; rw [h]
  · simp only [beq_iff_eq] at h; rw [h]
  · rw [eqT_eq _ h]
  · simp only [Bool.and_eq_true, beq_iff_eq] at h; rw [h.1, h.2]
  · rfl
  · simp only [beq_iff_eq] at h; rw [h]
  · simp only [decide_eq_true_eq] at h; rw [h]
  · cases h

def isZ : Tm → Bool
  | .mk k n s [] => k == 0 && n == 0 && decide (s = ⟨#[]⟩)
  | _ => false

theorem isZ_ok {t : Tm} (h : isZ t = true) : t = zeroT := by
  unfold isZ at h
  split at h
  · simp only [Bool.and_eq_true, beq_iff_eq, decide_eq_true_eq] at h
    obtain ⟨⟨rfl, rfl⟩, rfl⟩ := h
    rfl
  · cases h

def Ab.same : Ab → Ab → Bool
  | .term a, .term b => isZ a && isZ b
  | .vcell s (.term a), .vcell s' (.term b) => s == s' && (isZ a && isZ b)
  | .vcell s x, .vcell s' y => s == s' && Ab.beq x y
  | .any, .any => true
  | .grow a m, .grow b n => a == b && m == n
  | .pair a b, .pair c d => Ab.beq a c && Ab.beq b d
  | .tup3 a b c, .tup3 d e f => Ab.beq a d && (Ab.beq b e && Ab.beq c f)
  | .tup4 a b c g, .tup4 d e f h => Ab.beq a d && (Ab.beq b e && (Ab.beq c f && Ab.beq g h))
  | .mfld a n j, .mfld b m k => a == b && (n == m && j == k)
  | x, y => Ab.beq x y

theorem Ab.same_ok {x y : Ab} (h : Ab.same x y = true) : x = y := by
  unfold Ab.same at h
  split at h
  · simp only [Bool.and_eq_true] at h
    rw [isZ_ok h.1, isZ_ok h.2]
  · simp only [Bool.and_eq_true, beq_iff_eq] at h
    rw [h.1, isZ_ok h.2.1, isZ_ok h.2.2]
  · simp only [Bool.and_eq_true, beq_iff_eq] at h
    rw [h.1, Ab.beq_ok h.2]
  · rfl
  · simp only [Bool.and_eq_true, beq_iff_eq] at h; rw [h.1, h.2]
  · simp only [Bool.and_eq_true] at h
    rw [Ab.beq_ok h.1, Ab.beq_ok h.2]
  · simp only [Bool.and_eq_true] at h
    rw [Ab.beq_ok h.1, Ab.beq_ok h.2.1, Ab.beq_ok h.2.2]
  · simp only [Bool.and_eq_true] at h
    rw [Ab.beq_ok h.1, Ab.beq_ok h.2.1, Ab.beq_ok h.2.2.1, Ab.beq_ok h.2.2.2]
  · simp only [Bool.and_eq_true, beq_iff_eq] at h
    rw [h.1, h.2.1, h.2.2]
  · exact Ab.beq_ok h

def wants (σ : List (Tmp × Ab)) : List (Tmp × Ab) → Bool
  | [] => true
  | (t, x) :: l => (match lk σ t with
    | some y => Ab.same y x
    | none => false) && wants σ l

theorem wants_ok {σ : List (Tmp × Ab)} : ∀ {l : List (Tmp × Ab)}, wants σ l = true → ∀ t x, lk l t = some x → lk σ t = some x
  | [], _, t, x, h => by cases h
  | (s, y) :: l, hw, t, x, h => by
    simp only [wants, Bool.and_eq_true] at hw
    unfold lk at h
    split at h
    · rename_i hst
      simp only [beq_iff_eq] at hst
      subst hst
      injection h with h
      subst h
      have h1 := hw.1
      split at h1
      · rename_i z hz
        rw [hz, Ab.same_ok h1]
      · cases h1
    · exact wants_ok hw.2 t x h

theorem mixed_ok : Try.prog.follows .mixedOrders = true := by kernel_rfl

/-- The sets of operations that may be done after one more step, with what is then known. -/
def nextLv [Env] (C : FuncId → List Ab → Option Ab) (ds : List (Option Tmp)) (ops : Array Oper) (lv : List (Array Bool × List (Tmp × Ab))) : List (Array Bool × List (Tmp × Ab)) :=
  lv.foldl (fun acc e => (Region.ready .any ops e.1).foldl (fun acc i => if acc.any (fun e' => decide (e'.1 = e.1.setIfInBounds i true)) then acc else match ops[i]? with
    | some o => (match runTl C ds e.2 [o] with
      | some σ' => (e.1.setIfInBounds i true, σ'.filter fun x => Ab.same x.2 x.2) :: acc
      | none => acc)
    | none => acc) acc) []

def lvls [Env] (C : FuncId → List Ab → Option Ab) (ds : List (Option Tmp)) (ops : Array Oper) : Nat → List (Array Bool × List (Tmp × Ab)) → List (List (Array Bool × List (Tmp × Ab)))
  | 0, lv => [lv]
  | n + 1, lv => lv :: lvls C ds ops n (nextLv C ds ops lv)

/-- Every set with every next operation leads to a set of the next level, with what is known there. -/
def okLv [Env] (C : FuncId → List Ab → Option Ab) (ds : List (Option Tmp)) (ops : Array Oper) (l : List (Tmp × Ab)) : List (List (Array Bool × List (Tmp × Ab))) → Bool
  | [] => false
  | [lv] => lv.all fun e => (Region.ready .any ops e.1).isEmpty && wants e.2 l
  | lv :: lv' :: r => (lv.all fun e => !(Region.ready .any ops e.1).isEmpty && (Region.ready .any ops e.1).all fun i => match ops[i]? with
      | some o => (match runTl C ds e.2 [o] with
        | some σ' => lv'.any fun e' => decide (e'.1 = e.1.setIfInBounds i true) && wants σ' e'.2
        | none => false)
      | none => false) && okLv C ds ops l (lv' :: r)

/-- A region in every order. -/
def anyOk [Env] (C : FuncId → List Ab → Option Ab) (ds : List (Option Tmp)) (ops : Array Oper) (l : List (Tmp × Ab)) (n : Nat) (listed : Array Bool) (σ : List (Tmp × Ab)) : Bool :=
  okLv C ds ops l (lvls C ds ops n [(listed, σ)])

theorem lv_ok [Env] {C : FuncId → List Ab → Option Ab} (hC : CallsOk C) {ops : Array Oper} {l : List (Tmp × Ab)} {z : Nat} {w0 : World} {p0 : Nat → Option Nat} {d : List Deferred} (ho : Old p0) (hall : ops.toList.all (fun o => tlB z [o]) = true) {Q : Exit → Act → World → Prop}
    (hk : ∀ p' w' a', Ext p0 w0 p' w' → a'.defers = d → a'.tmps.size = z → Facts l p' w' a' → Q .normal a' w') : ∀ (L : List (List (Array Bool × List (Tmp × Ab)))) (n : Nat), L.length = n + 1 → okLv C (ops.toList.map (·.dst)) ops l L = true →
    ∀ lv, L.head? = some lv → ∀ e ∈ lv, ∀ (p : Nat → Option Nat) (w : World) (a : Act), Ext p0 w0 p w → a.defers = d → a.tmps.size = z → Facts e.2 p w a → wpAny Try.prog .any ops Q n e.1 a w
  | [], n, hn, h => by cases h
  | [lv], n, hn, h => fun lv0 hlv e he p w a hx hd hz hf => by
    obtain rfl : n = 0 := by simpa using hn.symm
    simp only [List.head?_cons, Option.some.injEq] at hlv
    subst hlv
    have h1 := List.all_eq_true.1 (show (lv.all fun e => (Region.ready .any ops e.1).isEmpty && wants e.2 l) = true from h) e he
    simp only [Bool.and_eq_true, List.isEmpty_iff] at h1
    exact ⟨h1.1, hk p w a hx hd hz fun t x ht => hf t x (wants_ok h1.2 t x ht)⟩
  | lv :: lv' :: r, n, hn, h => fun lv0 hlv e he p w a hx hd hz hf => by
    obtain ⟨m, rfl⟩ : ∃ m, n = m + 1 := ⟨r.length, by simp at hn; omega⟩
    simp only [List.head?_cons, Option.some.injEq] at hlv
    subst hlv
    unfold okLv at h
    simp only [Bool.and_eq_true] at h
    obtain ⟨h1, h2⟩ := h
    have h3 := List.all_eq_true.1 h1 e he
    simp only [Bool.and_eq_true, Bool.not_eq_true'] at h3
    refine ⟨fun hr => by rw [hr] at h3; simp at h3, fun i hi => ?_⟩
    have h4 := List.all_eq_true.1 h3.2 i hi
    split at h4
    · rename_i o hoi
      split at h4
      · rename_i σ' hr
        obtain ⟨e', he', h5⟩ := List.any_eq_true.1 h4
        simp only [Bool.and_eq_true, decide_eq_true_eq] at h5
        unfold wpOp
        rw [hoi]
        have htl : tlB z [o] = true := List.all_eq_true.1 hall o (by rw [← Array.getElem?_toList] at hoi; exact List.mem_of_getElem? hoi)
        refine one_tail hC rfl ho hr htl hx hd hz hf fun p' w' a' hx' hd' hz' hf' => ?_
        rw [← h5.1]
        exact lv_ok hC ho hall hk (lv' :: r) m (by simpa using hn) h2 lv' rfl e' he' p' w' a' hx' hd' hz' fun t x ht => hf' t x (wants_ok h5.2 t x ht)
      · cases h4
    · cases h4

theorem lvls_len [Env] {C : FuncId → List Ab → Option Ab} {ds : List (Option Tmp)} {ops : Array Oper} : ∀ (n : Nat) (lv : List (Array Bool × List (Tmp × Ab))), (lvls C ds ops n lv).length = n + 1 ∧ (lvls C ds ops n lv).head? = some lv
  | 0, lv => ⟨rfl, rfl⟩
  | n + 1, lv => ⟨by simp [lvls, (lvls_len n _).1], rfl⟩

theorem any_ok [Env] {C : FuncId → List Ab → Option Ab} (hC : CallsOk C) {ops : Array Oper} {l : List (Tmp × Ab)} {z : Nat} {w0 : World} {p0 : Nat → Option Nat} {d : List Deferred} (ho : Old p0) (hall : ops.toList.all (fun o => tlB z [o]) = true) {Q : Exit → Act → World → Prop}
    (hk : ∀ p' w' a', Ext p0 w0 p' w' → a'.defers = d → a'.tmps.size = z → Facts l p' w' a' → Q .normal a' w') (f : Nat) (listed : Array Bool) (σ : List (Tmp × Ab)) (p : Nat → Option Nat) (w : World) (a : Act) (h : anyOk C (ops.toList.map (·.dst)) ops l f listed σ = true)
    (hx : Ext p0 w0 p w) (hd : a.defers = d) (hz : a.tmps.size = z) (hf : Facts σ p w a) : wpAny Try.prog .any ops Q f listed a w :=
  lv_ok hC ho hall hk _ f (lvls_len f _).1 h _ (lvls_len f _).2 (listed, σ) List.mem_cons_self p w a hx hd hz hf

end Go.Proofs.Ytloekfnlidclcaa

namespace Go.Proofs.Ytloekfnlidclcaa
open Go.RowKit
set_option linter.unusedVariables false
variable [Env]

def dstsOf (l : List Oper) : List (Option Tmp) := l.map (·.dst)

/-- The operations ahead of the first store. -/
def freeN : List Oper → Nat
  | [] => 0
  | o :: l => match o.op with
    | .store .. => 0
    | _ => freeN l + 1

/-- A drawn region, order by order. -/
def anySeg (C : FuncId → List Ab → Option Ab) (z : Nat) (σ : List (Tmp × Ab)) (l : List Oper) : Option (List (Tmp × Ab)) := match runTl C (dstsOf l) σ l with
  | some σt => if l.all (fun o => tlB z [o]) && anyOk C (l.map (·.dst)) l.toArray (σt.filter fun e => Ab.same e.2 e.2) l.length (Array.replicate l.length false) σ then some (σt.filter fun e => Ab.same e.2 e.2) else none
  | none => none

/-- A region: drawn or in the text's order. -/
def runSeg (C : FuncId → List Ab → Option Ab) (z : Nat) (σ : List (Tmp × Ab)) (l : List Oper) (d : Bool) : Option (List (Tmp × Ab)) :=
  if d then
    (if rgB l (freeN l) z ((byKey (fun t => (dstsOf l).all (· != some t)) σ).map (·.1)) && tlB z (l.drop (freeN l)) then
      match runAb C (l.map (·.dst)) (byKey (fun t => (dstsOf l).all (· != some t)) σ) (l.take (freeN l)) with
      | some σ1 => runTl C (dstsOf l) σ1 (l.drop (freeN l))
      | none => none
    else anySeg C z σ l)
  else if tlB z l then runTl C (dstsOf l) σ l else none

inductive Res where
  | normal
  | ret
  | exit (id : Nat)

def Res.exit' : Res → Exit
  | .normal => .normal
  | .ret => .ret
  | .exit id => .exit id

/-- Some rounds of a loop. -/
def iterR (f : List (Tmp × Ab) → Option (Res × List (Tmp × Ab))) : Nat → List (Tmp × Ab) → Option (Res × List (Tmp × Ab))
  | 0, _ => none
  | n + 1, σ => match f σ with
    | some (.normal, σ1) => iterR f n σ1
    | r => r

def runCode (C : FuncId → List Ab → Option Ab) (z : Nat) : Code → List (Tmp × Ab) → Option (Res × List (Tmp × Ab))
  | .skip, σ => some (.normal, σ)
  | .region _ ops d, σ => match runSeg C z σ ops.toList d with
    | some σ1 => some (.normal, σ1)
    | none => none
  | .seq x y, σ => match runCode C z x σ with
    | some (.normal, σ1) => runCode C z y σ1
    | r => r
  | .cond c x y, σ => match ev (lk σ) c with
    | some (.val (.bool true)) => runCode C z x σ
    | some (.val (.bool false)) => runCode C z y σ
    | _ => none
  | .block id c, σ => match runCode C z c σ with
    | some (.exit i, σ1) => if i == id then some (.normal, σ1) else some (.exit i, σ1)
    | r => r
  | .exit id, σ => some (.exit id, σ)
  | .ret, σ => some (.ret, σ)
  | .loop c, σ => iterR (runCode C z c) 12 σ
  | .label _, σ => some (.normal, σ)
  | .scope c, σ => runCode C z c σ
  | _, _ => none


section
variable {Q : Exit → Act → World → Prop}

theorem wp_seg {C : FuncId → List Ab → Option Ab} (hC : CallsOk C) {id : Nat} {l : List Oper} {d : Bool} {z : Nat} {σ σ' : List (Tmp × Ab)} (h : runSeg C z σ l d = some σ') {w0 w : World} {p0 p : Nat → Option Nat} {a : Act} {ds : List Deferred}
    (hm : Try.prog.follows .mixedOrders = true) (ho : Old p0) (hx : Ext p0 w0 p w) (hd : a.defers = ds) (hz : a.tmps.size = z) (hf : Facts σ p w a)
    (hk : ∀ p' w' a', Ext p0 w0 p' w' → a'.defers = ds → a'.tmps.size = z → Facts σ' p' w' a' → Q .normal a' w') : (Code.region id l.toArray d).wp Try.prog Q a w := by
  unfold runSeg at h
  cases d with
  | false =>
    rw [if_neg (by simp)] at h
    split at h
    · rename_i htl
      refine wp_region ?_
      have : wpOps Try.prog l.toArray Q (List.range' 0 l.length) = wpList Try.prog l.toArray Q l := wpOps_eq_wpList l 0 (fun j => by simp)
      rw [show List.range l.toArray.size = List.range' 0 l.length by simp [List.range_eq_range'], this]
      exact wpList_tail hC (ds := dstsOf l) (by simp [dstsOf]) ho h htl hx hd hz hf hk
    · cases h
  | true =>
    rw [if_pos rfl] at h
    split at h
    · rename_i hok
      simp only [Bool.and_eq_true] at hok
      obtain ⟨hB, htl⟩ := hok
      split at h
      · rename_i σ1 hr
        refine wp_region_abs hC (freeN l) z _ σ1 hm hB hr (by omega) (fun t x hx => hf t x (lk_byKey hx).2) fun a1 p1 w1 hx1 hd1 hz1 hf1 => ?_
        exact wpList_tail hC (ds := dstsOf l) (by simp [dstsOf]) ho h htl (hx.trans hx1) (hd1.trans hd) (hz1.trans hz) hf1 hk
      · cases h
    · unfold anySeg at h
      split at h
      · rename_i σt hr
        split at h
        · rename_i hok
          injection h with h
          subst h
          simp only [Bool.and_eq_true] at hok
          have hxd : Ext p w p { w with drawn := w.drawn + 1 } := ⟨(But.refl _ _).drew, fun _ _ => rfl⟩
          refine wp_region_any hm (any_ok hC ho (ops := l.toArray) (by simpa using hok.1) hk _ _ σ p _ a (by simpa using hok.2) (hx.trans hxd) hd hz fun t x ht => ?_)
          obtain ⟨v, h1, h2⟩ := hf t x ht
          exact ⟨v, h1, x.kept _ _ _ _ _ hxd h2⟩
        · cases h
      · cases h

theorem eval_of {σ : List (Tmp × Ab)} {p : Nat → Option Nat} {w : World} {a : Act} (hf : Facts σ p w a) {c : Operand} {x : Ab} (h : ev (lk σ) c = some x) : x.pd p w (a.eval c) := by
  cases c with
  | tmp t =>
    obtain ⟨v, h1, h2⟩ := hf t x h
    have : a.eval (.tmp t) = v := by
      show a.tmps.getD t undef = v
      rw [Array.getD_eq_getD_getElem?, h1]; rfl
    rw [this]
    exact h2
  | const v =>
    simp only [ev, Option.some.injEq] at h
    subst h
    rfl
  | global g => simp [ev] at h
  | func f => simp [ev] at h

theorem wp_code {C : FuncId → List Ab → Option Ab} (hC : CallsOk C) {z : Nat} {w0 : World} {p0 : Nat → Option Nat} {ds : List Deferred} (hm : Try.prog.follows .mixedOrders = true) (ho : Old p0) : ∀ (c : Code) {Q : Exit → Act → World → Prop} {σ σ' : List (Tmp × Ab)} {r : Res} {p : Nat → Option Nat} {w : World} {a : Act},
    runCode C z c σ = some (r, σ') → Ext p0 w0 p w → a.defers = ds → a.tmps.size = z → Facts σ p w a →
    (∀ p' w' a', Ext p0 w0 p' w' → a'.defers = ds → a'.tmps.size = z → Facts σ' p' w' a' → Q r.exit' a' w') → c.wp Try.prog Q a w := by
  intro c
  induction c with
  | skip =>
    intro Q σ σ' r p w a h hx hd hz hf hk
    simp only [runCode, Option.some.injEq, Prod.mk.injEq] at h
    obtain ⟨rfl, rfl⟩ := h
    exact wp_skip (hk p w a hx hd hz hf)
  | region id ops d =>
    intro Q σ σ' r p w a h hx hd hz hf hk
    simp only [runCode] at h
    split at h
    · rename_i σ1 h1
      simp only [Option.some.injEq, Prod.mk.injEq] at h
      obtain ⟨rfl, rfl⟩ := h
      have := wp_seg (Q := Q) (id := id) hC h1 hm ho hx hd hz hf hk
      simpa using this
    · cases h
  | seq x y ihx ihy =>
    intro Q σ σ' r p w a h hx hd hz hf hk
    simp only [runCode] at h
    refine wp_seq ?_
    cases h1 : runCode C z x σ with
    | none => rw [h1] at h; cases h
    | some rs =>
      obtain ⟨r1, σ1⟩ := rs
      rw [h1] at h
      refine ihx h1 hx hd hz hf fun p' w' a' hx' hd' hz' hf' => ?_
      cases r1 with
      | normal => exact ihy h hx' hd' hz' hf' hk
      | ret =>
        simp only [Option.some.injEq, Prod.mk.injEq] at h
        obtain ⟨rfl, rfl⟩ := h
        exact hk p' w' a' hx' hd' hz' hf'
      | exit i =>
        simp only [Option.some.injEq, Prod.mk.injEq] at h
        obtain ⟨rfl, rfl⟩ := h
        exact hk p' w' a' hx' hd' hz' hf'
  | cond c x y ihx ihy =>
    intro Q σ σ' r p w a h hx hd hz hf hk
    simp only [runCode] at h
    split at h
    · rename_i hc
      exact wp_cond_true (show a.eval c = .bool true from eval_of hf hc) (ihx h hx hd hz hf hk)
    · rename_i hc
      exact wp_cond_false (show a.eval c = .bool false from eval_of hf hc) (ihy h hx hd hz hf hk)
    · cases h
  | block id c ih =>
    intro Q σ σ' r p w a h hx hd hz hf hk
    simp only [runCode] at h
    refine wp_block ?_
    cases h1 : runCode C z c σ with
    | none => rw [h1] at h; cases h
    | some rs =>
      obtain ⟨r1, σ1⟩ := rs
      rw [h1] at h
      refine ih h1 hx hd hz hf fun p' w' a' hx' hd' hz' hf' => ?_
      cases r1 with
      | normal =>
        simp only [Option.some.injEq, Prod.mk.injEq] at h
        obtain ⟨rfl, rfl⟩ := h
        exact hk p' w' a' hx' hd' hz' hf'
      | ret =>
        simp only [Option.some.injEq, Prod.mk.injEq] at h
        obtain ⟨rfl, rfl⟩ := h
        exact hk p' w' a' hx' hd' hz' hf'
      | exit i =>
        simp only at h
        show Exit.inBlock id Q (.exit i) a' w'
        by_cases hi : i = id
        · rw [if_pos (by simpa using hi)] at h
          simp only [Option.some.injEq, Prod.mk.injEq] at h
          obtain ⟨rfl, rfl⟩ := h
          simp only [Exit.inBlock, if_pos hi]
          exact hk p' w' a' hx' hd' hz' hf'
        · rw [if_neg (by simpa using hi)] at h
          simp only [Option.some.injEq, Prod.mk.injEq] at h
          obtain ⟨rfl, rfl⟩ := h
          simp only [Exit.inBlock, if_neg hi]
          exact hk p' w' a' hx' hd' hz' hf'
  | exit id =>
    intro Q σ σ' r p w a h hx hd hz hf hk
    simp only [runCode, Option.some.injEq, Prod.mk.injEq] at h
    obtain ⟨rfl, rfl⟩ := h
    exact wp_exit (hk p w a hx hd hz hf)
  | ret =>
    intro Q σ σ' r p w a h hx hd hz hf hk
    simp only [runCode, Option.some.injEq, Prod.mk.injEq] at h
    obtain ⟨rfl, rfl⟩ := h
    exact wp_ret (hk p w a hx hd hz hf)
  | label l =>
    intro Q σ σ' r p w a h hx hd hz hf hk
    simp only [runCode, Option.some.injEq, Prod.mk.injEq] at h
    obtain ⟨rfl, rfl⟩ := h
    exact wp_label (hk p w a hx hd hz hf)
  | scope c ih =>
    intro Q σ σ' r p w a h hx hd hz hf hk
    simp only [runCode] at h
    refine wp_scope_straight (ih h hx hd hz hf fun p' w' a' hx' hd' hz' hf' => ?_)
    have := hk p' w' a' hx' hd' hz' hf'
    cases r <;> exact this
  | loop c ih =>
    intro Q σ σ' r p w a h hx hd hz hf hk
    simp only [runCode] at h
    have go : ∀ (n : Nat) {σ : List (Tmp × Ab)} {p : Nat → Option Nat} {w : World} {a : Act}, iterR (runCode C z c) n σ = some (r, σ') → Ext p0 w0 p w → a.defers = ds → a.tmps.size = z → Facts σ p w a → Code.rounds Try.prog c Q n a w := by
      intro n
      induction n with
      | zero => intro σ p w a h; cases h
      | succ n ihn =>
        intro σ p w a h hx hd hz hf
        rw [rounds_succ]
        unfold iterR at h
        cases h1 : runCode C z c σ with
        | none => rw [h1] at h; cases h
        | some rs =>
          obtain ⟨r1, σ1⟩ := rs
          rw [h1] at h
          refine ih h1 hx hd hz hf fun p' w' a' hx' hd' hz' hf' => ?_
          cases r1 with
          | normal => exact ihn h hx' hd' hz' hf'
          | ret =>
            simp only [Option.some.injEq, Prod.mk.injEq] at h
            obtain ⟨rfl, rfl⟩ := h
            exact hk p' w' a' hx' hd' hz' hf'
          | exit i =>
            simp only [Option.some.injEq, Prod.mk.injEq] at h
            obtain ⟨rfl, rfl⟩ := h
            exact hk p' w' a' hx' hd' hz' hf'
    exact wp_loop_rounds 12 (go 12 h hx hd hz hf)
  | _ => intro Q σ σ' r p w a h; simp [runCode] at h
end

theorem Ab.same_free {p p' : Nat → Option Nat} {w : World} (he : ∀ b, b < w.heap.size → p b = none → p' b = none) : ∀ (x : Ab) (v : Value), isNew x = false → x.pd p w v → x.pd p' w v := by
  have hk : KeepsIn (Fr p) (Fr p') w w := fun k o ho hd => ⟨ho, he k (lt_of_heap ho) hd⟩
  intro x
  induction x with
  | any => intro v _ _; trivial
  | val u => intro v _ h; exact h
  | vtok n => intro v _ h; exact h
  | stok n => intro v _ h; exact h
  | itok n =>
    intro v _ ⟨A, cap, e, h1, h2, h3, h⟩
    refine ⟨A, cap, e, h1, h2, h3, fun j hj => ?_⟩
    obtain ⟨b, o, e, hd, hc⟩ := h j hj
    exact ⟨b, o, e, he b (lt_of_cell hc) hd, hc⟩
  | rtok n => intro v _ ⟨A, cap, e, h1, h2, h3, h⟩; exact ⟨A, cap, e, h1, h2, h3, ArgsIn.keeps hk h⟩
  | term t => intro v _ h; exact TmIn.keeps hk _ h
  | tok n => intro v _ h; exact TmIn.keeps hk _ h
  | row l => intro v _ ⟨A, cap, e, h1, h2, h3, h⟩; exact ⟨A, cap, e, h1, h2, h3, ArgsIn.keeps hk h⟩
  | ints l =>
    intro v _ ⟨A, cap, e, h1, h2, h3, h⟩
    refine ⟨A, cap, e, h1, h2, h3, fun j hj => ?_⟩
    obtain ⟨b, o, e, hd, hc⟩ := h j hj
    exact ⟨b, o, e, he b (lt_of_cell hc) hd, hc⟩
  | pair x y ihx ihy =>
    intro v hn ⟨a, b, e, h1, h2⟩
    simp only [isNew, Bool.or_eq_false_iff] at hn
    exact ⟨a, b, e, ihx _ hn.1 h1, ihy _ hn.2 h2⟩
  | tup3 x y z ihx ihy ihz =>
    intro v hn ⟨a, b, c, e, h1, h2, h3⟩
    simp only [isNew, Bool.or_eq_false_iff] at hn
    exact ⟨a, b, c, e, ihx _ hn.1 h1, ihy _ hn.2.1 h2, ihz _ hn.2.2 h3⟩
  | tup4 x y z u ihx ihy ihz ihu =>
    intro v hn ⟨a, b, c, d, e, h1, h2, h3, h4⟩
    simp only [isNew, Bool.or_eq_false_iff] at hn
    exact ⟨a, b, c, d, e, ihx _ hn.1 h1, ihy _ hn.2.1 h2, ihz _ hn.2.2.1 h3, ihu _ hn.2.2.2 h4⟩
  | vcell s x _ => intro v hn; cases hn
  | mfld s n j => intro v hn; cases hn
  | grow s n => intro v hn; cases hn
  | own s n => intro v hn; cases hn
  | toks l => intro v _ ⟨A, cap, e, h1, h2, h3, h⟩; exact ⟨A, cap, e, h1, h2, h3, ArgsIn.keeps hk h⟩
  | intAt n => intro v _ ⟨b, o, e, h0, h1⟩; exact ⟨b, o, e, he b (lt_of_cell h1) h0, h1⟩
  | sat n => intro v _ ⟨b, o, e, h0, h1⟩; exact ⟨b, o, e, he b (lt_of_cell h1) h0, h1⟩
  | srow l => intro v _ ⟨A, cap, e, h1, h2, h⟩; exact ⟨A, cap, e, h1, h2, h.keeps hk⟩
  | iat n => intro v _ ⟨b, o, e, h0, h1⟩; exact ⟨b, o, e, he b (lt_of_cell h1) h0, h1⟩
  | elm n => intro v _ ⟨b, o, A, cap, e, h0, h1, h2, h3, h4, h5⟩; exact ⟨b, o, A, cap, e, he b (lt_of_cell h1) h0, h1, h2, h3, h4, TmIn.keeps hk _ h5⟩
  | fld n j => intro v _ ⟨b, o, A, cap, e, h0, h1, h2, h3, h4, h5⟩; exact ⟨b, o, A, cap, e, he b (lt_of_cell h1) h0, h1, h2, h3, h4, TmIn.keeps hk _ h5⟩
  | termAt t => intro v _ ⟨b, o, A, cap, e, h0, h1, h2, h3, h4, h5⟩; exact ⟨b, o, A, cap, e, he b (lt_of_cell h1) h0, h1, h2, h3, h4, TmIn.keeps hk _ h5⟩

/-- What is known of a function's results. -/
def resOne (σ : List (Tmp × Ab)) : ResultVar → Option Ab
  | .tmp t => match lk σ t with
    | some (.grow _ n) => some (.rtok n)
    | some x => if isNew x then none else some x
    | none => none
  | .cell s t => match lk σ s with
    | some (.vcell _ x) => if isTerm t && !isNew x then some x else none
    | _ => none

def resAb (σ : List (Tmp × Ab)) : List ResultVar → Option Ab
  | [x] => resOne σ x
  | [x, y] => match resOne σ x, resOne σ y with
    | some u, some v => some (.pair u v)
    | _, _ => none
  | [x, y, z] => match resOne σ x, resOne σ y, resOne σ z with
    | some u, some v, some r => some (.tup3 u v r)
    | _, _, _ => none
  | [x, y, z, o] => match resOne σ x, resOne σ y, resOne σ z, resOne σ o with
    | some u, some v, some r, some q => some (.tup4 u v r q)
    | _, _, _, _ => none
  | _ => none

/-- The result at a place. -/
def ResAt (a : Act) (w : World) (v : Value) : ResultVar → Prop
  | .tmp t => a.tmps[t]? = some v
  | .cell s t => ∃ g, a.tmps[s]? = some (.pointer (some g)) ∧ (loadVar t g).run Try.prog w = .ok v w

theorem resOne_ok {σ : List (Tmp × Ab)} {p q : Nat → Option Nat} {w : World} {a : Act} (hf : Facts σ p w a) (hq : ∀ b, b < w.heap.size → p b = none → q b = none) (hq' : ∀ b s, p b = some (s + 1) → q b = none) {r : ResultVar} {x : Ab} (h : resOne σ r = some x) : ∃ v, ResAt a w v r ∧ x.pd q w v := by
  cases r with
  | tmp t =>
    simp only [resOne] at h
    split at h
    · rename_i s n hy
      injection h with h
      subst h
      obtain ⟨v, h1, h2⟩ := hf t _ hy
      exact ⟨v, h1, h2.row fun b hb h => h.elim (hq b hb) (hq' b s)⟩
    · rename_i y _ hy
      split at h
      · cases h
      · rename_i hn
        injection h with h
        subst h
        obtain ⟨v, h1, h2⟩ := hf t _ hy
        exact ⟨v, h1, Ab.same_free hq y v (by simpa using hn) h2⟩
    · cases h
  | cell s t =>
    simp only [resOne] at h
    split at h
    · rename_i s' y hy
      split at h
      · rename_i ht
        simp only [isTerm, Bool.and_eq_true, beq_iff_eq, Bool.not_eq_true'] at ht
        obtain ⟨rfl, hn⟩ := ht
        injection h with h
        subst h
        obtain ⟨v, h1, tt, htt, g, A, cap, rfl, h2, h3, h4⟩ := hf s _ hy
        obtain ⟨c0, c1, c2, c3⟩ := blk4 h3
        exact ⟨VT tt A cap, ⟨_, h1, by simp [go_sem, c0, c1, c2, c3]⟩, Ab.same_free hq _ _ hn h4⟩
      · cases h
    · cases h

/-- How one result is read. -/
def resF (tmps : Array Value) : ResultVar → Sem Value
  | .tmp t => pure (tmps.getD t undef)
  | .cell a t => do loadVar t (← asAddr (tmps.getD a undef))

omit [Env] in
theorem results_resF (fn : Func) (tmps : Array Value) : results fn tmps = (do let vs ← fn.results.mapM (resF tmps); pure (if h : vs.size = 1 then vs[0] else .tuple vs)) := by
  unfold results
  congr 1

omit [Env] in
theorem resF_ok {a : Act} {w : World} {v : Value} {r : ResultVar} (h : ResAt a w v r) : (resF a.tmps r).run Try.prog w = .ok v w := by
  cases r with
  | tmp t => simp [resF, show a.tmps[t]? = some v from h]
  | cell s t =>
    obtain ⟨g, h3, h4⟩ := h
    simp [resF, h3, asAddr, h4]

theorem resAb_ok {fn : Func} {σ : List (Tmp × Ab)} {p q : Nat → Option Nat} {w : World} {a : Act} (hf : Facts σ p w a) (hq : ∀ b, b < w.heap.size → p b = none → q b = none) (hq' : ∀ b s, p b = some (s + 1) → q b = none) {x : Ab} (h : resAb σ fn.results.toList = some x) :
    ∃ v, (results fn a.tmps).run Try.prog w = .ok v w ∧ x.pd q w v := by
  obtain ⟨l, hl⟩ : ∃ l, fn.results = ⟨l⟩ := ⟨fn.results.toList, rfl⟩
  rw [hl] at h
  unfold resAb at h
  split at h
  · rename_i r hr
    obtain rfl : l = [r] := hr
    obtain ⟨v, h1, h2⟩ := resOne_ok hf hq hq' h
    refine ⟨v, ?_, h2⟩
    unfold results
    rw [hl]
    cases r with
    | tmp t => simp [show a.tmps[t]? = some v from h1]
    | cell s t =>
      obtain ⟨g, h3, h4⟩ := h1
      simp [h3, asAddr, h4]
  · rename_i r r' hr
    obtain rfl : l = [r, r'] := hr
    split at h
    · rename_i u v hu hv
      injection h with h
      subst h
      obtain ⟨v1, h1, h2⟩ := resOne_ok hf hq hq' hu
      obtain ⟨v2, h3, h4⟩ := resOne_ok hf hq hq' hv
      refine ⟨.tuple #[v1, v2], ?_, v1, v2, rfl, h2, h4⟩
      unfold results
      rw [hl]
      cases r with
      | tmp t =>
        have h1' : a.tmps[t]? = some v1 := h1
        cases r' with
        | tmp t' => simp [h1', show a.tmps[t']? = some v2 from h3]
        | cell s t' =>
          obtain ⟨g, h5, h6⟩ := h3
          simp [h1', h5, asAddr, h6]
      | cell s t =>
        obtain ⟨g, h1', h1''⟩ := h1
        cases r' with
        | tmp t' => simp [h1', asAddr, h1'', show a.tmps[t']? = some v2 from h3]
        | cell s' t' =>
          obtain ⟨g', h5, h6⟩ := h3
          simp [h1', asAddr, h1'', h5, h6]
    · cases h
  · rename_i r1 r2 r3 hr
    obtain rfl : l = [r1, r2, r3] := hr
    split at h
    · rename_i u1 u2 u3 hu1 hu2 hu3
      injection h with h
      subst h
      obtain ⟨v1, h1, g1⟩ := resOne_ok hf hq hq' hu1
      obtain ⟨v2, h2, g2⟩ := resOne_ok hf hq hq' hu2
      obtain ⟨v3, h3, g3⟩ := resOne_ok hf hq hq' hu3
      refine ⟨.tuple #[v1, v2, v3], ?_, v1, v2, v3, rfl, g1, g2, g3⟩
      rw [results_resF, hl]
      simp [resF_ok h1, resF_ok h2, resF_ok h3]
    · cases h
  · rename_i r1 r2 r3 r4 hr
    obtain rfl : l = [r1, r2, r3, r4] := hr
    split at h
    · rename_i u1 u2 u3 u4 hu1 hu2 hu3 hu4
      injection h with h
      subst h
      obtain ⟨v1, h1, g1⟩ := resOne_ok hf hq hq' hu1
      obtain ⟨v2, h2, g2⟩ := resOne_ok hf hq hq' hu2
      obtain ⟨v3, h3, g3⟩ := resOne_ok hf hq hq' hu3
      obtain ⟨v4, h4, g4⟩ := resOne_ok hf hq hq' hu4
      refine ⟨.tuple #[v1, v2, v3, v4], ?_, v1, v2, v3, v4, rfl, g1, g2, g3, g4⟩
      rw [results_resF, hl]
      simp [resF_ok h1, resF_ok h2, resF_ok h3, resF_ok h4]
    · cases h
  · cases h

/-- The pins of a caller, as the callee sees them. -/
def older (p : Nat → Option Nat) : Nat → Option Nat := fun b => match p b with
  | some _ => some 0
  | none => none

/-- The pins behind a call. -/
def behind (p : Nat → Option Nat) (w : World) (p1 : Nat → Option Nat) : Nat → Option Nat := fun b => if b < w.heap.size then p b else p1 b

def idxd (k : Nat) : List Ab → List (Tmp × Ab)
  | [] => []
  | x :: l => (k, x) :: idxd (k + 1) l

theorem idxd_ok {p : Nat → Option Nat} {w : World} : ∀ {xs : List Ab} {vs : List Value} {k : Nat}, Args p w xs vs → ∀ (t : Nat) x, lk (idxd k xs) t = some x → k ≤ t ∧ ∃ v, vs[t - k]? = some v ∧ x.pd p w v
  | [], vs, k, _, t, x, h => by cases h
  | y :: xs, [], k, ha, t, x, h => ha.elim
  | y :: xs, v :: vs, k, ha, t, x, h => by
    unfold idxd lk at h
    by_cases hkt : k = t
    · subst hkt
      rw [if_pos (by simp)] at h
      injection h with h
      subst h
      exact ⟨Nat.le_refl _, v, by simp, ha.1⟩
    · rw [if_neg (by simpa using hkt)] at h
      obtain ⟨h1, u, h2, h3⟩ := idxd_ok ha.2 t x h
      refine ⟨by omega, u, ?_, h3⟩
      rw [show t - k = (t - (k + 1)) + 1 by omega, List.getElem?_cons_succ]
      exact h2

theorem Args.free {p p' : Nat → Option Nat} {w : World} (he : ∀ b, b < w.heap.size → p b = none → p' b = none) : ∀ {xs : List Ab} {vs : List Value}, xs.all (fun x => !isNew x) = true → Args p w xs vs → Args p' w xs vs
  | [], [], _, _ => trivial
  | x :: xs, v :: vs, hn, h => by
    simp only [List.all_cons, Bool.and_eq_true, Bool.not_eq_true'] at hn
    exact ⟨Ab.same_free he x v hn.1 h.1, Args.free he hn.2 h.2⟩
  | [], _ :: _, _, h => h.elim
  | _ :: _, [], _, h => h.elim

/-- One call: the function, what is known of the arguments, what is known of the result. -/
structure Entry (f : FuncId) (l : List Ab) (x : Ab) : Prop where
  enter : ∀ args w, (callFunc f args).run Try.prog w = .ok (.enter f args) w
  call : ∀ p w vs, Args p w l vs → Calls Try.prog f vs.toArray w fun e w' => ∃ v p', e = .returned v ∧ Ext p w p' w' ∧ x.pd p' w' v

omit [Env] in
theorem free_pins {p p' : Nat → Option Nat} {w w' : World} (hx : Ext (older p) w p' w') : ∀ b, b < w'.heap.size → p' b = none → behind p w (fun _ => none) b = none := fun b _ hb => by
  unfold behind
  split
  · rename_i hbw
    have := hx.pin b hbw
    rw [hb] at this
    unfold older at this
    split at this
    · cases this
    · assumption
  · rfl

omit [Env] in
theorem own_pins {p p' : Nat → Option Nat} {w w' : World} (hx : Ext (older p) w p' w') : ∀ b s, p' b = some (s + 1) → behind p w (fun _ => none) b = none := fun b s hb => by
  unfold behind
  split
  · rename_i hbw
    have := hx.pin b hbw
    rw [hb] at this
    unfold older at this
    split at this <;> simp at this
  · rfl

def outOf (rs : List ResultVar) : Option (Res × List (Tmp × Ab)) → Option Ab
  | some (.ret, σ) => resAb σ rs
  | some (.normal, σ) => resAb σ rs
  | _ => none

/-- A function without loops, run on what is known of its arguments. -/
theorem entry_code {C : FuncId → List Ab → Option Ab} (hC : CallsOk C) {f : FuncId} {fn : Func} {c : Code} {x : Ab} (xs : List Ab) (hf : Try.prog.funcs[f]? = some fn) (hb : fn.body = some c) (hen : ∀ args w, (callFunc f args).run Try.prog w = .ok (.enter f args) w)
    (hm : Try.prog.follows .mixedOrders = true) (hr : outOf fn.results.toList (runCode C fn.ntmps c (idxd 0 xs)) = some x) (hn : (xs.all fun x => !isNew x) = true) (hx : isNew x = false) (hsz : xs.length ≤ fn.ntmps) : Entry f xs x := by
  refine ⟨hen, fun p w vs hv => calls_of_wp hf hb ?_⟩
  have hl : vs.length = xs.length := by
    clear hr hn hsz
    induction xs generalizing vs with
    | nil => cases vs with
      | nil => rfl
      | cons _ _ => exact hv.elim
    | cons y ys ih => cases vs with
      | nil => exact hv.elim
      | cons u us => simp [ih us hv.2]
  have ho : Old (older p) := fun b => by unfold older; split <;> simp
  have hv' : Args (older p) w xs vs := Args.free (fun b _ h => by unfold older; rw [h]) hn hv
  unfold outOf at hr
  have fin : ∀ (r : Res) σ', r.exit' = .ret ∨ r.exit' = .normal → runCode C fn.ntmps c (idxd 0 xs) = some (r, σ') → resAb σ' fn.results.toList = some x →
      c.wp Try.prog (bodyPost Try.prog fn fun e w' => ∃ v p', e = .returned v ∧ Ext p w p' w' ∧ x.pd p' w' v) { tmps := vs.toArray ++ Array.replicate (fn.ntmps - vs.toArray.size) undef, defers := [] } w := fun r σ' he h1 h2 => by
    refine wp_code hC hm ho c h1 (Ext.refl _ _) rfl (by simp; omega) (fun t y hy => ?_) fun p' w' a' hx' hd hz hfa => ?_
    · obtain ⟨_, u, h3, h4⟩ := idxd_ok hv' t y hy
      refine ⟨u, ?_, h4⟩
      rw [Nat.sub_zero] at h3
      have hlt : t < vs.toArray.size := by simpa using (List.getElem?_eq_some_iff.1 h3).1
      show (vs.toArray ++ _)[t]? = _
      rw [Array.getElem?_append_left hlt]
      simpa using h3
    · obtain ⟨v, h3, h4⟩ := resAb_ok (q := behind p w fun _ => none) hfa (free_pins hx') (own_pins hx') h2
      have hpost : a'.defers = [] ∧ ∃ v, (results fn a'.tmps).run Try.prog w' = .ok v w' ∧ ∃ v' p', (Ending.returned v) = .returned v' ∧ Ext p w p' w' ∧ x.pd p' w' v' :=
        ⟨hd, v, h3, v, behind p w fun _ => none, rfl, ⟨hx'.but, fun b hb => by simp [behind, hb]⟩, h4⟩
      rcases he with he | he <;> rw [he] <;> exact hpost
  split at hr
  · rename_i σ' h1; exact fin .ret σ' (.inl rfl) h1 hr
  · rename_i σ' h1; exact fin .normal σ' (.inr rfl) h1 hr
  · cases hr

/-- What is known, for the walks by hand. -/
theorem Entry.val {f : FuncId} {l : List Ab} {v : Value} (h : Entry f l (.val v)) {w : World} {vs : List Value} (ha : Args (fun _ => none) w l vs) : Calls Try.prog f vs.toArray w fun e w' => e = .returned v ∧ But Nil w w' :=
  (h.call _ w vs ha).mono fun e w' ⟨u, p', he, hx, hu⟩ => ⟨by rw [he, show u = v from hu], hx.but⟩

end Go.Proofs.Ytloekfnlidclcaa

namespace Go.Proofs.Ytloekfnlidclcaa
open Go.RowKit
set_option linter.unusedVariables false

end Go.Proofs.Ytloekfnlidclcaa

namespace Go.Proofs.Ytloekfnlidclcaa
open Go.RowKit
set_option linter.unusedVariables false

def beqs : List Ab → List Ab → Bool
  | [], [] => true
  | x :: l, y :: m => Ab.beq x y && beqs l m
  | _, _ => false

theorem beqs_ok : ∀ {l m : List Ab}, beqs l m = true → l = m
  | [], [], _ => rfl
  | x :: l, y :: m, h => by
    simp only [beqs, Bool.and_eq_true] at h
    rw [Ab.beq_ok h.1, beqs_ok h.2]
  | [], _ :: _, h => by cases h
  | _ :: _, [], h => by cases h

def tbl : List (FuncId × List Ab × Ab) → FuncId → List Ab → Option Ab
  | [], _, _ => none
  | (g, m, x) :: r, f, l => if f == g && beqs l m then some x else tbl r f l

theorem TmAt.fr {w : World} {B : Nat} {t : Tm} {v : Value} (h : TmAt w B t v) : TmIn w (Fr fun _ => none) t v := TmIn.keeps (fun k o hk _ => ⟨hk, rfl⟩) _ h
theorem ArgsAt.fr {w : World} {B : Nat} {l : List Tm} {A : Option Addr} {i : Nat} (h : ArgsAt w B l A i) : ArgsIn w (Fr fun _ => none) l A i := ArgsIn.keeps (fun k o hk _ => ⟨hk, rfl⟩) h

variable [Env]

def Entries : List (FuncId × List Ab × Ab) → Prop
  | [] => True
  | (f, l, x) :: r => Entry f l x ∧ Entries r

theorem tbl_ok : ∀ {T : List (FuncId × List Ab × Ab)}, Entries T → CallsOk (tbl T)
  | [], _, f, l, x, h => by cases h
  | (g, m, y) :: r, ⟨he, hr⟩, f, l, x, h => by
    unfold tbl at h
    by_cases hc : (f == g && beqs l m) = true
    · rw [if_pos hc] at h
      simp only [Bool.and_eq_true, beq_iff_eq] at hc
      obtain ⟨rfl, hl⟩ := hc
      injection h with h
      subst h
      rw [beqs_ok hl]
      exact ⟨he.enter, he.call⟩
    · rw [if_neg hc] at h
      exact tbl_ok hr f l x h

section
variable {f : FuncId} (hen : ∀ args w, (callFunc f args).run Try.prog w = .ok (.enter f args) w)
include hen

theorem ent_0v {v : Value} (h : ∀ w, Calls Try.prog f #[] w fun e w' => e = .returned v ∧ But Nil w w') : Entry f [] (.val v) :=
  ⟨hen, fun p w vs hv => by
    match vs, hv with
    | [], _ => exact (h w).mono fun _ _ => ret_val⟩

theorem ent_tv {n : Nat} {v : Value} (h : ∀ w y, TmAt w w.heap.size (Env.T n) y → Calls Try.prog f #[y] w fun e w' => e = .returned v ∧ But Nil w w') : Entry f [.tok n] (.val v) :=
  ⟨hen, fun p w vs hv => by
    match vs, hv with
    | [y], ⟨h1, _⟩ => exact (h w y (TmIn.at_w h1)).mono fun _ _ => ret_val⟩

theorem ent_ti {n k : Nat} (h : ∀ w y, TmAt w w.heap.size (Env.T n) y → Calls Try.prog f #[y] w fun e w' => e = .returned (.int .i64 (Env.I k)) ∧ But Nil w w') : Entry f [.tok n] (.vtok k) :=
  ⟨hen, fun p w vs hv => by
    match vs, hv with
    | [y], ⟨h1, _⟩ => exact (h w y (TmIn.at_w h1)).mono fun e w' ⟨he, hb⟩ => ⟨_, pin0 p w, he, Ext.plain hb, rfl⟩⟩

theorem ent_tt {n k : Nat} (h : ∀ w y, TmAt w w.heap.size (Env.T n) y → Calls Try.prog f #[y] w fun e w' => ∃ u, e = .returned u ∧ TmNew w' w.heap.size (Env.T k) u ∧ But Nil w w') : Entry f [.tok n] (.tok k) :=
  ⟨hen, fun p w vs hv => by
    match vs, hv with
    | [y], ⟨h1, _⟩ => exact (h w y (TmIn.at_w h1)).mono fun e w' ⟨u, he, ht, hb⟩ => ⟨_, pin0 p w, he, Ext.plain hb, ht.pins⟩⟩

theorem ent_ttv {n m : Nat} {v : Value} (h : ∀ w y z, TmAt w w.heap.size (Env.T n) y → TmAt w w.heap.size (Env.T m) z → Calls Try.prog f #[y, z] w fun e w' => e = .returned v ∧ But Nil w w') : Entry f [.tok n, .tok m] (.val v) :=
  ⟨hen, fun p w vs hv => by
    match vs, hv with
    | [y, z], ⟨h1, h2, _⟩ => exact (h w y z (TmIn.at_w h1) (TmIn.at_w h2)).mono fun _ _ => ret_val⟩
end

end Go.Proofs.Ytloekfnlidclcaa

namespace Go.Proofs.Ytloekfnlidclcaa
open Go.RowKit Go.Maps
set_option linter.unusedVariables false

theorem arg_step {d w1 w2 : World} {L gc g cap2 cap1 : Nat} {a b c va : Value} {ts : List Tm} {t : Tm} {xs : List Value} {A1 : Option Addr}
    (hown : d.ownsRow L 24 4 va ts.length xs) (hx : RowE d L va ts xs) (hb1 : But Nil d w1) (hL : L ≤ d.heap.size)
    (hnew : TmNew w1 d.heap.size t (VT t A1 cap1))
    (hown2 : w2.ownsRow L 24 4 (.slice (some ⟨g, 0, none⟩) (ts.length + 1) cap2) (ts.length + 1) (xs ++ C4 t A1 cap1))
    (hgrow : (w1.alloc (TB t A1 cap1)).grownBy w2 va.ownBlock) (hat : va.ownBlock = some g ∨ g = w1.heap.size + 1)
    (h2 : w1.heap[gc]? = some (.cells #[a, b, c, va] 24 (0, 0))) (hg : gc < L) :
    (w2.setCell ⟨gc, 3, none⟩ (.slice (some ⟨g, 0, none⟩) (ts.length + 1) cap2)).heap[gc]? = some (.cells #[a, b, c, .slice (some ⟨g, 0, none⟩) (ts.length + 1) cap2] 24 (0, 0)) ∧
    RowT (w2.setCell ⟨gc, 3, none⟩ (.slice (some ⟨g, 0, none⟩) (ts.length + 1) cap2)) L (.slice (some ⟨g, 0, none⟩) (ts.length + 1) cap2) (ts ++ [t]) ∧
    But (fun k => k = gc ∨ L ≤ k) w1 (w2.setCell ⟨gc, 3, none⟩ (.slice (some ⟨g, 0, none⟩) (ts.length + 1) cap2)) := by
  have hown1 : w1.ownsRow L 24 4 va ts.length xs := own_but hown hb1 (fun _ _ => id)
  have hn2 : ∀ k, k < L → ¬ va.ownBlock = some k := fun k hk e => by have := (hown1.lt k e).1; omega
  have hba : But Nil w1 (w1.alloc (TB t A1 cap1)) := (But.refl _ _).alloc _
  have hb2 : But (fun k => va.ownBlock = some k) (w1.alloc (TB t A1 cap1)) w2 := (But.refl _ _).grown hgrow (fun k hk => .inl hk)
  have hb3 : But (· = gc) w2 (w2.setCell ⟨gc, 3, none⟩ (.slice (some ⟨g, 0, none⟩) (ts.length + 1) cap2)) := (But.refl (· = gc) w2).setCell (p := ⟨gc, 3, none⟩) (.inl rfl) _
  have hx1 : RowE (w1.alloc (TB t A1 cap1)) L va ts xs := (hx.but hb1 fun k hk => hk.elim).but hba fun k hk => hk.elim
  have hrow2 : RowT w2 L (.slice (some ⟨g, 0, none⟩) (ts.length + 1) cap2) (ts ++ [t]) :=
    RowT.push (hown1.alloc _) hx1 rfl (hnew.but hba (fun k hk => hk.elim) (Nat.le_refl _)) hL (fun k hk => (hown.lt k hk).2) hown2 hgrow (hat.imp id (fun e => by simp; omega))
  refine ⟨?_, hrow2.but hb3 (fun k hk => .inl (by subst hk; omega)), ?_⟩
  · have := set_blk (i := 3) (hb2.heap (hn2 _ hg) (heap_old h2)) (.slice (some ⟨g, 0, none⟩) (ts.length + 1) cap2)
    simpa using this
  · refine ((hba.of_nil (S := fun k => k = gc ∨ L ≤ k)).trans hb2 fun i hi _ => .inl (.inr (hown1.lt i hi).1)).trans hb3 fun i hi _ => .inl (.inl hi)

set_option maxHeartbeats 1000000 in
theorem copied_any (t : Tm) : ∀ (w : World) (v : Value), TmAt w w.heap.size t v → fitsT t = true →
    Calls Try.prog 69 #[v] w fun e w' => ∃ u, e = .returned u ∧ TmNew w' w.heap.size t u ∧ But Nil w w' := by
  induction t using Tm.ind with
  | h k n nm l ih =>
  intro w v hv hfit
  have hv' := hv
  unfold TmAt TmIn at hv
  obtain ⟨A, len, cap, rfl, h1, h2, h3, rfl, h5, h6, -, h7⟩ := hv
  have IH := Lib.hid ih
  obtain ⟨i0, hi0, hz0, hz1, hz2⟩ := info_parts Try.infoTerm
  have hfl : fitsL l = true := by
    unfold fitsT at hfit
    simp only [Bool.and_eq_true] at hfit
    exact hfit.2
  have hl8 : l.length ≤ 8 := by
    unfold fitsT at hfit
    simp only [Bool.and_eq_true] at hfit
    exact node_args hfit.1
  have hwf1 := h1
  have hwf2 := h2
  clear ih hfit h1 h2 hv'
  go_enter Try.func69, Try.ntmps69
  go_wp2_with fail
  go_loopw [4] (fun i wr => ∃ (j : Nat) (va : Value) (ts : List Tm), j ≤ l.length ∧ i = .int .i64 j ∧ wr.heap[w.heap.size]? = some (.cells #[.int .i64 k, .int .i64 n, .string nm, .slice A l.length cap] 24 (0, 0)) ∧
      wr.heap[w.heap.size + 1]? = some (TB zeroT none 0) ∧ wr.heap[w.heap.size + 1 + 1]? = some (.cells #[.int .i64 k, .int .i64 n, .string nm, va] 24 (0, 0)) ∧
      RowT wr (w.heap.size + 3) va ts ∧ ts.length = j ∧ ts ++ l.drop j = l ∧ But Nil w wr) (fun i _ => l.length - (intOf i).toNat)
  case atStart =>
    exact ⟨0, _, [], by omega, rfl, heap_old (heap_old (heap_new rfl)), heap_old (heap_new (by simp)), heap_new (by simp), RowT.nil _ _, rfl, by simp, (((But.refl _ _).alloc _).alloc _).alloc _⟩
  case round =>
    obtain ⟨j, va, ts, hj, rfl, hblk0, hblk1, hblk2, hrow, htl, hts, hbut⟩ := hrel
    have Hts := Lib.hid hts
    have Htl := Lib.hid htl
    clear hts htl
    by_cases hjl : j < l.length
    · obtain ⟨b, o, A0, cap0, rfl, hb, e0, e1, e2, e3, ht⟩ := h7.get hjl
      have g0 := hbut.cell id e0
      have g1 := hbut.cell id e1
      have g2 := hbut.cell id e2
      have g3 := hbut.cell id e3
      have Ht := Lib.hid (TmAt.keeps (Nat.le_refl _) (But.keeps_nil (B := w.heap.size) (hbut.drew)) _ ht)
      obtain ⟨-, -, -, x3⟩ := blk4 hblk0
      obtain ⟨-, -, -, q3⟩ := blk4 hblk2
      obtain ⟨xs, hown, hxs⟩ := hrow
      have hgl : ∀ g, va.ownBlock = some g → g < wr.heap.size := fun g hg => (hown.lt g hg).2
      have Hxs := Lib.hid hxs
      have Hown := Lib.hid hown
      have hlt2 := lt_of_heap hblk2
      have Hblk0 := Lib.hid hblk0
      have Hblk1 := Lib.hid hblk1
      have Hblk2 := Lib.hid hblk2
      have hts1 : ts.length + 1 ≤ 9 := by have := Htl.out; omega
      have Hfj := Lib.hid (fitsL_get hfl j hjl)
      have hwl := hbut.size
      clear e0 e1 e2 e3 ht hxs hblk0 hblk1 hblk2
      go_wp2_with fail
      go_region_law (first
          | (refine step_append_lies _ (by rfl) _ _ _ (by rfl) (w.heap.size + 3) 24 i0 _ 4 56 Try.underlying22 hi0 hz0 hz1 hz2 rfl (by omega) va ts.length xs (by rfl) (hown1.alloc _) ⟨w1.heap.size, 0, none⟩ 1 1 (C4 l[j] A1 cap1) (by rfl) (by rfl)
               (World.news_of_block (cs := (C4 l[j] A1 cap1).toArray) (t := 24) (fr := (0, 0)) (heap_alloc_new w1 _)) (by simp [Value.oneCell']) (by omega) (by unfold maxLen; omega) (by omega) (by simp; omega) (w1.heap.size + 1) (by simp) ?_
             intro gg cap2 w2 hown2 hgrow hat hlt
             have hb2 : But (fun k => va.ownBlock = some k) (w1.alloc (TB l[j] A1 cap1)) w2 := (But.refl _ _).grown hgrow (fun k hk => .inl hk)
             have hn2 : ∀ k, k < w.heap.size + 3 → ¬ va.ownBlock = some k := fun k hk e => by have := (hown1.lt k e).1; omega
             have hblk2_2 := hb2.heap (hn2 _ (by omega)) (heap_old hblk2'')
             have c3'' := (blk4 hblk2_2).2.2.2
             have hfz := frz hblk2_2)
          | (go_simp; go_at_call 69; refine (IH.out l[j] (List.getElem_mem hjl) _ _ (Ht.out.all _ (by show _ ≤ wr.heap.size; omega)) Hfj.out).mono ?_; rintro e w1 ⟨u, rfl, hnew, hb1⟩; obtain ⟨A1, cap1, rfl, -⟩ := hnew.form
             have hblk0'' := hb1.heap id Hblk0.out
             have hblk1'' := hb1.heap id Hblk1.out
             have hblk2'' := hb1.heap id Hblk2.out
             have c3' := (blk4 hblk2'').2.2.2
             have hown1 := own_but hown ((But.refl Nil wr).drew.trans_nil hb1) (fun _ _ => id)
             have hw1 : wr.heap.size ≤ w1.heap.size := hb1.size
             have hlq : w.heap.size + 1 + 1 < w1.heap.size := by omega))
      all_goals
        have R := arg_step Hown.out Hxs.out ((But.refl Nil wr).drew.trans_nil hb1) (by omega) hnew hown2 hgrow hat hblk2'' (by omega)
        have hbz := (hbut.drew.trans_nil hb1).trans R.2.2 fun i hi _ => .inr (by rcases hi with h | h <;> omega)
        have hS : ∀ k, k < w.heap.size + 2 → ¬ (k = w.heap.size + 1 + 1 ∨ w.heap.size + 3 ≤ k) := fun k hk => by omega
        have hf0 := R.2.2.heap (hS _ (by omega)) hblk0''
        have hf1 := R.2.2.heap (hS _ (by omega)) hblk1''
        have Hf0 := Lib.hid hf0
        have Hf1 := Lib.hid hf1
        have HR := Lib.hid R
        clear R hf0 hf1 hblk0'' hblk1'' hblk2'' hown2 hgrow hat hown1 hown hnew hb1 hb2
        go_wp2_with fail
        go_roundw
        case rel => exact ⟨j + 1, _, _, by omega, by go_num, Hf0.out, Hf1.out, HR.out.1, HR.out.2.1, by simp [Htl.out], by rw [List.append_assoc, List.singleton_append, ← List.drop_eq_getElem_cons hjl]; exact Hts.out, hbz⟩
        case measure => simp [intOf]; omega
    · obtain ⟨A', cap', rfl, hc1, hc2, hargs⟩ := hrow.args
      obtain ⟨-, -, -, x3⟩ := blk4 hblk0
      obtain ⟨p0, p1, p2, p3⟩ := blk4 hblk2
      obtain ⟨q0, q1, q2, q3⟩ := blk4 hblk1
      have f0 := frz hblk1
      have hlt1 := lt_of_heap hblk1
      have Hset := Lib.hid (set4 (a' := .int .i64 k) (b' := .int .i64 n) (c' := .string nm) (d' := .slice A' ts.length cap') hblk1)
      clear hblk0 hblk1 hblk2
      go_wp2_with fail
      obtain ⟨r0, r1, r2, r3⟩ := blk4 Hset.out
      refine bodyPost_ret (v := .agg #[.int .i64 k, .int .i64 n, .string nm, .slice A' ts.length cap']) (by simp [results, Try.results69, go_sem, r0, r1, r2, r3]) rfl ?_
      have hb4 := (But.refl (· = w.heap.size + 1) wr).set4 (.inl rfl) (.int .i64 k) (.int .i64 n) (.string nm) (.slice A' ts.length cap')
      have e1 := Hts.out
      rw [List.drop_eq_nil_of_le (by omega), List.append_nil] at e1
      refine ⟨_, rfl, ?_, hbut.trans hb4 fun i hi _ => .inr (by subst hi; omega)⟩
      rw [← e1]
      unfold TmNew TmIn
      exact ⟨A', ts.length, cap', rfl, hwf1, hwf2, h3, rfl, hc1, by have := Htl.out; omega, hc2, ArgsIn.keeps (fun k _ hk hd => ⟨hb4.heap (fun e => by have := hd.1; omega) hk, by have := hd.1; omega, hd.2.but hb4 (fun e => by have := hd.1; omega)⟩) hargs⟩

end Go.Proofs.Ytloekfnlidclcaa

namespace Go.Proofs.Ytloekfnlidclcaa
open Go.RowKit Go.Maps
set_option linter.unusedVariables false

theorem var_node {n : Int} {nm : ByteArray} {l : List Tm} (h : nodeB (.mk 0 n nm l) = true) : 0 ≤ n ∧ n ≤ 1099511627776 ∧ nm = ⟨#[]⟩ ∧ l = [] := by
  have h1 := var_args (t := .mk 0 n nm l) rfl h
  have h2 := var_bd (t := .mk 0 n nm l) rfl h
  simp [nodeB] at h
  refine ⟨h2.1, h2.2, ?_, h1⟩
  have h3 := h.1.2
  rw [ByteArray.toList_eq] at h3
  cases nm with
  | mk d => simp at h3; rw [h3]

end Go.Proofs.Ytloekfnlidclcaa

namespace Go.Proofs.Ytloekfnlidclcaa
open Go.RowKit Go.Maps
set_option linter.unusedVariables false

/-- The place of a number in a list, or -1. -/
def posI (l : List Int) (n : Int) : Int := if n ∈ l then (l.idxOf n : Nat) else -1

theorem posI_bd (l : List Int) (n : Int) : -1 ≤ posI l n ∧ posI l n ≤ l.length := by
  unfold posI
  have := List.idxOf_le_length (a := n) (l := l)
  split <;> omega

theorem idx_at {l : List Int} {n : Int} : ∀ {j : Nat} (hj : j < l.length), l[j] = n → (∀ q (hq : q < l.length), q < j → l[q] ≠ n) → l.idxOf n = j := by
  induction l with
  | nil => intro j hj; simp at hj
  | cons x l ih =>
    intro j hj he hno
    rcases j with _ | j
    · simp at he
      simp [he]
    · have hx : ¬ x = n := hno 0 (by simp) (by omega)
      have := ih (j := j) (by simpa using hj) (by simpa using he) (fun q hq hqj => hno (q + 1) (by simpa using hq) (by omega))
      have hxb : (x == n) = false := by simpa using hx
      rw [List.idxOf_cons, hxb, this]
      rfl

theorem pos_at {l : List Int} {n : Int} {j : Nat} (hj : j < l.length) (he : l[j] = n) (hno : ∀ q (hq : q < l.length), q < j → l[q] ≠ n) : posI l n = j := by
  unfold posI
  rw [if_pos (by rw [← he]; exact List.getElem_mem hj), idx_at hj he hno]

theorem pos_none {l : List Int} {n : Int} (hno : ∀ q (hq : q < l.length), l[q] ≠ n) : posI l n = -1 := by
  unfold posI
  rw [if_neg]
  intro h
  obtain ⟨q, hq, he⟩ := List.getElem_of_mem h
  exact hno q hq he

end Go.Proofs.Ytloekfnlidclcaa

namespace Go.Proofs.Ytloekfnlidclcaa
open Go.RowKit Go.Maps
set_option linter.unusedVariables false

def numG (vs : List Int) : Unit → Tm → Unit × Tm := fun _ t => ((), .mk 0 (posI vs t.num) ⟨#[]⟩ [])

end Go.Proofs.Ytloekfnlidclcaa

namespace Go.Proofs.Ytloekfnlidclcaa
open Go.RowKit
set_option linter.unusedVariables false

/-- What a term's reader answers. -/
abbrev Says2 (f : FuncId) (b : Tm → Tm → Bool) : Prop := ∀ (t u : Tm) (w : World) (y z : Value), TmAt w w.heap.size t y → TmAt w w.heap.size u z → Calls Try.prog f #[y, z] w fun e w' => e = .returned (.bool (b t u)) ∧ But Nil w w'

theorem rsame_any : Says2 63 sameT := by
  intro t u w y z hy hz
  letI : Env := { T := fun n => match n with | 0 => t | _ => u }
  have ents : ∀ b c d, validT t = b → validT u = c → eqT t u = d → Entries [(23, [.tok 0], .val (.bool b)), (23, [.tok 1], .val (.bool c)), (83, [.tok 0, .tok 1], .val (.bool d))] := fun b c d hb hc hd =>
    ⟨ent_tv (fun _ _ => by kernel_rfl) fun w y h => hb ▸ rvalid_any t w y h, ent_tv (fun _ _ => by kernel_rfl) fun w y h => hc ▸ rvalid_any u w y h, ent_ttv (fun _ _ => by kernel_rfl) fun w y z h h' => hd ▸ rident_any t u w y z h h', trivial⟩
  have run : ∀ b c d, validT t = b → validT u = c → eqT t u = d → Entry 63 [.tok 0, .tok 1] (.val (.bool (b && c && d))) := fun b c d hb hc hd => by
    cases b <;> cases c <;> cases d <;>
      exact entry_code (tbl_ok (ents _ _ _ hb hc hd)) [.tok 0, .tok 1] Try.func63 rfl (fun _ _ => by kernel_rfl) (by kernel_rfl) (by kernel_rfl) rfl rfl (by simp [Try.ntmps63])
  exact (run _ _ _ rfl rfl rfl).val (vs := [y, z]) ⟨hy.fr, hz.fr, trivial⟩

end Go.Proofs.Ytloekfnlidclcaa

namespace Go.Proofs.Ytloekfnlidclcaa
open Go.RowKit Go.Maps
set_option linter.unusedVariables false

end Go.Proofs.Ytloekfnlidclcaa

namespace Go.Proofs.Ytloekfnlidclcaa
open Go.RowKit
set_option linter.unusedVariables false

/-- A function that makes a term of a term. -/
structure ConT (f : FuncId) (t u : Tm) : Prop where
  enter : ∀ args w, (callFunc f args).run Try.prog w = .ok (.enter f args) w
  call : ∀ (p : Nat → Option Nat) w v, TmIn w (Fr p) t v → Calls Try.prog f #[v] w fun e w' => ∃ x p', e = .returned x ∧ Ext p w p' w' ∧ TmIn w' (Fr p') u x

theorem Entry.con [Env] {f : FuncId} {n k : Nat} (h : Entry f [.tok n] (.tok k)) : ConT f (Env.T n) (Env.T k) := ⟨h.enter, fun p w v hv => h.call p w [v] ⟨hv, trivial⟩⟩
theorem Entry.conT [Env] {f : FuncId} {n : Nat} {u : Tm} (h : Entry f [.tok n] (.term u)) : ConT f (Env.T n) u := ⟨h.enter, fun p w v hv => h.call p w [v] ⟨hv, trivial⟩⟩
theorem ConT.ent [Env] {f : FuncId} {n k : Nat} (h : ConT f (Env.T n) (Env.T k)) : Entry f [.tok n] (.tok k) := ⟨h.enter, fun p w vs hv => by
  match vs, hv with
  | [v], ⟨h1, _⟩ => exact h.call p w v h1⟩

theorem rclone_con (t : Tm) : ConT 26 t (cloneT t) := by
  letI : Env := { T := fun _ => t }
  cases hb : validT t with
  | false =>
    have h : Entry 26 [.tok 0] (.term zeroT) :=
      entry_code (tbl_ok (T := [(23, [.tok 0], .val (.bool false))]) ⟨ent_tv (fun _ _ => by kernel_rfl) fun w y h => hb ▸ rvalid_any t w y h, trivial⟩) [.tok 0] Try.func26 rfl (fun _ _ => by kernel_rfl) (by kernel_rfl) (by kernel_rfl) rfl rfl (by simp [Try.ntmps26])
    have h2 : ConT 26 t zeroT := h.conT
    rw [show cloneT t = zeroT by simp [cloneT, hb]]
    exact h2
  | true =>
    have h : Entry 26 [.tok 0] (.tok 0) :=
      entry_code (tbl_ok (T := [(23, [.tok 0], .val (.bool true)), (69, [.tok 0], .tok 0)]) ⟨ent_tv (fun _ _ => by kernel_rfl) fun w y h => hb ▸ rvalid_any t w y h, ent_tt (fun _ _ => by kernel_rfl) fun w y h => copied_any t w y h (valid_fits hb), trivial⟩) [.tok 0] Try.func26 rfl (fun _ _ => by kernel_rfl) (by kernel_rfl) (by kernel_rfl) rfl rfl (by simp [Try.ntmps26])
    have h2 : ConT 26 t t := h.con
    rw [show cloneT t = t by simp [cloneT, hb]]
    exact h2

theorem rvalidc_con (t : Tm) : ConT 64 t (cloneT t) := by
  letI : Env := { T := fun n => match n with | 0 => t | _ => cloneT t }
  have h : Entry 64 [.tok 0] (.tok 1) :=
    entry_code (tbl_ok (T := [(26, [.tok 0], .tok 1)]) ⟨ConT.ent (rclone_con t), trivial⟩) [.tok 0] Try.func64 rfl (fun _ _ => by kernel_rfl) (by kernel_rfl) (by kernel_rfl) rfl rfl (by simp [Try.ntmps64])
  exact h.con

theorem addV_mem (l : List Int) (n : Int) : n ∈ addV l n := by
  unfold addV
  split
  · assumption
  · simp

theorem addV_ext (l : List Int) (n : Int) : ∃ r, addV l n = l ++ r := by
  unfold addV
  split
  · exact ⟨[], by simp⟩
  · exact ⟨[n], rfl⟩

theorem vars_ext (t : Tm) : ∀ s, ∃ r, (appT varG s t).1 = s ++ r := by
  induction t using Tm.ind with
  | h k n nm ts ih =>
    intro s
    unfold appT
    by_cases hk : k = 0
    · rw [if_pos hk]
      exact addV_ext s n
    · rw [if_neg hk]
      have aux : ∀ (l : List Tm), (∀ a ∈ l, ∀ s, ∃ r, (appT varG s a).1 = s ++ r) → ∀ s, ∃ r, (appL varG s l).1 = s ++ r := by
        intro l
        induction l with
        | nil => intro _ s; exact ⟨[], by simp [appL]⟩
        | cons a l ihl =>
          intro h s
          obtain ⟨r1, h1⟩ := h a (List.mem_cons_self) s
          obtain ⟨r2, h2⟩ := ihl (fun b hb => h b (List.mem_cons_of_mem _ hb)) (appT varG s a).1
          exact ⟨r1 ++ r2, by simp only [appL]; rw [h2, h1, List.append_assoc]⟩
      exact aux ts ih s

theorem idx_ext {l r : List Int} {n : Int} (h : n ∈ l) : (l ++ r).idxOf n = l.idxOf n := by
  rw [List.idxOf_append, if_pos h]

/-- The canonical form is the numbering by the list of all variables. -/
theorem can_num (L : List Int) (t : Tm) : ∀ s, (∃ r, L = (appT varG s t).1 ++ r) → (appT canG s t).1 = (appT varG s t).1 ∧ (appT canG s t).2 = (appT (numG L) () t).2 := by
  induction t using Tm.ind with
  | h k n nm ts ih =>
    intro s hL
    by_cases hk : k = 0
    · subst hk
      obtain ⟨r, hr⟩ := hL
      simp only [appT, if_true, varG, Tm.num] at hr
      simp only [appT, if_true, canG, varG, numG, Tm.num, true_and]
      have hm : n ∈ addV s n := addV_mem s n
      have : posI L n = ((addV s n).idxOf n : Nat) := by
        unfold posI
        rw [if_pos (by rw [hr]; exact List.mem_append_left _ hm), hr, idx_ext hm]
      rw [this]
    · have aux : ∀ (l : List Tm), (∀ a ∈ l, ∀ s, (∃ r, L = (appT varG s a).1 ++ r) → (appT canG s a).1 = (appT varG s a).1 ∧ (appT canG s a).2 = (appT (numG L) () a).2) → ∀ s, (∃ r, L = (appL varG s l).1 ++ r) →
          (appL canG s l).1 = (appL varG s l).1 ∧ (appL canG s l).2 = (appL (numG L) () l).2 := by
        intro l
        induction l with
        | nil => intro _ s _; simp [appL]
        | cons a l ihl =>
          intro h s hL
          simp only [appL] at hL ⊢
          have hL1 : ∃ r, L = (appT varG s a).1 ++ r := by
            obtain ⟨r, hr⟩ := hL
            have ext : ∀ (l : List Tm) s, ∃ r, (appL varG s l).1 = s ++ r := fun l => by
              induction l with
              | nil => intro s; exact ⟨[], by simp [appL]⟩
              | cons b l ihb =>
                intro s
                obtain ⟨r1, h1⟩ := vars_ext b s
                obtain ⟨r2, h2⟩ := ihb (appT varG s b).1
                exact ⟨r1 ++ r2, by simp only [appL]; rw [h2, h1, List.append_assoc]⟩
            obtain ⟨r2, h2⟩ := ext l (appT varG s a).1
            exact ⟨r2 ++ r, by rw [hr, h2, List.append_assoc]⟩
          obtain ⟨h1, h2⟩ := h a (List.mem_cons_self) s hL1
          obtain ⟨h3, h4⟩ := ihl (fun b hb => h b (List.mem_cons_of_mem _ hb)) (appT varG s a).1 hL
          rw [h1]
          exact ⟨h3, by rw [h2, h4]⟩
      simp only [appT, if_neg hk] at hL ⊢
      obtain ⟨h1, h2⟩ := aux ts ih s hL
      exact ⟨h1, by rw [h2]⟩

end Go.Proofs.Ytloekfnlidclcaa

namespace Go.Proofs.Ytloekfnlidclcaa
open Go.RowKit Go.Maps
set_option linter.unusedVariables false

theorem list_eq_of {l l' : List Int} (hl : l.length = l'.length) (h : ∀ q (h1 : q < l.length) (h2 : q < l'.length), l[q] = l'[q]) : l = l' := List.ext_getElem hl fun q h1 h2 => h q h1 h2

/-- A function that makes a list of numbers of a term. -/
structure ConI (f : FuncId) (t : Tm) (l : List Int) : Prop where
  enter : ∀ args w, (callFunc f args).run Try.prog w = .ok (.enter f args) w
  call : ∀ (p : Nat → Option Nat) w v, TmIn w (Fr p) t v → Calls Try.prog f #[v] w fun e w' => ∃ A cap p', e = .returned (.slice A l.length cap) ∧ Ext p w p' w' ∧ l.length ≤ cap ∧ cap ≤ maxLen ∧ l.length ≤ 1099511627777 ∧ IntsIn w' (Fr p') A l

theorem ConI.ent [Env] {f : FuncId} {n k : Nat} (h : ConI f (Env.T n) (Env.L k)) : Entry f [.tok n] (.itok k) := ⟨h.enter, fun p w vs hv => by
  match vs, hv with
  | [v], ⟨h1, _⟩ =>
    refine (h.call p w v h1).mono ?_
    rintro e w' ⟨A, cap, p', rfl, hx, h2, h3, h4, h5⟩
    exact ⟨_, p', rfl, hx, A, cap, rfl, h2, h3, h4, h5⟩⟩

end Go.Proofs.Ytloekfnlidclcaa

namespace Go.Proofs.Ytloekfnlidclcaa
open Go.RowKit Go.Maps
set_option linter.unusedVariables false

abbrev put4 (w : World) (g : Nat) (t : Tm) (A : Option Addr) (cap : Nat) : World :=
  (((w.setCell ⟨g, 0, none⟩ (.int .i64 t.kind)).setCell ⟨g, 1, none⟩ (.int .i64 t.num)).setCell ⟨g, 2, none⟩ (.string t.name)).setCell ⟨g, 3, none⟩ (.slice A t.args.length cap)

/-- The pins without block g. -/
def unpin (p : Nat → Option Nat) (g : Nat) : Nat → Option Nat := fun b => if b = g then none else p b

/-- A term made into the result's cell. -/
theorem made {f : FuncId} {t u : Tm} (hT : ConT f t u) (p : Nat → Option Nat) {p2 : Nat → Option Nat} {w w0 : World} {v : Value} {g : Nat} (hg : w.heap[g]? = some (TB zeroT none 0)) (hx : Ext p w0 p2 w) (hgw : w0.heap.size ≤ g) (hv : TmIn w (fun b => p2 b = none ∧ b ≠ g) t v) :
    Calls Try.prog f #[v] w fun e w1 => ∃ A cap, e = .returned (VT u A cap) ∧ w1.heap[g]? = some (TB zeroT none 0) ∧ ∃ p', Ext p w0 p' (put4 w1 g u A cap) ∧ TmIn (put4 w1 g u A cap) (Fr p') u (VT u A cap) := by
  have hv' : TmIn w (Fr fun b => if b = g then some 0 else p2 b) t v := TmIn.keeps (fun k o hk hd => ⟨hk, by show (if k = g then some 0 else p2 k) = none; rw [if_neg hd.2]; exact hd.1⟩) _ hv
  refine (hT.call _ w v hv').mono ?_
  rintro e w1 ⟨x, p1, rfl, hx1, hu⟩
  obtain ⟨A, cap, rfl, -⟩ := hu.form
  have hgl := lt_of_heap hg
  have hp1 : p1 g = some 0 := by rw [hx1.pin g hgl, if_pos rfl]
  have hb := (But.refl (· = g) w1).set4 (k := g) (.inl rfl) (.int .i64 u.kind) (.int .i64 u.num) (.string u.name) (.slice A u.args.length cap)
  refine ⟨A, cap, rfl, hx1.but.heap id hg, unpin p1 g, ⟨(hx.but.trans_nil hx1.but).trans hb fun i hi _ => .inr (by subst hi; exact hgw), fun b hb' => ?_⟩, ?_⟩
  · have h1 := hx.but.size
    have hbg : b ≠ g := by omega
    unfold unpin
    rw [if_neg hbg, hx1.pin b (by omega), if_neg hbg]
    exact hx.pin b hb'
  · refine TmIn.keeps (fun k o hk hd => ?_) _ hu
    have hkg : k ≠ g := fun e => by rw [e] at hd; simp only [Fr] at hd; rw [hp1] at hd; cases hd
    exact ⟨hb.heap hkg hk, by show unpin p1 g k = none; unfold unpin; rw [if_neg hkg]; exact hd⟩

/-- A function that makes a term of values. -/
def MakesT (f : FuncId) (args : Array Value) (p : Nat → Option Nat) (w : World) (u : Tm) : Prop :=
  Calls Try.prog f args w fun e w' => ∃ x p', e = .returned x ∧ Ext p w p' w' ∧ TmIn w' (Fr p') u x

/-- A contract of a maker, where its cell is made. -/
theorem made' {f : FuncId} {args : Array Value} {u : Tm} (hM : ∀ (p : Nat → Option Nat) (w : World), MakesT f args p w u) (p : Nat → Option Nat) {w w0 : World} {g : Nat} (hg : w.heap[g]? = some (TB zeroT none 0)) (hx : Ext p w0 p w) (hgw : w0.heap.size ≤ g) :
    Calls Try.prog f args w fun e w1 => ∃ A cap, e = .returned (VT u A cap) ∧ w1.heap[g]? = some (TB zeroT none 0) ∧ ∃ p', Ext p w0 p' (put4 w1 g u A cap) ∧ TmIn (put4 w1 g u A cap) (Fr p') u (VT u A cap) := by
  refine (hM (fun b => if b = g then some 0 else p b) w).mono ?_
  rintro e w1 ⟨x, p1, rfl, hx1, hu⟩
  obtain ⟨A, cap, rfl, -⟩ := hu.form
  have hgl := lt_of_heap hg
  have hp1 : p1 g = some 0 := by rw [hx1.pin g hgl, if_pos rfl]
  have hb := (But.refl (· = g) w1).set4 (k := g) (.inl rfl) (.int .i64 u.kind) (.int .i64 u.num) (.string u.name) (.slice A u.args.length cap)
  refine ⟨A, cap, rfl, hx1.but.heap id hg, unpin p1 g, ⟨(hx.but.trans_nil hx1.but).trans hb fun i hi _ => .inr (by subst hi; exact hgw), fun b hb' => ?_⟩, ?_⟩
  · have h1 := hx.but.size
    have hbg : b ≠ g := by omega
    unfold unpin
    rw [if_neg hbg, hx1.pin b (by omega), if_neg hbg]
  · refine TmIn.keeps (fun k o hk hd => ?_) _ hu
    have hkg : k ≠ g := fun e => by rw [e] at hd; simp only [Fr] at hd; rw [hp1] at hd; cases hd
    exact ⟨hb.heap hkg hk, by show unpin p1 g k = none; unfold unpin; rw [if_neg hkg]; exact hd⟩

end Go.Proofs.Ytloekfnlidclcaa

namespace Go.Proofs.Ytloekfnlidclcaa
open Go.RowKit Go.Maps
set_option linter.unusedVariables false

/-- What the reference makes. -/
def rindT (s : ByteArray) (n : Int) : Tm := if 0 ≤ n ∧ n ≤ 8 then cloneT (.mk 3 0 ⟨#[47]⟩ [.mk 2 0 s [], .mk 1 n ⟨#[]⟩ []]) else zeroT

end Go.Proofs.Ytloekfnlidclcaa

namespace Go.Proofs.Ytloekfnlidclcaa
open Go.RowKit
set_option linter.unusedVariables false

theorem same_self {t : Tm} (h : validT t = true) : sameT t t = true := by simp [sameT, h, eqT_refl]

theorem zero_valid : validT zeroT = true := by simp [zeroT, validT, fitsT, fitsL, nodeB, sizeT, leftT, leftL]

theorem clone_valid (t : Tm) : validT (cloneT t) = true := by
  unfold cloneT
  split
  · assumption
  · exact zero_valid

theorem same_clone (t : Tm) : sameT (cloneT t) (cloneT t) = true := same_self (clone_valid t)

theorem var_clone (n : Int) : varT n = cloneT (.mk 0 n ⟨#[]⟩ []) := by
  unfold varT cloneT numB
  have h : validT (.mk 0 n ⟨#[]⟩ []) = (decide (0 ≤ n) && decide (n ≤ 1099511627776)) := by
    simp [validT, fitsT, fitsL, nodeB, sizeT, leftT, leftL]
  rw [h]

theorem int_valid (n : Int) : validT (intT n) = true := by simp [intT, validT, fitsT, fitsL, nodeB, sizeT, leftT, leftL]

theorem atom_valid (s : ByteArray) : validT (atomT s) = true := clone_valid _
theorem struct_valid (s : ByteArray) (l : List Tm) : validT (structT s l) = true := by
  unfold structT
  split
  · exact clone_valid _
  · exact clone_valid _

theorem ind_rind (s : ByteArray) (n : Int) : indT s n = rindT s n := by
  unfold indT rindT indOk
  by_cases hn : 0 ≤ n ∧ n ≤ 8
  · rw [if_pos hn]
    by_cases hs : (s.size : Int) ≤ 100
    · rw [if_pos (by simp [hn, hs])]
      have : atomT s = .mk 2 0 s [] := by
        unfold atomT cloneT
        rw [if_pos (by simp [validT, fitsT, fitsL, nodeB, sizeT, leftT, leftL, hs])]
      rw [this]
      rfl
    · rw [if_neg (by simp [hn, hs])]
      unfold cloneT
      rw [if_neg]
      simp [validT, fitsT, fitsL, nodeB, hs]
  · rw [if_neg hn, if_neg]
    intro h
    simp only [Bool.and_eq_true, decide_eq_true_eq] at h
    exact hn h.2

theorem rind_valid (s : ByteArray) (n : Int) : validT (rindT s n) = true := by
  unfold rindT
  split
  · exact clone_valid _
  · exact zero_valid

section
variable [Env]

/-- A function that makes a numbered term of knowns. -/
theorem ent_mk {f : FuncId} {l : List Ab} {k : Nat} (hen : ∀ args w, (callFunc f args).run Try.prog w = .ok (.enter f args) w) (h : ∀ p w vs, Args p w l vs → MakesT f vs.toArray p w (Env.T k)) : Entry f l (.tok k) := ⟨hen, h⟩

omit [Env] in
theorem makes_new {f : FuncId} {args : Array Value} {p : Nat → Option Nat} {w : World} {u : Tm} (h : Calls Try.prog f args w fun e w' => ∃ x, e = .returned x ∧ TmNew w' w.heap.size u x ∧ But Nil w w') : MakesT f args p w u :=
  h.mono fun _ _ ⟨x, he, ht, hb⟩ => ⟨x, pin0 p w, he, Ext.plain hb, ht.pins⟩
end

end Go.Proofs.Ytloekfnlidclcaa

namespace Go.Proofs.Ytloekfnlidclcaa
open Go.RowKit
set_option linter.unusedVariables false

/-- The variable number n. -/
abbrev V (n : Int) : Tm := .mk 0 n ⟨#[]⟩ []

mutual
def substT (f : Int → Tm) : Tm → Tm
  | .mk k n s l => if k = 0 then f n else .mk k n s (substL f l)
def substL (f : Int → Tm) : List Tm → List Tm
  | [] => []
  | t :: l => substT f t :: substL f l
end
mutual
def occT : Tm → List Int
  | .mk k n _ l => if k = 0 then [n] else occL l
def occL : List Tm → List Int
  | [] => []
  | t :: l => occT t ++ occL l
end

theorem fits_cons {t : Tm} {l : List Tm} : fitsL (t :: l) = true ↔ fitsT t = true ∧ fitsL l = true := by simp [fitsL]
theorem fits_mk {k n : Int} {s : ByteArray} {l : List Tm} : fitsT (.mk k n s l) = true ↔ nodeB (.mk k n s l) = true ∧ fitsL l = true := by simp [fitsT]

theorem substL_len (f : Int → Tm) : ∀ l : List Tm, (substL f l).length = l.length
  | [] => rfl
  | t :: l => by simp [substL, substL_len f l]

/-- An induction on a term and the rows of its arguments. -/
theorem ind2 {P : Tm → Prop} {PL : List Tm → Prop} (h0 : PL []) (h1 : ∀ t l, P t → PL l → PL (t :: l)) (h2 : ∀ k n s l, PL l → P (.mk k n s l)) (t : Tm) : P t :=
  Tm.rec (motive_1 := P) (motive_2 := PL) h2 h0 h1 t

theorem appT_sub {g : Unit → Tm → Unit × Tm} {f : Int → Tm} (hg : ∀ n nm l, nodeB (.mk 0 n nm l) = true → (g () (.mk 0 n nm l)).2 = f n) (t : Tm) : fitsT t = true → (appT g () t).2 = substT f t :=
  ind2 (P := fun t => fitsT t = true → (appT g () t).2 = substT f t) (PL := fun l => fitsL l = true → (appL g () l).2 = substL f l) (fun _ => by simp [appL, substL])
    (fun t l h1 h2 h => by
      rw [fits_cons] at h
      simp only [appL, substL]
      rw [h1 h.1]
      exact congrArg _ (h2 h.2))
    (fun k n s l hl h => by
      rw [fits_mk] at h
      simp only [appT, substT]
      by_cases hk : k = 0
      · subst hk
        rw [if_pos rfl, if_pos rfl]
        exact hg n s l h.1
      · rw [if_neg hk, if_neg hk, hl h.2]) t

theorem node_len {k n : Int} {s : ByteArray} {l l' : List Tm} (h : l.length = l'.length) : nodeB (.mk k n s l) = nodeB (.mk k n s l') := by simp [nodeB, h]

theorem fits_sub {f : Int → Tm} (t : Tm) : fitsT t = true → (∀ n ∈ occT t, fitsT (f n) = true) → fitsT (substT f t) = true :=
  ind2 (P := fun t => fitsT t = true → (∀ n ∈ occT t, fitsT (f n) = true) → fitsT (substT f t) = true) (PL := fun l => fitsL l = true → (∀ n ∈ occL l, fitsT (f n) = true) → fitsL (substL f l) = true)
    (fun _ _ => by simp [fitsL, substL])
    (fun t l h1 h2 h hf => by
      rw [fits_cons] at h
      simp only [occL, List.mem_append] at hf
      simp only [substL]
      rw [fits_cons]
      exact ⟨h1 h.1 fun n hn => hf n (.inl hn), h2 h.2 fun n hn => hf n (.inr hn)⟩)
    (fun k n s l hl h hf => by
      rw [fits_mk] at h
      simp only [occT] at hf
      simp only [substT]
      by_cases hk : k = 0
      · rw [if_pos hk] at hf ⊢
        exact hf n (by simp)
      · rw [if_neg hk] at hf ⊢
        rw [fits_mk, node_len (substL_len f l)]
        exact ⟨h.1, hl h.2 hf⟩) t

def sumL (f : Int → Int) : List Int → Int
  | [] => 0
  | n :: l => f n + sumL f l

theorem sumL_append (f : Int → Int) : ∀ l m : List Int, sumL f (l ++ m) = sumL f l + sumL f m
  | [], m => by simp [sumL]
  | n :: l, m => by simp only [List.cons_append, sumL, sumL_append f l m]; omega

theorem var_leaf {k n : Int} {s : ByteArray} {l : List Tm} (hk : k = 0) (h : nodeB (.mk k n s l) = true) : l = [] := var_args (t := .mk k n s l) hk h

theorem nodes_sub {f : Int → Tm} (t : Tm) : fitsT t = true → (nodesT (substT f t) : Int) = nodesT t + sumL (fun n => nodesT (f n) - 1) (occT t) :=
  ind2 (P := fun t => fitsT t = true → (nodesT (substT f t) : Int) = nodesT t + sumL (fun n => nodesT (f n) - 1) (occT t)) (PL := fun l => fitsL l = true → (nodesL (substL f l) : Int) = nodesL l + sumL (fun n => nodesT (f n) - 1) (occL l))
    (fun _ => by simp [nodesL, substL, occL, sumL])
    (fun t l h1 h2 h => by
      rw [fits_cons] at h
      have e1 := h1 h.1
      have e2 := h2 h.2
      simp only [substL, nodesL, occL, sumL_append]
      push_cast
      omega)
    (fun k n s l hl h => by
      rw [fits_mk] at h
      simp only [substT, occT]
      by_cases hk : k = 0
      · rw [if_pos hk, if_pos hk]
        have : l = [] := var_leaf hk h.1
        subst this
        simp only [nodesT, nodesL, sumL]
        omega
      · rw [if_neg hk, if_neg hk]
        have := hl h.2
        simp only [nodesT]
        push_cast
        omega) t

theorem occ_sub {f : Int → Tm} (t : Tm) : occT (substT f t) = (occT t).flatMap fun n => occT (f n) :=
  ind2 (P := fun t => occT (substT f t) = (occT t).flatMap fun n => occT (f n)) (PL := fun l => occL (substL f l) = (occL l).flatMap fun n => occT (f n))
    (by simp [substL, occL])
    (fun t l h1 h2 => by simp only [substL, occL, List.flatMap_append, h1, h2])
    (fun k n s l hl => by
      simp only [substT, occT]
      by_cases hk : k = 0
      · rw [if_pos hk, if_pos hk]; simp
      · rw [if_neg hk, if_neg hk]
        simp only [occT, if_neg hk]
        exact hl) t

theorem occ_len (t : Tm) : (occT t).length ≤ nodesT t :=
  ind2 (P := fun t => (occT t).length ≤ nodesT t) (PL := fun l => (occL l).length ≤ nodesL l) (by simp [occL])
    (fun t l h1 h2 => by simp only [occL, nodesL, List.length_append]; omega)
    (fun k n s l hl => by
      simp only [occT, nodesT]
      split
      · simp
      · omega) t

theorem occ_bd (t : Tm) : fitsT t = true → ∀ n ∈ occT t, 0 ≤ n ∧ n ≤ 1099511627776 :=
  ind2 (P := fun t => fitsT t = true → ∀ n ∈ occT t, 0 ≤ n ∧ n ≤ 1099511627776) (PL := fun l => fitsL l = true → ∀ n ∈ occL l, 0 ≤ n ∧ n ≤ 1099511627776) (fun _ n hn => by simp [occL] at hn)
    (fun t l h1 h2 h n hn => by
      rw [fits_cons] at h
      simp only [occL, List.mem_append] at hn
      rcases hn with hn | hn
      · exact h1 h.1 n hn
      · exact h2 h.2 n hn)
    (fun k n s l hl h m hm => by
      rw [fits_mk] at h
      simp only [occT] at hm
      by_cases hk : k = 0
      · rw [if_pos hk] at hm
        simp only [List.mem_singleton] at hm
        subst hm
        exact var_bd (t := .mk k m s l) hk h.1
      · rw [if_neg hk] at hm
        exact hl h.2 m hm) t

/-- The list of variables. -/
def addAll : List Int → List Int → List Int := List.foldl addV

theorem addAll_append (s l m : List Int) : addAll s (l ++ m) = addAll (addAll s l) m := List.foldl_append

theorem vars_occ (t : Tm) : ∀ s, (appT varG s t).1 = addAll s (occT t) :=
  ind2 (P := fun t => ∀ s, (appT varG s t).1 = addAll s (occT t)) (PL := fun l => ∀ s, (appL varG s l).1 = addAll s (occL l)) (fun s => by simp [appL, occL, addAll])
    (fun t l h1 h2 s => by simp only [appL, occL, addAll_append, h1, h2])
    (fun k n s l hl s' => by
      simp only [appT, occT]
      by_cases hk : k = 0
      · rw [if_pos hk, if_pos hk]; rfl
      · rw [if_neg hk, if_neg hk]; exact hl s') t

theorem mem_addV {l : List Int} {n m : Int} : m ∈ addV l n ↔ m ∈ l ∨ m = n := by
  unfold addV
  split
  · rename_i h
    constructor
    · exact .inl
    · rintro (h1 | rfl)
      · exact h1
      · exact h
  · simp

theorem mem_addAll {m : Int} : ∀ {l s : List Int}, m ∈ addAll s l ↔ m ∈ s ∨ m ∈ l
  | [], s => by simp [addAll]
  | n :: l, s => by
    show m ∈ addAll (addV s n) l ↔ _
    rw [mem_addAll, mem_addV]
    simp only [List.mem_cons]
    constructor
    · rintro ((h | h) | h)
      · exact .inl h
      · exact .inr (.inl h)
      · exact .inr (.inr h)
    · rintro (h | h | h)
      · exact .inl (.inl h)
      · exact .inl (.inr h)
      · exact .inr h

theorem addAll_len : ∀ {l s : List Int}, (addAll s l).length ≤ s.length + l.length
  | [], s => by simp [addAll]
  | n :: l, s => by
    show (addAll (addV s n) l).length ≤ _
    have h1 := addAll_len (l := l) (s := addV s n)
    have h2 : (addV s n).length ≤ s.length + 1 := by unfold addV; split <;> simp
    simp only [List.length_cons]
    omega

theorem mem_vars {t : Tm} {n : Int} (h : validT t = true) : n ∈ varsT t ↔ n ∈ occT t := by
  unfold varsT
  rw [if_pos h, vars_occ, mem_addAll]
  simp

theorem vars_len {t : Tm} (h : validT t = true) : (varsT t).length ≤ 2000 := by
  unfold varsT
  rw [if_pos h, vars_occ]
  have h1 := addAll_len (l := occT t) (s := [])
  have h2 := occ_len t
  have h3 := valid_nodes h
  simp only [List.length_nil] at h1
  omega

theorem vars_bd {t : Tm} (h : validT t = true) {n : Int} (hn : n ∈ varsT t) : 0 ≤ n ∧ n ≤ 1099511627776 := occ_bd t (valid_fits h) n ((mem_vars h).1 hn)

theorem valid_iff {t : Tm} : validT t = true ↔ nodesT t ≤ 2000 ∧ fitsT t = true := by
  constructor
  · intro h; exact ⟨valid_nodes h, valid_fits h⟩
  · rintro ⟨h1, h2⟩
    simp only [validT, Bool.and_eq_true, decide_eq_true_eq]
    have := size_min t
    exact ⟨by omega, h2⟩

theorem V_fits {n : Int} : fitsT (V n) = true ↔ 0 ≤ n ∧ n ≤ 1099511627776 := by simp [fitsT, fitsL, nodeB]

theorem sumL_zero {f : Int → Int} : ∀ {l : List Int}, (∀ n ∈ l, f n = 0) → sumL f l = 0
  | [], _ => rfl
  | n :: l, h => by
    simp only [sumL]
    rw [h n List.mem_cons_self, sumL_zero fun m hm => h m (List.mem_cons_of_mem _ hm)]
    rfl

/-- Variables put in for variables: the number of nodes stands. -/
theorem nodes_ren {ρ : Int → Int} {t : Tm} (h : fitsT t = true) : nodesT (substT (fun n => V (ρ n)) t) = nodesT t := by
  have := nodes_sub (f := fun n => V (ρ n)) t h
  rw [sumL_zero fun n _ => by simp [nodesT, nodesL]] at this
  omega

theorem valid_ren {ρ : Int → Int} {t : Tm} (h : validT t = true) (hr : ∀ n ∈ occT t, 0 ≤ ρ n ∧ ρ n ≤ 1099511627776) : validT (substT (fun n => V (ρ n)) t) = true := by
  rw [valid_iff] at h ⊢
  refine ⟨by rw [nodes_ren h.2]; exact h.1, fits_sub t h.2 fun n hn => V_fits.2 (hr n hn)⟩

theorem ren_sub (m : Int) (t : Tm) (h : fitsT t = true) : (appT (renG m) () t).2 = substT (fun n => V (n + m)) t := appT_sub (fun n nm l _ => rfl) t h

theorem rename_valid (t : Tm) (n : Int) : validT (renameT t n).1 = true := by
  unfold renameT
  split
  · rename_i h
    simp only [Bool.and_eq_true, numB, decide_eq_true_eq] at h
    obtain ⟨hv, h0, h1⟩ := h
    split
    · exact zero_valid
    · rename_i hany
      show validT (appT (renG n) () t).2 = true
      rw [ren_sub n t (valid_fits hv)]
      refine valid_ren hv fun m hm => ?_
      have hb := occ_bd t (valid_fits hv) m hm
      refine ⟨by omega, ?_⟩
      have : ¬ 1099511627776 - n < m := fun hlt => hany (List.any_eq_true.2 ⟨m, (mem_vars hv).2 hm, by simpa using hlt⟩)
      omega
  · exact zero_valid

end Go.Proofs.Ytloekfnlidclcaa

namespace Go.Proofs.Ytloekfnlidclcaa
open Go.RowKit
set_option linter.unusedVariables false

/-- A run from what is known to what is known. -/
def LRunD (z : Nat) (c : Code) (E : Env) (σ : List (Tmp × Ab)) (r : Res) (E' : Env) (σ' : List (Tmp × Ab)) : Prop :=
  ∀ {p0 : Nat → Option Nat} {w0 : World} {ds : List Deferred} {Q : Exit → Act → World → Prop} {p : Nat → Option Nat} {w : World} {a : Act}, Old p0 → Ext p0 w0 p w → a.defers = ds → a.tmps.size = z → @Facts E σ p w a →
    (∀ p' w' a', Ext p0 w0 p' w' → a'.defers = ds → a'.tmps.size = z → @Facts E' σ' p' w' a' → Q r.exit' a' w') → c.wp Try.prog Q a w

structure LRun (z : Nat) (c : Code) (E : Env) (σ : List (Tmp × Ab)) (r : Res) (E' : Env) (σ' : List (Tmp × Ab)) : Prop where
  mk' ::
  go : LRunD z c E σ r E' σ'

def Res.beq : Res → Res → Bool
  | .normal, .normal => true
  | .ret, .ret => true
  | .exit a, .exit b => a == b
  | _, _ => false

theorem Res.beq_ok {a b : Res} (h : Res.beq a b = true) : a = b := by
  unfold Res.beq at h
  split at h <;> simp_all

def runTo [Env] (C : FuncId → List Ab → Option Ab) (z : Nat) (c : Code) (σ : List (Tmp × Ab)) (r : Res) (l : List (Tmp × Ab)) : Bool := match runCode C z c σ with
  | some (r', σ') => Res.beq r' r && wants σ' l
  | none => false

theorem LRun.one {E : Env} {C : FuncId → List Ab → Option Ab} (hC : CallsOk C) {z : Nat} {c : Code} {σ σ' : List (Tmp × Ab)} {r : Res} (h : runCode C z c σ = some (r, σ')) : LRun z c E σ r E σ' :=
  ⟨fun ho hx hd hz hf hk => wp_code hC mixed_ok ho c h hx hd hz hf hk⟩

theorem LRun.code {E : Env} {C : FuncId → List Ab → Option Ab} (hC : CallsOk C) {z : Nat} {c : Code} {σ : List (Tmp × Ab)} {r : Res} (l : List (Tmp × Ab)) (h : runTo C z c σ r l = true) : LRun z c E σ r E l := by
  unfold runTo at h
  split at h
  · rename_i r' σ' hr
    simp only [Bool.and_eq_true] at h
    obtain rfl := Res.beq_ok h.1
    refine ⟨?_⟩
    intro p0 w0 ds Q p w a ho hx hd hz hf hk
    exact wp_code hC mixed_ok ho c hr hx hd hz hf fun p' w' a' h1 h2 h3 h4 => hk p' w' a' h1 h2 h3 fun t x ht => h4 t x (wants_ok h.2 t x ht)
  · cases h

theorem LRun.seq {E E1 E2 : Env} {z : Nat} {x y : Code} {σ σ1 σ2 : List (Tmp × Ab)} {r : Res} (h1 : LRun z x E σ .normal E1 σ1) (h2 : LRun z y E1 σ1 r E2 σ2) : LRun z (x.seq y) E σ r E2 σ2 := by
  refine ⟨?_⟩
  intro p0 w0 ds Q p w a ho hx hd hz hf hk
  exact wp_seq (h1.go ho hx hd hz hf fun p' w' a' hx' hd' hz' hf' => h2.go ho hx' hd' hz' hf' hk)

theorem LRun.out {E E1 : Env} {z : Nat} {x y : Code} {σ σ1 : List (Tmp × Ab)} {r : Res} (h1 : LRun z x E σ r E1 σ1) (hr : r ≠ .normal) : LRun z (x.seq y) E σ r E1 σ1 := by
  refine ⟨?_⟩
  intro p0 w0 ds Q p w a ho hx hd hz hf hk
  refine wp_seq (h1.go ho hx hd hz hf fun p' w' a' hx' hd' hz' hf' => ?_)
  have := hk p' w' a' hx' hd' hz' hf'
  cases r with
  | normal => exact absurd rfl hr
  | ret => exact this
  | exit i => exact this

theorem LRun.block {E E1 : Env} {z : Nat} {x : Code} {id : Nat} {σ σ1 : List (Tmp × Ab)} (h1 : LRun z x E σ (.exit id) E1 σ1) : LRun z (.block id x) E σ .normal E1 σ1 := by
  refine ⟨?_⟩
  intro p0 w0 ds Q p w a ho hx hd hz hf hk
  refine wp_block (h1.go ho hx hd hz hf fun p' w' a' hx' hd' hz' hf' => ?_)
  show Exit.inBlock id Q (.exit id) a' w'
  simp only [Exit.inBlock, if_true]
  exact hk p' w' a' hx' hd' hz' hf'

theorem LRun.block_ret {E E1 : Env} {z : Nat} {x : Code} {id : Nat} {σ σ1 : List (Tmp × Ab)} (h1 : LRun z x E σ .ret E1 σ1) : LRun z (.block id x) E σ .ret E1 σ1 := by
  refine ⟨?_⟩
  intro p0 w0 ds Q p w a ho hx hd hz hf hk
  exact wp_block (h1.go ho hx hd hz hf hk)

theorem LRun.loop {z : Nat} {c : Code} (E : Nat → Env) (σ : Nat → List (Tmp × Ab)) (n : Nat) {r : Res} {E' : Env} {σ' : List (Tmp × Ab)} (hstep : ∀ j, j < n → LRun z c (E j) (σ j) .normal (E (j + 1)) (σ (j + 1))) (hlast : LRun z c (E n) (σ n) r E' σ') (hr : r ≠ .normal) : LRun z c.loop (E 0) (σ 0) r E' σ' := by
  have go : ∀ m j, j + m = n → ∀ {p0 : Nat → Option Nat} {w0 : World} {ds : List Deferred} {Q : Exit → Act → World → Prop} {p : Nat → Option Nat} {w : World} {a : Act}, Old p0 → Ext p0 w0 p w → a.defers = ds → a.tmps.size = z → @Facts (E j) (σ j) p w a →
      (∀ p' w' a', Ext p0 w0 p' w' → a'.defers = ds → a'.tmps.size = z → @Facts E' σ' p' w' a' → Q r.exit' a' w') → Code.rounds Try.prog c Q (m + 1) a w := by
    intro m
    induction m with
    | zero =>
      intro j hj p0 w0 ds Q p w a ho hx hd hz hf hk
      obtain rfl : j = n := by omega
      rw [rounds_succ]
      refine hlast.go ho hx hd hz hf fun p' w' a' hx' hd' hz' hf' => ?_
      have := hk p' w' a' hx' hd' hz' hf'
      cases r with
      | normal => exact absurd rfl hr
      | ret => exact this
      | exit i => exact this
    | succ m ih =>
      intro j hj p0 w0 ds Q p w a ho hx hd hz hf hk
      rw [rounds_succ]
      refine (hstep j (by omega)).go ho hx hd hz hf fun p' w' a' hx' hd' hz' hf' => ?_
      exact ih (j + 1) (by omega) ho hx' hd' hz' hf' hk
  refine ⟨?_⟩
  intro p0 w0 ds Q p w a ho hx hd hz hf hk
  exact wp_loop_rounds (n + 1) (go n 0 (by omega) ho hx hd hz hf hk)

/-- What is known, said in another way. -/
def SubL (E : Env) (σ : List (Tmp × Ab)) (E' : Env) : List (Tmp × Ab) → Prop
  | [] => True
  | (t, y) :: l => (∃ x, lk σ t = some x ∧ ∀ p w v, @Ab.pd E x p w v → @Ab.pd E' y p w v) ∧ SubL E σ E' l

theorem idd {P : Pd} : ∀ p w v, P p w v → P p w v := fun _ _ _ h => h
theorem ide {P P' : Pd} (h : P = P') : ∀ p w v, P p w v → P' p w v := fun _ _ _ h' => h ▸ h'

theorem SubL.facts {E E' : Env} {σ : List (Tmp × Ab)} {p : Nat → Option Nat} {w : World} {a : Act} (hf : @Facts E σ p w a) : ∀ {l : List (Tmp × Ab)}, SubL E σ E' l → @Facts E' l p w a
  | [], _ => fun t x h => by cases h
  | (s, y) :: l, hs => fun t x h => by
    unfold lk at h
    split at h
    · rename_i hst
      simp only [beq_iff_eq] at hst
      subst hst
      injection h with h
      subst h
      obtain ⟨x, h1, h2⟩ := hs.1
      obtain ⟨v, h3, h4⟩ := hf _ _ h1
      exact ⟨v, h3, h2 _ _ _ h4⟩
    · exact SubL.facts hf hs.2 t x h

theorem LRun.post {E E1 E2 : Env} {z : Nat} {c : Code} {σ σ1 σ2 : List (Tmp × Ab)} {r : Res} (h : LRun z c E σ r E1 σ1) (hs : SubL E1 σ1 E2 σ2) : LRun z c E σ r E2 σ2 := by
  refine ⟨?_⟩
  intro p0 w0 ds Q p w a ho hx hd hz hf hk
  exact h.go ho hx hd hz hf fun p' w' a' h1 h2 h3 h4 => hk p' w' a' h1 h2 h3 (SubL.facts h4 hs)

theorem LRun.pre {E E1 E2 : Env} {z : Nat} {c : Code} {σ σ1 σ2 : List (Tmp × Ab)} {r : Res} (hs : SubL E σ E1 σ1) (h : LRun z c E1 σ1 r E2 σ2) : LRun z c E σ r E2 σ2 := by
  refine ⟨?_⟩
  intro p0 w0 ds Q p w a ho hx hd hz hf hk
  exact h.go ho hx hd hz (SubL.facts hf hs) hk

/-- Several parts in a row, then the rest. -/
def runs [Env] (C : FuncId → List Ab → Option Ab) (z : Nat) : List Code → List (Tmp × Ab) → List (Tmp × Ab) → Bool
  | [], σ, l => wants σ l
  | c :: cs, σ, l => match runCode C z c σ with
    | some (.normal, σ') => runs C z cs σ' l
    | _ => false

def inRow : List Code → Code → Code
  | [], k => k
  | c :: cs, k => c.seq (inRow cs k)

theorem LRun.seqs {E' E : Env} {C : FuncId → List Ab → Option Ab} (hC : CallsOk C) {z : Nat} {r : Res} {k : Code} (l : List (Tmp × Ab)) {σ' : List (Tmp × Ab)} : ∀ (cs : List Code) {σ : List (Tmp × Ab)} (h : runs C z cs σ l = true) (hk : LRun z k E l r E' σ'), LRun z (inRow cs k) E σ r E' σ'
  | [], σ, h, hk => ⟨fun ho hx hd hz hf hk' => hk.go ho hx hd hz (fun t x ht => hf t x (wants_ok h t x ht)) hk'⟩
  | c :: cs, σ, h, hk => ⟨fun ho hx hd hz hf hk' => by
    unfold runs at h
    split at h
    · rename_i σ1 h1
      exact wp_seq ((LRun.one hC h1).go ho hx hd hz hf fun p' w' a' hx' hd' hz' hf' => (LRun.seqs hC l cs h hk).go ho hx' hd' hz' hf' hk')
    · cases h⟩

theorem LRun.any {E : Env} {C : FuncId → List Ab → Option Ab} (hC : CallsOk C) {z id : Nat} {ops : Array Oper} {σ : List (Tmp × Ab)} (l : List (Tmp × Ab)) (h : (ops.toList.all (fun o => tlB z [o]) && anyOk C (ops.toList.map (·.dst)) ops l ops.size (Array.replicate ops.size false) σ) = true) : LRun z (.region id ops true) E σ .normal E l := by
  refine ⟨?_⟩
  intro p0 w0 ds Q p w a ho hx hd hz hf hk
  simp only [Bool.and_eq_true] at h
  have hxd : Ext p w p { w with drawn := w.drawn + 1 } := ⟨(But.refl _ _).drew, fun _ _ => rfl⟩
  refine wp_region_any mixed_ok (any_ok hC ho h.1 hk _ _ σ p _ a h.2 (hx.trans hxd) hd hz fun t x ht => ?_)
  obtain ⟨v, h1, h2⟩ := hf t x ht
  exact ⟨v, h1, x.kept _ _ _ _ _ hxd h2⟩

/-- A function, from the run of its body. -/
theorem entry_runs {E : Env} {f : FuncId} {fn : Func} {c : Code} {x : Ab} (xs : List Ab) {r : Res} {σ' : List (Tmp × Ab)} (hf : Try.prog.funcs[f]? = some fn) (hb : fn.body = some c) (hen : ∀ args w, (callFunc f args).run Try.prog w = .ok (.enter f args) w)
    (hr : LRun fn.ntmps c E (idxd 0 xs) r E σ') (hre : r.exit' = .ret ∨ r.exit' = .normal) (hres : resAb σ' fn.results.toList = some x) (hn : (xs.all fun x => !isNew x) = true) (hx : isNew x = false) (hsz : xs.length ≤ fn.ntmps) : @Entry E f xs x := by
  refine @Entry.mk E _ _ _ hen fun p w vs hv => calls_of_wp hf hb ?_
  have hl : vs.length = xs.length := by
    clear hr hn hsz
    induction xs generalizing vs with
    | nil => cases vs with
      | nil => rfl
      | cons _ _ => exact hv.elim
    | cons y ys ih => cases vs with
      | nil => exact hv.elim
      | cons u us => simp [ih us hv.2]
  have ho : Old (older p) := fun b => by unfold older; split <;> simp
  have hv' : @Args E (older p) w xs vs := @Args.free E _ _ _ (fun b _ h => by unfold older; rw [h]) _ _ hn hv
  refine hr.go ho (Ext.refl _ _) rfl (by simp; omega) (fun t y hy => ?_) fun p' w' a' hx' hd hz hfa => ?_
  · obtain ⟨_, u, h3, h4⟩ := idxd_ok hv' t y hy
    refine ⟨u, ?_, h4⟩
    rw [Nat.sub_zero] at h3
    have hlt : t < vs.toArray.size := by simpa using (List.getElem?_eq_some_iff.1 h3).1
    show (vs.toArray ++ _)[t]? = _
    rw [Array.getElem?_append_left hlt]
    simpa using h3
  · obtain ⟨v, h3, h4⟩ := resAb_ok (q := behind p w fun _ => none) hfa (free_pins hx') (own_pins hx') hres
    have hpost : a'.defers = [] ∧ ∃ v, (results fn a'.tmps).run Try.prog w' = .ok v w' ∧ ∃ v' p', (Ending.returned v) = .returned v' ∧ Ext p w p' w' ∧ @Ab.pd E x p' w' v' :=
      ⟨hd, v, h3, v, behind p w fun _ => none, rfl, ⟨hx'.but, fun b hb => by simp [behind, hb]⟩, h4⟩
    rcases hre with he | he <;> rw [he] <;> exact hpost

/-- More facts on the same things. -/
abbrev Env.with (E : Env) (F : List Fact) (ok : AllHold E.T E.I E.L E.R E.S F) : Env := { T := E.T, I := E.I, L := E.L, R := E.R, S := E.S, F := F, ok := ok }

theorem tm_with (E : Env) {F : List Fact} (ok : AllHold E.T E.I E.L E.R E.S F) (x : Ab) : @tmAny (E.with F ok) x = @tmAny E x := by cases x <;> rfl

theorem pd_with (E : Env) {F : List Fact} (ok : AllHold E.T E.I E.L E.R E.S F) (x : Ab) : @Ab.pd (E.with F ok) x = @Ab.pd E x := by
  induction x with
  | pair x y hx hy => unfold Ab.pd; rw [hx, hy]
  | tup3 x y z hx hy hz => unfold Ab.pd; rw [hx, hy, hz]
  | tup4 x y z u hx hy hz hu => unfold Ab.pd; rw [hx, hy, hz, hu]
  | vcell s x hx => unfold Ab.pd; rw [tm_with, hx]
  | _ => rfl

theorem args_with (E : Env) {F : List Fact} (ok : AllHold E.T E.I E.L E.R E.S F) {p : Nat → Option Nat} {w : World} : ∀ {l : List Ab} {vs : List Value}, @Args (E.with F ok) p w l vs → @Args E p w l vs
  | [], [], _ => trivial
  | x :: l, v :: vs, h => ⟨pd_with E ok x ▸ h.1, args_with E ok h.2⟩
  | [], _ :: _, h => h.elim
  | _ :: _, [], h => h.elim

theorem calls_with (E : Env) {F : List Fact} (ok : AllHold E.T E.I E.L E.R E.S F) {C : FuncId → List Ab → Option Ab} (h : @CallsOk E C) : @CallsOk (E.with F ok) C := fun f l x hx =>
  ⟨(h f l x hx).1, fun p w vs hv => ((h f l x hx).2 p w vs (args_with E ok hv)).mono fun e w' ⟨v, p', he, hxx, hp⟩ => ⟨v, p', he, hxx, (pd_with E ok x).symm ▸ hp⟩⟩

theorem facts_with (E : Env) {F : List Fact} (ok : AllHold E.T E.I E.L E.R E.S F) {σ : List (Tmp × Ab)} {p : Nat → Option Nat} {w : World} {a : Act} : @Facts (E.with F ok) σ p w a ↔ @Facts E σ p w a :=
  ⟨fun h t x hx => let ⟨v, h1, h2⟩ := h t x hx; ⟨v, h1, pd_with E ok x ▸ h2⟩, fun h t x hx => let ⟨v, h1, h2⟩ := h t x hx; ⟨v, h1, (pd_with E ok x).symm ▸ h2⟩⟩

theorem entry_eq {E : Env} {f : FuncId} {l : List Ab} {x y : Ab} (h : @Entry E f l x) (he : @Ab.pd E x = @Ab.pd E y) : @Entry E f l y :=
  ⟨h.enter, fun p w vs hv => (h.call p w vs hv).mono fun e w' ⟨v, p', h1, h2, h3⟩ => ⟨v, p', h1, h2, he ▸ h3⟩⟩

theorem entry_imp {E : Env} {f : FuncId} {l : List Ab} {x y : Ab} (h : @Entry E f l x) (he : ∀ p w v, @Ab.pd E x p w v → @Ab.pd E y p w v) : @Entry E f l y :=
  ⟨h.enter, fun p w vs hv => (h.call p w vs hv).mono fun e w' ⟨v, p', h1, h2, h3⟩ => ⟨v, p', h1, h2, he _ _ _ h3⟩⟩

/-- What is known of the arguments, said in another way. -/
def ImpL (E : Env) : List Ab → Env → List Ab → Prop
  | [], _, [] => True
  | x :: l, E', y :: m => (∀ p w v, @Ab.pd E x p w v → @Ab.pd E' y p w v) ∧ ImpL E l E' m
  | _, _, _ => False

theorem ImpL.args {E E' : Env} {p : Nat → Option Nat} {w : World} : ∀ {l m : List Ab} {vs : List Value}, ImpL E l E' m → @Args E p w l vs → @Args E' p w m vs
  | [], [], [], _, _ => trivial
  | x :: l, y :: m, v :: vs, hi, h => ⟨hi.1 _ _ _ h.1, ImpL.args hi.2 h.2⟩
  | [], _ :: _, _, hi, _ => hi.elim
  | _ :: _, [], _, hi, _ => hi.elim
  | [], [], _ :: _, _, h => h.elim
  | _ :: _, _ :: _, [], _, h => h.elim

/-- A contract under other numbers. -/
theorem entry_move {E E' : Env} {f : FuncId} {xs xs' : List Ab} {x x' : Ab} (h : @Entry E f xs x) (ha : ImpL E' xs' E xs) (hx : ∀ p w v, @Ab.pd E x p w v → @Ab.pd E' x' p w v) : @Entry E' f xs' x' :=
  @Entry.mk E' f xs' x' (@Entry.enter E f xs x h) fun p w vs hv => (@Entry.call E f xs x h p w vs (ha.args hv)).mono fun e w' ⟨v, p', h1, h2, h3⟩ => ⟨v, p', h1, h2, hx _ _ _ h3⟩

/-- A row of terms. -/
def RowAt (l : List Tm) (p : Nat → Option Nat) (w : World) (v : Value) : Prop := ∃ A cap, v = .slice A l.length cap ∧ l.length ≤ cap ∧ l.length ≤ 140737488351232 ∧ cap ≤ maxLen ∧ ArgsIn w (Fr p) l A 0

theorem grow_eq {E E' : Env} {s : Tmp} {a b : Nat} (h : E.R a = E'.R b) : @Ab.pd E (.grow s a) = @Ab.pd E' (.grow s b) := by
  show GrowAt s (E.R a) = GrowAt s (E'.R b)
  rw [h]
theorem tok_eq {E E' : Env} {a b : Nat} (h : E.T a = E'.T b) : @Ab.pd E (.tok a) = @Ab.pd E' (.tok b) := by
  show (fun p w v => TmIn w (Fr p) (E.T a) v) = fun p w v => TmIn w (Fr p) (E'.T b) v
  rw [h]
theorem vcell_eq {E E' : Env} {s : Tmp} {a b : Nat} (h : E.T a = E'.T b) : @Ab.pd E (.vcell s (.tok a)) = @Ab.pd E' (.vcell s (.tok b)) := by
  have h2 := tok_eq (E := E) (E' := E') h
  unfold Ab.pd
  rw [h2]
  simp only [tmAny, h]
theorem nil_grow {E E' : Env} {s : Tmp} {a : Nat} (h : E'.R a = []) : ∀ p w v, @Ab.pd E (.val (.slice none 0 0)) p w v → @Ab.pd E' (.grow s a) p w v := fun p w v hv => by
  obtain rfl : v = .slice none 0 0 := hv
  show GrowAt s (E'.R a) p w _
  rw [h]
  refine ⟨[], World.ownsRow_nil _ _ _ _, ?_, ?_, ?_⟩
  · intro g hg; cases hg
  · simp
  · intro i hi; simp at hi
theorem nil_row {E E' : Env} {a : Nat} (h : E'.R a = []) : ∀ p w v, @Ab.pd E (.val (.slice none 0 0)) p w v → @Ab.pd E' (.rtok a) p w v := fun p w v hv => by
  obtain rfl : v = .slice none 0 0 := hv
  show RowAt (E'.R a) p w _
  rw [h]
  exact ⟨none, 0, rfl, by simp, by simp, by unfold maxLen; omega, by unfold ArgsIn; trivial⟩
theorem pair_imp {E E' : Env} {x y x' y' : Ab} (h1 : ∀ p w v, @Ab.pd E x p w v → @Ab.pd E' x' p w v) (h2 : ∀ p w v, @Ab.pd E y p w v → @Ab.pd E' y' p w v) : ∀ p w v, @Ab.pd E (.pair x y) p w v → @Ab.pd E' (.pair x' y') p w v :=
  fun p w v ⟨a, b, e, ha, hb⟩ => ⟨a, b, e, h1 _ _ _ ha, h2 _ _ _ hb⟩
theorem term_tok {E E' : Env} {u : Tm} {a : Nat} (h : E'.T a = u) : @Ab.pd E (.term u) = @Ab.pd E' (.tok a) := by subst h; rfl

theorem pair_eq {E : Env} {a b : Nat} {u : Tm} {k : Int} (h1 : E.T a = u) (h2 : E.I b = k) : @Ab.pd E (.pair (.term u) (.val (.int .i64 k))) = @Ab.pd E (.pair (.tok a) (.vtok b)) := by
  subst h1
  subst h2
  rfl

theorem pair_eq2 {E : Env} {a b : Nat} {k : Int} (h2 : E.I b = k) : @Ab.pd E (.pair (.tok a) (.val (.int .i64 k))) = @Ab.pd E (.pair (.tok a) (.vtok b)) := by
  subst h2
  rfl

theorem entry_with {E : Env} (F : List Fact) (ok : AllHold E.T E.I E.L E.R E.S F) {f : FuncId} {l : List Ab} {x : Ab} (h : @Entry (E.with F ok) f l x) : @Entry E f l x :=
  @Entry.mk E f l x (@Entry.enter (E.with F ok) f l x h) fun p w vs hv => (@Entry.call (E.with F ok) f l x h p w vs (by
    have : ∀ {l : List Ab} {vs : List Value}, @Args E p w l vs → @Args (E.with F ok) p w l vs := by
      intro l
      induction l with
      | nil => intro vs h; cases vs with
        | nil => trivial
        | cons _ _ => exact h.elim
      | cons y l ih => intro vs h; cases vs with
        | nil => exact h.elim
        | cons u us => exact ⟨(pd_with E ok y).symm ▸ h.1, ih h.2⟩
    exact this hv)).mono fun e w' ⟨v, p', he, hxx, hp⟩ => ⟨v, p', he, hxx, pd_with E ok x ▸ hp⟩

/-- A function without loops, with facts. -/
theorem entry_facts {E : Env} (F : List Fact) (ok : AllHold E.T E.I E.L E.R E.S F) {C : FuncId → List Ab → Option Ab} (hC : @CallsOk E C) {f : FuncId} {fn : Func} {c : Code} {x : Ab} (xs : List Ab) (hf : Try.prog.funcs[f]? = some fn) (hb : fn.body = some c) (hen : ∀ args w, (callFunc f args).run Try.prog w = .ok (.enter f args) w)
    (hr : outOf fn.results.toList (@runCode (E.with F ok) C fn.ntmps c (idxd 0 xs)) = some x) (hn : (xs.all fun x => !isNew x) = true) (hx : isNew x = false) (hsz : xs.length ≤ fn.ntmps) : @Entry E f xs x :=
  entry_with F ok (@entry_code (E.with F ok) C (calls_with E ok hC) f fn c x xs hf hb hen mixed_ok hr hn hx hsz)

/-- A part without loops, with facts. -/
theorem LRun.step {E : Env} (F : List Fact) (ok : AllHold E.T E.I E.L E.R E.S F) {C : FuncId → List Ab → Option Ab} (hC : @CallsOk E C) {z : Nat} {c : Code} {σ : List (Tmp × Ab)} {r : Res} (l : List (Tmp × Ab)) (h : @runTo (E.with F ok) C z c σ r l = true) : LRun z c E σ r E l :=
  ⟨fun ho hx hd hz hf hk => (LRun.code (calls_with E ok hC) l h).go ho hx hd hz ((facts_with E ok).2 hf) fun p' w' a' h1 h2 h3 h4 => hk p' w' a' h1 h2 h3 ((facts_with E ok).1 h4)⟩

theorem LRun.parts {E' E : Env} (F : List Fact) (ok : AllHold E.T E.I E.L E.R E.S F) {C : FuncId → List Ab → Option Ab} (hC : @CallsOk E C) {z : Nat} {r : Res} {k : Code} (l : List (Tmp × Ab)) {σ' : List (Tmp × Ab)} (cs : List Code) {σ : List (Tmp × Ab)} (h : @runs (E.with F ok) C z cs σ l = true) (hk : LRun z k E l r E' σ') : LRun z (inRow cs k) E σ r E' σ' :=
  ⟨fun ho hx hd hz hf hk' => (LRun.seqs (E := E.with F ok) (E' := E') (calls_with E ok hC) l cs h ⟨fun ho hx hd hz hf hk' => hk.go ho hx hd hz ((facts_with E ok).1 hf) hk'⟩).go ho hx hd hz ((facts_with E ok).2 hf) hk'⟩

def noCalls : FuncId → List Ab → Option Ab := fun _ _ => none
theorem noCalls_ok {E : Env} : @CallsOk E noCalls := fun _ _ _ h => by cases h


end Go.Proofs.Ytloekfnlidclcaa

namespace Go.Proofs.Ytloekfnlidclcaa
open Go.RowKit
set_option linter.unusedVariables false

abbrev EnvR (t : Tm) (n : Int) (l : List Int) (j : Nat) : Env :=
  { T := fun k => match k with | 0 => t | _ => (renameT t n).1
    I := fun k => match k with | 0 => n | 1 => (j : Int) | 2 => (l.length : Int) | 3 => ((j + 1 : Nat) : Int) | 4 => l.getD j 0 | 5 => l.getD j 0 + n | _ => (renameT t n).2
    L := fun _ => l }

abbrev rrInv : List (Tmp × Ab) := [(1, .vtok 0), (2, .vcell 2 (.tok 0)), (4, .vcell 4 (.term zeroT)), (5, .val (.int .i64 0)), (6, .itok 0), (7, .vtok 1)]
abbrev rrNext : List (Tmp × Ab) := [(1, .vtok 0), (2, .vcell 2 (.tok 0)), (4, .vcell 4 (.term zeroT)), (5, .val (.int .i64 0)), (6, .itok 0), (7, .vtok 3)]

theorem rr_next (t : Tm) (n : Int) (l : List Int) (j : Nat) : SubL (EnvR t n l j) rrNext (EnvR t n l (j + 1)) rrInv :=
  ⟨⟨_, rfl, idd⟩, ⟨_, rfl, idd⟩, ⟨_, rfl, idd⟩, ⟨_, rfl, idd⟩, ⟨_, rfl, idd⟩, ⟨_, rfl, idd⟩, trivial⟩

theorem rr_zero (t : Tm) (n : Int) (l : List Int) : SubL (EnvR t n l 0) [(1, .vtok 0), (2, .vcell 2 (.tok 0)), (4, .vcell 4 (.term zeroT)), (5, .val (.int .i64 0)), (6, .itok 0), (7, .val (.int .i64 0))] (EnvR t n l 0) rrInv :=
  ⟨⟨_, rfl, idd⟩, ⟨_, rfl, idd⟩, ⟨_, rfl, idd⟩, ⟨_, rfl, idd⟩, ⟨_, rfl, idd⟩, ⟨_, rfl, idd⟩, trivial⟩

end Go.Proofs.Ytloekfnlidclcaa

namespace Go.Proofs.Ytloekfnlidclcaa
open Go.RowKit
set_option linter.unusedVariables false

end Go.Proofs.Ytloekfnlidclcaa

namespace Go.Proofs.Ytloekfnlidclcaa
open Go.RowKit
set_option linter.unusedVariables false

theorem sub_vt {E E' : Env} {k : Nat} {n : Int} (h : E'.I k = n) : @Ab.pd E (.val (.int .i64 n)) = @Ab.pd E' (.vtok k) := by subst h; rfl
theorem sub_vv {E E' : Env} {k m : Nat} (h : E.I m = E'.I k) : @Ab.pd E (.vtok m) = @Ab.pd E' (.vtok k) := by
  show (fun (p : Nat → Option Nat) (w : World) (v : Value) => v = .int .i64 (E.I m)) = fun p w v => v = .int .i64 (E'.I k)
  rw [h]

/-- How often the number occurs. -/
def occN (v : Int) (l : List Int) : Int := (l.filter (· == v)).length

theorem occN_append (v : Int) (l m : List Int) : occN v (l ++ m) = occN v l + occN v m := by simp [occN]
theorem occN_nil (v : Int) : occN v [] = 0 := rfl
theorem occN_le (v : Int) (l : List Int) : 0 ≤ occN v l ∧ occN v l ≤ l.length := by
  unfold occN
  have := List.length_filter_le (· == v) l
  omega

abbrev EnvO (k n : Int) (s : ByteArray) (l : List Tm) (v : Int) (acc : Nat → Int) (j : Nat) : Env :=
  { T := fun i => match i with | 0 => .mk k n s l | _ => l.getD j zeroT
    I := fun i => match i with | 0 => v | 1 => k | 2 => n | 3 => (l.length : Int) | 4 => (j : Int) | 5 => ((j + 1 : Nat) : Int) | 6 => acc j | 7 => occN v (occT (l.getD j zeroT)) | 8 => acc (j + 1) | _ => acc l.length
    S := fun _ => s
    R := fun _ => l }

abbrev ocInv : List (Tmp × Ab) := [(1, .vtok 0), (2, .vcell 2 (.tok 0)), (5, .vtok 6), (6, .vtok 4)]
abbrev ocNext : List (Tmp × Ab) := [(1, .vtok 0), (2, .vcell 2 (.tok 0)), (5, .vtok 8), (6, .vtok 5)]

theorem occL_take {l : List Tm} {j : Nat} (hj : j < l.length) : occL (l.take (j + 1)) = occL (l.take j) ++ occT (l.getD j zeroT) := by
  induction l generalizing j with
  | nil => simp at hj
  | cons t l ih =>
    cases j with
    | zero => simp [occL]
    | succ j =>
      simp only [List.take_succ_cons, occL, List.length_cons] at hj ⊢
      rw [ih (by omega)]
      simp

theorem nodesL_take (l : List Tm) (j : Nat) : nodesL (l.take j) ≤ nodesL l := by
  induction l generalizing j with
  | nil => simp
  | cons t l ih =>
    cases j with
    | zero => simp [nodesL]
    | succ j =>
      have := ih j
      simp only [List.take_succ_cons, nodesL]
      omega

theorem occL_len : ∀ l : List Tm, (occL l).length ≤ nodesL l
  | [] => by simp [occL]
  | t :: l => by
    have h1 := occ_len t
    have h2 := occL_len l
    simp only [occL, nodesL, List.length_append]
    omega

end Go.Proofs.Ytloekfnlidclcaa

namespace Go.Proofs.Ytloekfnlidclcaa
open Go.RowKit
set_option linter.unusedVariables false

/-- What a variable turns to. -/
abbrev repF (v : Int) (by_ : Tm) : Int → Tm := fun n => if n = v then by_ else V n

theorem rep_sub (v : Int) (by_ : Tm) (hb : validT by_ = true) (t : Tm) (h : fitsT t = true) : (appT (repG v by_) () t).2 = substT (repF v by_) t :=
  appT_sub (fun n nm l hn => by
    obtain ⟨-, -, rfl, rfl⟩ := var_node hn
    simp [repG, repF, cloneT, hb, Tm.num]) t h

def stepS (v d : Int) (s n : Int) : Int := if n = v then wrap64 (s + d) else s

theorem repS_fold (v d : Int) (t : Tm) : ∀ s, (appT (repS v d) s t).1 = (occT t).foldl (stepS v d) s :=
  ind2 (P := fun t => ∀ s, (appT (repS v d) s t).1 = (occT t).foldl (stepS v d) s) (PL := fun l => ∀ s, (appL (repS v d) s l).1 = (occL l).foldl (stepS v d) s) (fun s => by simp [appL, occL])
    (fun t l h1 h2 s => by simp only [appL, occL, List.foldl_append, h1, h2])
    (fun k n s l hl s' => by
      simp only [appT, occT]
      by_cases hk : k = 0
      · rw [if_pos hk, if_pos hk]; rfl
      · rw [if_neg hk, if_neg hk]; exact hl s') t

theorem fold_sum (v d : Int) (hd : 0 ≤ d ∧ d ≤ 2001) : ∀ (l : List Int) (s : Int), 0 ≤ s → s + l.length * 2001 ≤ 9223372036854775807 → l.foldl (stepS v d) s = s + occN v l * d
  | [], s, _, _ => by simp [occN]
  | n :: l, s, h0, h1 => by
    simp only [List.length_cons] at h1
    rw [List.foldl_cons]
    by_cases hn : n = v
    · have e1 : stepS v d s n = s + d := by
        unfold stepS
        rw [if_pos hn]
        unfold wrap64
        push_cast at h1
        omega
      rw [e1, fold_sum v d hd l (s + d) (by omega) (by push_cast at h1 ⊢; omega)]
      have : occN v (n :: l) = occN v l + 1 := by simp [occN, hn]
      rw [this, Int.add_mul]
      omega
    · have e1 : stepS v d s n = s := by unfold stepS; rw [if_neg hn]
      rw [e1, fold_sum v d hd l s h0 (by push_cast at h1 ⊢; omega)]
      have : occN v (n :: l) = occN v l := by simp [occN, hn]
      rw [this]

theorem size_valid {t : Tm} (h : validT t = true) : sizeT t = nodesT t := by
  have := size_min t
  have := valid_nodes h
  omega

theorem rep_total {t by_ : Tm} (v : Int) (ht : validT t = true) (hb : validT by_ = true) : (appT (repS v (sizeT by_ - 1)) (sizeT t) t).1 = sizeT t + occN v (occT t) * (sizeT by_ - 1) := by
  have h1 := size_bd by_
  have h2 := size_bd t
  have h3 := occ_len t
  have h4 := valid_nodes ht
  rw [repS_fold]
  exact fold_sum v _ (by omega) _ _ (by omega) (by omega)

theorem sumL_rep (v : Int) (by_ : Tm) : ∀ l : List Int, sumL (fun n => nodesT (repF v by_ n) - 1) l = occN v l * (nodesT by_ - 1)
  | [] => by simp [sumL, occN]
  | n :: l => by
    simp only [sumL]
    rw [sumL_rep v by_ l]
    by_cases hn : n = v
    · have : occN v (n :: l) = occN v l + 1 := by simp [occN, hn]
      rw [this, Int.add_mul]
      simp only [repF, if_pos hn]
      omega
    · have : occN v (n :: l) = occN v l := by simp [occN, hn]
      rw [this]
      simp only [repF, if_neg hn, nodesT, nodesL]
      omega

theorem rep_valid {t by_ : Tm} {v : Int} (ht : validT t = true) (hb : validT by_ = true) (hs : sizeT t + occN v (occT t) * (sizeT by_ - 1) ≤ 2000) : validT (substT (repF v by_) t) = true := by
  rw [valid_iff]
  constructor
  · have := nodes_sub (f := repF v by_) t (valid_fits ht)
    rw [sumL_rep] at this
    rw [size_valid ht, size_valid hb] at hs
    omega
  · refine fits_sub t (valid_fits ht) fun n hn => ?_
    unfold repF
    split
    · exact valid_fits hb
    · exact V_fits.2 (occ_bd t (valid_fits ht) n hn)

theorem replace_eq (t : Tm) (v : Int) (by_ : Tm) : replaceT t v by_ = if validT t && numB v && validT by_ then if 2000 < sizeT t + occN v (occT t) * (sizeT by_ - 1) then (zeroT, 2) else (substT (repF v by_) t, 0) else (zeroT, 1) := by
  unfold replaceT
  by_cases h : (validT t && numB v && validT by_) = true
  · rw [if_pos h, if_pos h]
    simp only [Bool.and_eq_true] at h
    rw [rep_total v h.1.1 h.2, rep_sub v by_ h.2 t (valid_fits h.1.1)]
  · rw [if_neg h, if_neg h]

theorem replace_valid (t : Tm) (v : Int) (by_ : Tm) : validT (replaceT t v by_).1 = true := by
  rw [replace_eq]
  split
  · rename_i h
    simp only [Bool.and_eq_true] at h
    split
    · exact zero_valid
    · exact rep_valid h.1.1 h.2 (by omega)
  · exact zero_valid

abbrev EnvP (t : Tm) (v : Int) (by_ : Tm) : Env :=
  { T := fun k => match k with | 0 => t | 1 => by_ | _ => (replaceT t v by_).1
    I := fun k => match k with | 0 => v | 1 => sizeT t | 2 => occN v (occT t) | 3 => sizeT by_ | 4 => sizeT by_ - 1 | 5 => occN v (occT t) * (sizeT by_ - 1) | 6 => sizeT t + occN v (occT t) * (sizeT by_ - 1) | _ => (replaceT t v by_).2 }

end Go.Proofs.Ytloekfnlidclcaa

namespace Go.Proofs.Ytloekfnlidclcaa
open Go.RowKit
set_option linter.unusedVariables false

/-! ### List -/
def consR (l : List Tm) (t : Tm) : Tm := l.foldr consT t

theorem consR_nodes (l : List Tm) (t : Tm) : nodesT (consR l t) = nodesL l + l.length + nodesT t := by
  induction l with
  | nil => simp [consR, nodesL]
  | cons x l ih =>
    show nodesT (consT x (consR l t)) = _
    simp only [consT, nodesT, nodesL, ih, List.length_cons]
    omega

theorem consR_fits (l : List Tm) (t : Tm) : fitsT (consR l t) = true ↔ (∀ x ∈ l, fitsT x = true) ∧ fitsT t = true := by
  induction l with
  | nil => simp [consR]
  | cons x l ih =>
    show fitsT (consT x (consR l t)) = true ↔ _
    have h1 : nodeB (.mk 3 0 ⟨#[46]⟩ [x, consR l t]) = true := by simp [nodeB, ByteArray.size]
    have h2 : fitsL [x, consR l t] = true ↔ fitsT x = true ∧ fitsT (consR l t) = true := by simp [fitsL]
    simp only [consT, fits_mk, h1, true_and, h2, ih, List.mem_cons, forall_eq_or_imp]
    constructor
    · rintro ⟨h1, h2, h3⟩; exact ⟨⟨h1, h2⟩, h3⟩
    · rintro ⟨⟨h1, h2⟩, h3⟩; exact ⟨h1, h2, h3⟩

theorem lsz_iff : ∀ {l : List Tm} {s : Int}, 0 ≤ s → s ≤ 2000 → (lszB l s = true ↔ (∀ x ∈ l, fitsT x = true) ∧ s + nodesL l + l.length ≤ 2000)
  | [], s, h0, h => by simp [lszB, nodesL, h]
  | x :: l, s, h0, h => by
    have h1 := size_min x
    have h2 := nodes_pos x
    unfold lszB
    by_cases hbig : 2000 < s + (1 + sizeT x)
    · rw [if_pos hbig]
      simp only [nodesL, List.length_cons]
      constructor
      · intro h; cases h
      · rintro ⟨-, h⟩
        push_cast at h
        omega
    · rw [if_neg hbig]
      have h3 : sizeT x = nodesT x := by omega
      simp only [Bool.and_eq_true, nodesL, List.length_cons, List.mem_cons, forall_eq_or_imp]
      rw [lsz_iff (s := s + (1 + sizeT x)) (by omega) (by omega)]
      constructor
      · rintro ⟨h4, h5, h6⟩
        exact ⟨⟨h4, h5⟩, by push_cast; omega⟩
      · rintro ⟨⟨h4, h5⟩, h6⟩
        push_cast at h6
        exact ⟨h4, h5, by omega⟩

theorem nodes_mem {l : List Tm} {x : Tm} (h : x ∈ l) : nodesT x ≤ nodesL l := by
  obtain ⟨j, hj, rfl⟩ := List.getElem_of_mem h
  exact nodes_get hj

theorem consL_eq {l : List Tm} (h : ∀ x ∈ l, validT x = true) (t : Tm) : consL l t = consR l t := by
  induction l with
  | nil => rfl
  | cons x l ih =>
    show consT (cloneT x) (consL l t) = consT x (consR l t)
    rw [ih fun y hy => h y (List.mem_cons_of_mem _ hy)]
    have : cloneT x = x := by simp [cloneT, h x List.mem_cons_self]
    rw [this]

theorem list_eq (l : List Tm) (t : Tm) : listT l t = if l.length ≤ 2000 then cloneT (consR l t) else zeroT := by
  unfold listT
  by_cases hl : l.length ≤ 2000
  · rw [if_pos hl]
    have hiff : (decide (l.length ≤ 2000) && validT t && lszB l (sizeT t)) = true ↔ validT (consR l t) = true := by
      simp only [Bool.and_eq_true, decide_eq_true_eq]
      rw [valid_iff (t := consR l t), consR_nodes, consR_fits]
      constructor
      · rintro ⟨⟨-, hv⟩, hs⟩
        rw [lsz_iff (by have := size_bd t; omega) (by rw [size_valid hv]; have := valid_nodes hv; omega), size_valid hv] at hs
        exact ⟨by omega, hs.1, valid_fits hv⟩
      · rintro ⟨h1, h2, h3⟩
        have hv : validT t = true := valid_iff.2 ⟨by omega, h3⟩
        refine ⟨⟨hl, hv⟩, ?_⟩
        rw [lsz_iff (by have := size_bd t; omega) (by rw [size_valid hv]; have := valid_nodes hv; omega), size_valid hv]
        exact ⟨h2, by omega⟩
    by_cases hv : validT (consR l t) = true
    · rw [if_pos (hiff.2 hv)]
      have h1 := valid_iff.1 hv
      rw [consR_nodes, consR_fits] at h1
      have ht : validT t = true := valid_iff.2 ⟨by omega, h1.2.2⟩
      rw [consL_eq fun x hx => valid_iff.2 ⟨by have := nodes_mem hx; omega, h1.2.1 x hx⟩]
      simp [cloneT, hv, ht]
    · rw [if_neg (fun h => hv (hiff.1 h))]
      simp [cloneT, hv]
  · rw [if_neg hl, if_neg]
    simp [hl]

abbrev EnvL (l : List Tm) (t : Tm) (j : Nat) : Env :=
  { T := fun k => match k with | 0 => t | 1 => consR (l.drop (l.length - j)) t | 2 => l.getD (l.length - 1 - j) zeroT | 3 => consR (l.drop (l.length - (j + 1))) t | 4 => consR l t | _ => listT l t
    I := fun k => match k with | 0 => (l.length : Int) | 1 => (l.length : Int) - 1 - (j : Nat) | _ => (l.length : Int) - 1 - ((j + 1 : Nat) : Int)
    R := fun _ => l }

abbrev llInv : List (Tmp × Ab) := [(0, .rtok 0), (3, .vcell 3 (.tok 0)), (4, .vcell 4 (.term zeroT)), (5, .vcell 5 (.tok 1)), (6, .vtok 1)]
abbrev llNext : List (Tmp × Ab) := [(0, .rtok 0), (3, .vcell 3 (.tok 0)), (4, .vcell 4 (.term zeroT)), (5, .vcell 5 (.tok 3)), (6, .vtok 2)]

theorem rlist_entry (l : List Tm) (t : Tm) : @Entry (EnvL l t 0) 16 [.rtok 0, .tok 0] (.tok 5) := by
  letI E : Env := EnvL l t 0
  by_cases hl : l.length ≤ 2000
  · have hc : decide (2000 < (l.length : Int)) = false := by simp; omega
    have heq : listT l t = cloneT (consR l t) := by rw [list_eq, if_pos hl]
    have e1 : @Entry E 64 [.tok 4] (.tok 5) := ConT.ent (by show ConT _ (consR l t) (listT l t); rw [heq]; exact rvalidc_con _)
    refine entry_runs (E := E) [.rtok 0, .tok 0] (r := .ret) (σ' := [(4, .vcell 4 (.tok 5))]) Try.func16 rfl (fun _ _ => by kernel_rfl) ?_ (.inl rfl) rfl rfl rfl (by simp [Try.ntmps16])
    refine LRun.parts (E := E) [.rlen 0 0, .rel .lt (.lit 2000) (.tok 0) false] ⟨rfl, hc, trivial⟩ noCalls_ok [(0, .rtok 0), (3, .vcell 3 (.tok 0)), (4, .vcell 4 (.term zeroT)), (5, .vcell 5 (.tok 0))] [_, _, _] (by kernel_rfl) ?_
    refine LRun.seq (E1 := E) (σ1 := [(0, .rtok 0), (3, .vcell 3 (.tok 0)), (4, .vcell 4 (.term zeroT)), (5, .vcell 5 (.tok 4))]) ?_ (LRun.code (tbl_ok (T := [(64, [.tok 4], .tok 5)]) ⟨e1, trivial⟩) _ (by kernel_rfl))
    have hw : wf64 ((l.length : Int) - 1 - ((0 : Nat) : Int)) := by unfold wf64; omega
    refine LRun.seq (LRun.post (E1 := E) (LRun.step (E := E) [.rlen 0 0, .ari .sub (.tok 0) (.lit 1) 1] ⟨rfl, ⟨by show (l.length : Int) - 1 = (l.length : Int) - 1 - ((0 : Nat) : Int); omega, hw⟩, trivial⟩ noCalls_ok [(0, .rtok 0), (3, .vcell 3 (.tok 0)), (4, .vcell 4 (.term zeroT)), (5, .vcell 5 (.tok 0)), (6, .vtok 1)] (by kernel_rfl)) (E2 := EnvL l t 0) (σ2 := llInv) ?_) (LRun.block (LRun.loop (fun j => EnvL l t j) (fun _ => llInv) l.length (fun j hj => ?_) ?_ (by simp)))
    · refine ⟨⟨_, rfl, idd⟩, ⟨_, rfl, idd⟩, ⟨_, rfl, idd⟩, ⟨_, rfl, ide (vcell_eq ?_)⟩, ⟨_, rfl, idd⟩, trivial⟩
      show t = consR (l.drop (l.length - 0)) t
      simp [consR]
    · have hix : ((l.length : Int) - 1 - (j : Nat)).toNat = l.length - 1 - j := by omega
      have hget : l.getD (l.length - 1 - j) zeroT = l[l.length - 1 - j] := by simp [List.getD_eq_getElem?_getD, show l.length - 1 - j < l.length by omega]
      refine LRun.post (LRun.step (E := EnvL l t j) [.rel .lt (.tok 1) (.lit 0) false, .rget 0 (.tok 1) 2, .mk 3 (.lit 3) (.lit 0) (.lit ⟨#[46]⟩) [2, 1], .ari .sub (.tok 1) (.lit 1) 2] ⟨?_, ⟨?_, ?_⟩, ⟨?_, ?_, ?_, ?_⟩, ⟨?_, ?_⟩, trivial⟩ noCalls_ok llNext (by kernel_rfl)) ⟨⟨_, rfl, idd⟩, ⟨_, rfl, idd⟩, ⟨_, rfl, idd⟩, ⟨_, rfl, idd⟩, ⟨_, rfl, idd⟩, trivial⟩
      · show decide ((l.length : Int) - 1 - (j : Nat) < 0) = false; simp; omega
      · show (0 : Int) ≤ (l.length : Int) - 1 - (j : Nat); omega
      · show l[((l.length : Int) - 1 - (j : Nat)).toNat]? = some (l.getD (l.length - 1 - j) zeroT)
        rw [hix, hget]; simp [show l.length - 1 - j < l.length by omega]
      · show consR (l.drop (l.length - (j + 1))) t = .mk 3 0 ⟨#[46]⟩ [l.getD (l.length - 1 - j) zeroT, consR (l.drop (l.length - j)) t]
        rw [List.drop_eq_getElem_cons (by omega : l.length - (j + 1) < l.length), hget]
        show consT _ (consR (l.drop (l.length - (j + 1) + 1)) t) = _
        rw [show l.length - (j + 1) + 1 = l.length - j by omega]
        simp only [show l.length - 1 - j = l.length - (j + 1) by omega]
        rfl
      · show wf64 3; unfold wf64; omega
      · show wf64 0; unfold wf64; omega
      · show (⟨#[46]⟩ : ByteArray).size ≤ 140737488351232; decide
      · show (l.length : Int) - 1 - (j : Nat) - 1 = (l.length : Int) - 1 - ((j + 1 : Nat) : Int); omega
      · show wf64 ((l.length : Int) - 1 - ((j + 1 : Nat) : Int)); unfold wf64; omega
    · refine LRun.post (E1 := EnvL l t l.length) (LRun.step (E := EnvL l t l.length) [.rel .lt (.tok 1) (.lit 0) true] ⟨?_, trivial⟩ noCalls_ok [(0, .rtok 0), (3, .vcell 3 (.tok 0)), (4, .vcell 4 (.term zeroT)), (5, .vcell 5 (.tok 1))] (by kernel_rfl)) ⟨⟨_, rfl, idd⟩, ⟨_, rfl, idd⟩, ⟨_, rfl, idd⟩, ⟨_, rfl, ide (vcell_eq ?_)⟩, trivial⟩
      · show decide ((l.length : Int) - 1 - (l.length : Nat) < 0) = true; simp; omega
      · show consR (l.drop (l.length - l.length)) t = consR l t
        simp
  · have hc : decide (2000 < (l.length : Int)) = true := by simp; omega
    have heq : listT l t = zeroT := by rw [list_eq, if_neg hl]
    refine entry_eq (x := .term zeroT) ?_ (by show @Ab.pd E (.term zeroT) = @Ab.pd E (.tok 5); unfold Ab.pd; rw [show E.T 5 = zeroT from heq])
    exact entry_facts (E := E) [.rlen 0 0, .rel .lt (.lit 2000) (.tok 0) true] ⟨rfl, hc, trivial⟩ noCalls_ok [.rtok 0, .tok 0] Try.func16 rfl (fun _ _ => by kernel_rfl) (by kernel_rfl) rfl rfl (by simp [Try.ntmps16])

/-! ### IsCons -/
theorem rcons_any (t : Tm) : ∀ w y, TmAt w w.heap.size t y → Calls Try.prog 87 #[y] w fun e w' => e = .returned (.bool (isCons t)) ∧ But Nil w w' := by
  intro w y hy
  letI E : Env := { T := fun _ => t, I := fun k => match k with | 0 => t.kind | 1 => t.num | _ => (t.args.length : Int), S := fun _ => t.name, R := fun _ => t.args }
  have run : ∀ b c d, (t.kind == 3) = b → decide (t.name = ⟨#[46]⟩) = c → ((t.args.length : Int) == 2) = d → @Entry E 87 [.tok 0] (.val (.bool (b && (c && d)))) := by
    intro b c d hb hc hd
    cases b <;> cases c <;> cases d <;>
      exact entry_facts (E := E) [.tm 0 0 1 0 0, .rel .eq (.tok 0) (.lit 3) _, .seq (.tok 0) (.lit ⟨#[46]⟩) _, .rlen 0 2, .rel .eq (.tok 2) (.lit 2) _] ⟨⟨rfl, rfl, rfl, rfl⟩, hb, hc, rfl, hd, trivial⟩ noCalls_ok [.tok 0] Try.func87 rfl (fun _ _ => by kernel_rfl) (by kernel_rfl) rfl rfl (by simp [Try.ntmps87])
  have heq : ((t.kind == 3) && (decide (t.name = ⟨#[46]⟩) && ((t.args.length : Int) == 2))) = isCons t := by
    unfold isCons
    have : ((t.args.length : Int) == 2) = decide (t.args.length = 2) := by
      rw [Bool.eq_iff_iff]
      simp
      omega
    rw [this]
    rfl
  have := (run _ _ _ rfl rfl rfl).val (vs := [y]) ⟨hy.fr, trivial⟩
  rw [heq] at this
  exact this

/-! ### Elems -/
/-- The cell number j of a list. -/
def chainT (t : Tm) : Nat → Tm
  | 0 => t
  | j + 1 => (chainT t j).args.getD 1 zeroT

theorem chain_succ (t : Tm) : ∀ j, chainT t (j + 1) = chainT (t.args.getD 1 zeroT) j
  | 0 => rfl
  | j + 1 => by
    show (chainT t (j + 1)).args.getD 1 zeroT = (chainT (t.args.getD 1 zeroT) j).args.getD 1 zeroT
    rw [chain_succ t j]

theorem chain_ok : ∀ (m : Nat) (t : Tm), nodesT t ≤ m → (∀ j, j < (elT t).1.length → isCons (chainT t j) = true ∧ (elT t).1[j]? = some ((chainT t j).args.getD 0 zeroT)) ∧ isCons (chainT t (elT t).1.length) = false ∧ (elT t).2 = chainT t (elT t).1.length
  | 0, t, h => by have := nodes_pos t; omega
  | m + 1, t, h => by
    by_cases hc : isCons t = true
    · have hl := cons_len hc
      have e1 := elT_cons hc (by omega) (by omega)
      have hn := nodes_args (t := t) (j := 1) (by omega)
      have ih := chain_ok m t.args[1] (by omega)
      have hg : t.args.getD 1 zeroT = t.args[1] := by simp [List.getD_eq_getElem?_getD, hl]
      have hg0 : t.args.getD 0 zeroT = t.args[0] := by rw [List.getD_eq_getElem?_getD, List.getElem?_eq_getElem (by omega)]; rfl
      rw [e1]
      simp only [List.length_cons]
      refine ⟨fun j hj => ?_, ?_, ?_⟩
      · cases j with
        | zero => exact ⟨hc, by show some t.args[0] = some (t.args.getD 0 zeroT); rw [hg0]⟩
        | succ j =>
          have := ih.1 j (by omega)
          rw [chain_succ, hg]
          exact ⟨this.1, by simpa using this.2⟩
      · rw [chain_succ, hg]; exact ih.2.1
      · rw [chain_succ, hg]; exact ih.2.2
    · have e1 := elT_else (t := t) (by simpa using hc)
      rw [e1]
      exact ⟨fun j hj => by simp at hj, by simpa [chainT] using hc, rfl⟩

theorem chain_valid {t : Tm} (h : validT t = true) : ∀ j, j ≤ (elT t).1.length → validT (chainT t j) = true ∧ j + nodesT (chainT t j) ≤ nodesT t
  | 0, _ => ⟨h, by simp [chainT]⟩
  | j + 1, hj => by
    have ih := chain_valid h j (by omega)
    have hc := ((chain_ok _ t (Nat.le_refl _)).1 j (by omega)).1
    have hl := cons_len hc
    have hg : (chainT t j).args.getD 1 zeroT = (chainT t j).args[1] := by simp [List.getD_eq_getElem?_getD, hl]
    show validT ((chainT t j).args.getD 1 zeroT) = true ∧ j + 1 + nodesT ((chainT t j).args.getD 1 zeroT) ≤ nodesT t
    rw [hg]
    have := nodes_args (t := chainT t j) (j := 1) (by omega)
    exact ⟨valid_args ih.1 _, by omega⟩

theorem els_eq {t : Tm} (h : validT t = true) : elemsT t = elT t := by
  have hc := chain_ok _ t (Nat.le_refl _)
  have hl := chain_valid h
  unfold elemsT
  rw [if_pos h]
  refine Prod.ext ?_ ?_
  · show (elT t).1.map cloneT = (elT t).1
    refine (List.map_congr_left (g := id) fun x hx => ?_).trans (List.map_id _)
    obtain ⟨j, hj, rfl⟩ := List.getElem_of_mem hx
    have h1 := hc.1 j hj
    have h2 := cons_len h1.1
    have h3 : (elT t).1[j] = (chainT t j).args.getD 0 zeroT := by
      have := h1.2
      rw [List.getElem?_eq_getElem hj] at this
      exact Option.some.inj this
    rw [h3, show (chainT t j).args.getD 0 zeroT = (chainT t j).args[0] by simp [List.getD_eq_getElem?_getD, h2]]
    simp [cloneT, valid_args (hl j (by omega)).1 (j := 0) (by omega)]
  · show cloneT (elT t).2 = (elT t).2
    rw [hc.2.2]
    simp [cloneT, (hl _ (Nat.le_refl _)).1]

abbrev EnvE (t : Tm) (j : Nat) : Env :=
  { T := fun k => match k with | 0 => t | 1 => chainT t j | 2 => (chainT t j).args.getD 0 zeroT | 3 => chainT t (j + 1) | _ => (elemsT t).2
    I := fun k => match k with | 0 => (chainT t j).kind | _ => (chainT t j).num
    S := fun _ => (chainT t j).name
    R := fun k => match k with | 0 => (elT t).1.take j | 1 => (elT t).1.take (j + 1) | 2 => (chainT t j).args | _ => (elemsT t).1 }

abbrev elInv : List (Tmp × Ab) := [(1, .vcell 1 (.tok 1)), (3, .vcell 3 (.term zeroT)), (4, .grow 18 0)]
abbrev elNext : List (Tmp × Ab) := [(1, .vcell 1 (.tok 3)), (3, .vcell 3 (.term zeroT)), (4, .grow 18 1)]

theorem relems_entry (t : Tm) : @Entry (EnvE t 0) 78 [.tok 0] (.pair (.rtok 3) (.tok 4)) := by
  letI E : Env := EnvE t 0
  have ev : ∀ b, validT t = b → @Entry E 23 [.tok 0] (.val (.bool b)) := fun b hb => ent_tv (fun _ _ => by kernel_rfl) fun w y h => hb ▸ rvalid_any t w y h
  cases hv : validT t with
  | false =>
    have hz : elemsT t = ([], zeroT) := by simp [elemsT, hv]
    refine entry_imp (x := .pair (.val (.slice none 0 0)) (.term zeroT)) ?_ (pair_imp (nil_row (show (elemsT t).1 = [] by rw [hz])) (ide (term_tok (show (elemsT t).2 = zeroT by rw [hz]))))
    exact entry_code (tbl_ok (T := [(23, [.tok 0], .val (.bool false))]) ⟨ev _ hv, trivial⟩) [.tok 0] Try.func78 rfl (fun _ _ => by kernel_rfl) (by kernel_rfl) (by kernel_rfl) rfl rfl (by simp [Try.ntmps78])
  | true =>
  have hc := chain_ok _ t (Nat.le_refl _)
  have hch := chain_valid hv
  have he := els_eq hv
  have hlen : (elT t).1.length ≤ 2000 := by have := (hch _ (Nat.le_refl _)).2; have := valid_nodes hv; omega
  have hcons : ∀ j b, isCons (chainT t j) = b → @Entry (EnvE t j) 87 [.tok 1] (.val (.bool b)) := fun j b hb => by
    letI : Env := EnvE t j
    exact ent_tv (fun _ _ => by kernel_rfl) fun w y h => hb ▸ rcons_any (chainT t j) w y h
  have hcp : @Entry E 69 [.tok 4] (.tok 4) := ent_tt (fun _ _ => by kernel_rfl) fun w y h => copied_any _ w y h (by show fitsT (elemsT t).2 = true; rw [he, hc.2.2]; exact valid_fits (hch _ (Nat.le_refl _)).1)
  refine entry_runs (E := E) [.tok 0] (r := .ret) (σ' := [(2, .grow 18 3), (3, .vcell 3 (.tok 4))]) Try.func78 rfl (fun _ _ => by kernel_rfl) ?_ (.inl rfl) rfl rfl rfl (by simp [Try.ntmps78])
  refine LRun.parts (E := E) [] trivial (tbl_ok (T := [(23, [.tok 0], .val (.bool true))]) ⟨ev _ hv, trivial⟩) [(1, .vcell 1 (.tok 0)), (3, .vcell 3 (.term zeroT)), (4, .val (.slice none 0 0))] [_, _, _] (by kernel_rfl) ?_
  refine LRun.seq (E1 := E) (σ1 := [(1, .vcell 1 (.tok 4)), (3, .vcell 3 (.term zeroT)), (4, .grow 18 3)]) ?_ (LRun.code (tbl_ok (T := [(69, [.tok 4], .tok 4)]) ⟨hcp, trivial⟩) _ (by kernel_rfl))
  refine LRun.pre (E1 := EnvE t 0) (σ1 := elInv) ⟨⟨_, rfl, idd⟩, ⟨_, rfl, idd⟩, ⟨_, rfl, nil_grow rfl⟩, trivial⟩ (LRun.block (LRun.loop (fun j => EnvE t j) (fun _ => elInv) (elT t).1.length (fun j hj => ?_) ?_ (by simp)))
  · have h1 := hc.1 j hj
    have h2 := cons_len h1.1
    have hcp2 : @Entry (EnvE t j) 69 [.tok 2] (.tok 2) := by
      letI : Env := EnvE t j
      refine ent_tt (fun _ _ => by kernel_rfl) fun w y h => copied_any _ w y h ?_
      show fitsT ((chainT t j).args.getD 0 zeroT) = true
      rw [show (chainT t j).args.getD 0 zeroT = (chainT t j).args[0] by simp [List.getD_eq_getElem?_getD, h2]]
      exact valid_fits (valid_args (hch j (by omega)).1 _)
    refine LRun.post (LRun.step (E := EnvE t j) [.tm 1 0 1 0 2, .rget 2 (.lit 0) 2, .rget 2 (.lit 1) 3, .push (some 0) 2 1 false] ⟨⟨rfl, rfl, rfl, rfl⟩, ⟨?_, ?_⟩, ⟨?_, ?_⟩, ⟨?_, ?_⟩, trivial⟩ (C := tbl [(87, [.tok 1], .val (.bool true)), (69, [.tok 2], .tok 2)]) (by letI : Env := EnvE t j; exact tbl_ok ⟨hcons j true h1.1, hcp2, trivial⟩) elNext (by kernel_rfl)) ⟨⟨_, rfl, idd⟩, ⟨_, rfl, idd⟩, ⟨_, rfl, idd⟩, trivial⟩
    · show (0 : Int) ≤ 0; omega
    · show (chainT t j).args[(0 : Int).toNat]? = some ((chainT t j).args.getD 0 zeroT); simp [h2]
    · show (0 : Int) ≤ 1; omega
    · show (chainT t j).args[(1 : Int).toNat]? = some (chainT t (j + 1)); simp [chainT, h2]
    · show (elT t).1.take (j + 1) = (elT t).1.take j ++ [(chainT t j).args.getD 0 zeroT]
      have h3 : (elT t).1[j] = (chainT t j).args.getD 0 zeroT := by
        have := h1.2
        rw [List.getElem?_eq_getElem hj] at this
        exact Option.some.inj this
      rw [← h3, List.take_append_getElem hj]
    · show ((elT t).1.take (j + 1)).length ≤ 1000000
      rw [List.length_take]; omega
  · refine LRun.post (E1 := EnvE t (elT t).1.length) (LRun.step (E := EnvE t (elT t).1.length) [] trivial (C := tbl [(87, [.tok 1], .val (.bool false))]) (by letI : Env := EnvE t (elT t).1.length; exact tbl_ok ⟨hcons _ false hc.2.1, trivial⟩) elInv (by kernel_rfl)) ⟨⟨_, rfl, ide (vcell_eq ?_)⟩, ⟨_, rfl, idd⟩, ⟨_, rfl, ide (grow_eq ?_)⟩, trivial⟩
    · show chainT t (elT t).1.length = (elemsT t).2
      rw [he, hc.2.2]
    · show (elT t).1.take (elT t).1.length = (elemsT t).1
      rw [he, List.take_length]

/-! ### SameAll -/
def sameAllT (l l' : List Tm) : Bool := decide (l.length = l'.length) && (List.range l.length).all fun j => sameT (l.getD j zeroT) (l'.getD j zeroT)

abbrev EnvS (l l' : List Tm) (j : Nat) : Env :=
  { T := fun k => match k with | 0 => l.getD j zeroT | _ => l'.getD j zeroT
    I := fun k => match k with | 0 => (l.length : Int) | 1 => (l'.length : Int) | 2 => (j : Int) | _ => ((j + 1 : Nat) : Int)
    R := fun k => match k with | 0 => l | _ => l' }

abbrev saInv : List (Tmp × Ab) := [(0, .rtok 0), (1, .rtok 1), (5, .vtok 2)]
abbrev saNext : List (Tmp × Ab) := [(0, .rtok 0), (1, .rtok 1), (5, .vtok 3)]

theorem sameAll_entry (l l' : List Tm) (hbig : l.length ≤ 140737488351232) : @Entry (EnvS l l' 0) 20 [.rtok 0, .rtok 1] (.val (.bool (sameAllT l l'))) := by
  letI E : Env := EnvS l l' 0
  by_cases hl : l.length = l'.length
  case neg =>
    have hs : sameAllT l l' = false := by simp [sameAllT, hl]
    have hc : ((l.length : Int) == (l'.length : Int)) = false := by simp; omega
    rw [hs]
    exact entry_facts (E := E) [.rlen 0 0, .rlen 1 1, .rel .eq (.tok 0) (.tok 1) false] ⟨rfl, rfl, hc, trivial⟩ noCalls_ok [.rtok 0, .rtok 1] Try.func20 rfl (fun _ _ => by kernel_rfl) (by kernel_rfl) rfl rfl (by simp [Try.ntmps20])
  have hc : ((l.length : Int) == (l'.length : Int)) = true := by simp; omega
  have step : ∀ j b, j < l.length → sameT (l.getD j zeroT) (l'.getD j zeroT) = b → AllHold (EnvS l l' j).T (EnvS l l' j).I (EnvS l l' j).L (EnvS l l' j).R (EnvS l l' j).S [.rlen 0 0, .rel .lt (.tok 2) (.tok 0) true, .rget 0 (.tok 2) 0, .rget 1 (.tok 2) 1, .ari .add (.tok 2) (.lit 1) 3] ∧
      @CallsOk (EnvS l l' j) (tbl [(63, [.tok 0, .tok 1], .val (.bool b))]) := fun j b hj hb => by
    refine ⟨⟨rfl, ?_, ⟨?_, ?_⟩, ⟨?_, ?_⟩, ⟨?_, ?_⟩, trivial⟩, ?_⟩
    · show decide ((j : Int) < (l.length : Int)) = true; simpa using hj
    · show (0 : Int) ≤ (j : Int); omega
    · show l[(j : Int).toNat]? = some (l.getD j zeroT); simp [hj]
    · show (0 : Int) ≤ (j : Int); omega
    · show l'[(j : Int).toNat]? = some (l'.getD j zeroT); simp [show j < l'.length by omega]
    · show (j : Int) + 1 = ((j + 1 : Nat) : Int); omega
    · show wf64 ((j + 1 : Nat) : Int); unfold wf64; omega
    · letI : Env := EnvS l l' j
      exact tbl_ok ⟨ent_ttv (fun _ _ => by kernel_rfl) fun w y z h h' => hb ▸ rsame_any _ _ w y z h h', trivial⟩
  obtain ⟨m, hm⟩ : ∃ m, m = (List.range l.length).findIdx fun j => !sameT (l.getD j zeroT) (l'.getD j zeroT) := ⟨_, rfl⟩
  have hml : m ≤ l.length := by have := List.findIdx_le_length (p := fun j => !sameT (l.getD j zeroT) (l'.getD j zeroT)) (xs := List.range l.length); rw [← hm] at this; simpa using this
  have hyes : ∀ j, j < m → sameT (l.getD j zeroT) (l'.getD j zeroT) = true := fun j hj => by
    have := List.not_of_lt_findIdx (p := fun j => !sameT (l.getD j zeroT) (l'.getD j zeroT)) (xs := List.range l.length) (by rw [← hm]; exact hj)
    simpa using this
  by_cases hend : m < l.length
  · have hno : sameT (l.getD m zeroT) (l'.getD m zeroT) = false := by
      have := List.findIdx_getElem (p := fun j => !sameT (l.getD j zeroT) (l'.getD j zeroT)) (xs := List.range l.length) (w := by rw [← hm]; simpa using hend)
      rw [List.getElem_range, ← hm] at this
      simpa using this
    have hs : sameAllT l l' = false := by
      rw [Bool.eq_false_iff]
      intro h
      simp only [sameAllT, Bool.and_eq_true, List.all_eq_true, List.mem_range] at h
      rw [h.2 m hend] at hno
      cases hno
    rw [hs]
    refine entry_runs (E := E) [.rtok 0, .rtok 1] (r := .ret) (σ' := [(4, .val (.bool false))]) Try.func20 rfl (fun _ _ => by kernel_rfl) ?_ (.inl rfl) rfl rfl rfl (by simp [Try.ntmps20])
    refine LRun.parts (E := E) [.rlen 0 0, .rlen 1 1, .rel .eq (.tok 0) (.tok 1) true] ⟨rfl, rfl, hc, trivial⟩ noCalls_ok [(0, .rtok 0), (1, .rtok 1)] [_, _] (by kernel_rfl) ?_
    refine LRun.out (LRun.seq (LRun.post (E1 := E) (LRun.code noCalls_ok [(0, .rtok 0), (1, .rtok 1), (5, .val (.int .i64 0))] (by kernel_rfl)) (E2 := EnvS l l' 0) (σ2 := saInv) ⟨⟨_, rfl, idd⟩, ⟨_, rfl, idd⟩, ⟨_, rfl, idd⟩, trivial⟩) (LRun.block_ret (LRun.loop (fun j => EnvS l l' j) (fun _ => saInv) m (fun j hj => ?_) ?_ (by simp)))) (by simp)
    · exact LRun.post (LRun.step (E := EnvS l l' j) _ (step j true (by omega) (hyes j hj)).1 (step j true (by omega) (hyes j hj)).2 saNext (by kernel_rfl)) ⟨⟨_, rfl, idd⟩, ⟨_, rfl, idd⟩, ⟨_, rfl, idd⟩, trivial⟩
    · exact LRun.post (LRun.step (E := EnvS l l' m) _ (step m false hend hno).1 (step m false hend hno).2 [(4, .val (.bool false))] (by kernel_rfl)) ⟨⟨_, rfl, idd⟩, trivial⟩
  · obtain rfl : m = l.length := by omega
    have hs : sameAllT l l' = true := by
      simp only [sameAllT, Bool.and_eq_true, List.all_eq_true, List.mem_range]
      exact ⟨by simpa using hl, hyes⟩
    rw [hs]
    refine entry_runs (E := E) [.rtok 0, .rtok 1] (r := .ret) (σ' := [(4, .val (.bool true))]) Try.func20 rfl (fun _ _ => by kernel_rfl) ?_ (.inl rfl) rfl rfl rfl (by simp [Try.ntmps20])
    refine LRun.parts (E := E) [.rlen 0 0, .rlen 1 1, .rel .eq (.tok 0) (.tok 1) true] ⟨rfl, rfl, hc, trivial⟩ noCalls_ok [(0, .rtok 0), (1, .rtok 1)] [_, _] (by kernel_rfl) ?_
    refine LRun.seq (E1 := E) (σ1 := [(0, .rtok 0)]) ?_ (LRun.code noCalls_ok _ (by kernel_rfl))
    refine LRun.seq (LRun.post (E1 := E) (LRun.code noCalls_ok [(0, .rtok 0), (1, .rtok 1), (5, .val (.int .i64 0))] (by kernel_rfl)) (E2 := EnvS l l' 0) (σ2 := saInv) ⟨⟨_, rfl, idd⟩, ⟨_, rfl, idd⟩, ⟨_, rfl, idd⟩, trivial⟩) (LRun.block (LRun.loop (fun j => EnvS l l' j) (fun _ => saInv) l.length (fun j hj => ?_) ?_ (by simp)))
    · exact LRun.post (LRun.step (E := EnvS l l' j) _ (step j true (by omega) (hyes j hj)).1 (step j true (by omega) (hyes j hj)).2 saNext (by kernel_rfl)) ⟨⟨_, rfl, idd⟩, ⟨_, rfl, idd⟩, ⟨_, rfl, idd⟩, trivial⟩
    · refine LRun.post (LRun.step (E := EnvS l l' l.length) [.rlen 0 0, .rel .lt (.tok 2) (.tok 0) false] ⟨rfl, ?_, trivial⟩ noCalls_ok [(0, .rtok 0)] (by kernel_rfl)) ⟨⟨_, rfl, idd⟩, trivial⟩
      show decide ((l.length : Int) < (l.length : Int)) = false
      simp

end Go.Proofs.Ytloekfnlidclcaa

namespace Go.Proofs.Ytloekfnlidclcaa
open Go.RowKit
set_option linter.unusedVariables false

/-- The atom as it is. -/
abbrev atomR (s : ByteArray) : Tm := .mk 2 0 s []
def sError : ByteArray := ⟨#[101, 114, 114, 111, 114]⟩
def sNil : ByteArray := ⟨#[91, 93]⟩
def sDots : ByteArray := ⟨#[46, 46, 46]⟩

theorem atomR_valid {s : ByteArray} : validT (atomR s) = decide ((s.size : Int) ≤ 100) := by
  rw [Bool.eq_iff_iff, valid_iff]
  simp [nodesT, nodesL, fitsT, fitsL, nodeB]

theorem atomT_eq {s : ByteArray} (h : (s.size : Int) ≤ 100) : atomT s = atomR s := by
  unfold atomT cloneT
  rw [if_pos (by show validT (atomR s) = true; rw [atomR_valid]; simpa using h)]

/-- The culprit, or dots. -/
def culT (n : Nat) (c : Tm) : Tm := if 2000 < 3 + (n : Int) + sizeT c then atomR sDots else c

/-- What the program makes: raise. -/
def raiseT (f : ByteArray) (l : List Tm) : Tm := structT sError [structT f l, atomT sNil]
/-- What the reference makes: ball. -/
def ballR (t : Tm) : Tm := cloneT (.mk 3 0 sError [t, atomR sNil])

def aboutT (f : ByteArray) (names : List ByteArray) (c : Tm) : Tm :=
  if validT c = true then if names.all (fun s => decide ((s.size : Int) ≤ 100)) then raiseT f (names.map atomT ++ [culT names.length c]) else zeroT else zeroT
def withR (f : ByteArray) (names : List ByteArray) (c : Tm) : Tm :=
  if validT c = true then ballR (.mk 3 0 f (names.map atomR ++ [culT names.length c])) else zeroT

theorem struct_eq {f : ByteArray} {l : List Tm} (h : validT (.mk 3 0 f l) = true) (hl : l.length ≠ 0) : structT f l = .mk 3 0 f l := by
  unfold structT cloneT
  rw [if_neg hl, if_pos h]

theorem ball_valid_iff {t : Tm} : validT (.mk 3 0 sError [t, atomR sNil]) = true ↔ nodesT t + 2 ≤ 2000 ∧ fitsT t = true := by
  rw [valid_iff]
  have h1 : nodeB (.mk 3 0 sError [t, atomR sNil]) = true := by simp [nodeB, sError, ByteArray.size]
  have h2 : fitsL [t, atomR sNil] = fitsT t := by simp [fitsL, fitsT, nodeB, sNil, ByteArray.size]
  rw [fits_mk, h1, h2]
  simp only [nodesT, nodesL, true_and]
  constructor
  · rintro ⟨a, b⟩; exact ⟨by omega, b⟩
  · rintro ⟨a, b⟩; exact ⟨by omega, b⟩

/-- A structure in an error term, where both are made by the program, or not at all. -/
theorem raise_ball {f : ByteArray} {l : List Tm} (hl : l.length ≠ 0) (hf : validT (.mk 3 0 f l) = true) (hb : validT (.mk 3 0 sError [.mk 3 0 f l, atomR sNil]) = true) : raiseT f l = ballR (.mk 3 0 f l) := by
  unfold raiseT
  rw [struct_eq hf hl, atomT_eq (by decide), struct_eq hb (by simp)]
  simp [ballR, cloneT, hb]

theorem names_nodes : ∀ (names : List ByteArray), nodesL (names.map atomR) = names.length
  | [] => rfl
  | s :: l => by simp only [List.map_cons, nodesL, nodesT, names_nodes l, List.length_cons]; omega

theorem nodesL_append : ∀ (l m : List Tm), nodesL (l ++ m) = nodesL l + nodesL m
  | [], m => by simp [nodesL]
  | t :: l, m => by simp only [List.cons_append, nodesL, nodesL_append l m]; omega

theorem fitsL_append : ∀ (l m : List Tm), fitsL (l ++ m) = (fitsL l && fitsL m)
  | [], m => by simp [fitsL]
  | t :: l, m => by simp only [List.cons_append, fitsL, fitsL_append l m, Bool.and_assoc]

theorem names_fits (names : List ByteArray) : fitsL (names.map atomR) = names.all fun s => decide ((s.size : Int) ≤ 100) := by
  induction names with
  | nil => rfl
  | cons s l ih =>
    simp only [List.map_cons, fitsL, ih, List.all_cons]
    congr 1
    simp [fitsT, fitsL, nodeB]

theorem cul_valid {n : Nat} {c : Tm} (h : validT c = true) : validT (culT n c) = true := by
  unfold culT
  split
  · rw [atomR_valid]; decide
  · exact h

theorem cul_nodes {n : Nat} {c : Tm} (h : validT c = true) (hn : n ≤ 7) : 3 + n + nodesT (culT n c) ≤ 2000 := by
  unfold culT
  have := size_valid h
  split
  · simp [nodesT, nodesL]; omega
  · omega

theorem about_with {f : ByteArray} {names : List ByteArray} {c : Tm} (hf : (f.size : Int) ≤ 100) (hn : names.length ≤ 7) : aboutT f names c = withR f names c := by
  unfold aboutT withR
  by_cases hv : validT c = true
  · rw [if_pos hv, if_pos hv]
    have hlen : (names.map atomR ++ [culT names.length c]).length = names.length + 1 := by simp
    have hnode : nodeB (.mk 3 0 f (names.map atomR ++ [culT names.length c])) = true := by
      simp only [nodeB, hlen]
      simp [hf]
      omega
    have hnodes : nodesT (.mk 3 0 f (names.map atomR ++ [culT names.length c])) = names.length + nodesT (culT names.length c) + 1 := by
      simp only [nodesT, nodesL_append, names_nodes, nodesL]
      omega
    have hcn := cul_nodes (n := names.length) hv hn
    have hcf := valid_fits (cul_valid (n := names.length) hv)
    by_cases hall : names.all (fun s => decide ((s.size : Int) ≤ 100)) = true
    · rw [if_pos hall]
      have hmap : names.map atomT = names.map atomR := List.map_congr_left fun s hs => atomT_eq (by
        have := List.all_eq_true.1 hall s hs
        simpa using this)
      have hfits : fitsT (.mk 3 0 f (names.map atomR ++ [culT names.length c])) = true := by
        rw [fits_mk]
        refine ⟨hnode, ?_⟩
        rw [fitsL_append, names_fits, hall]
        simp [fitsL, hcf]
      rw [hmap]
      exact raise_ball (by rw [hlen]; omega) (valid_iff.2 ⟨by omega, hfits⟩) (ball_valid_iff.2 ⟨by omega, hfits⟩)
    · rw [if_neg hall]
      have : ¬ validT (.mk 3 0 sError [.mk 3 0 f (names.map atomR ++ [culT names.length c]), atomR sNil]) = true := by
        rw [ball_valid_iff]
        rintro ⟨-, h⟩
        have h1 := (fits_mk.1 h).2
        rw [fitsL_append, names_fits] at h1
        simp only [Bool.and_eq_true] at h1
        exact hall h1.1
      simp [ballR, cloneT, this]
  · rw [if_neg hv, if_neg hv]

end Go.Proofs.Ytloekfnlidclcaa

namespace Go.Proofs.Ytloekfnlidclcaa
open Go.RowKit
set_option linter.unusedVariables false

theorem toks_row {E E' : Env} {l : List Nat} {r : Nat} (h : l.map E.T = E'.R r) : ∀ p w v, @Ab.pd E (.toks l) p w v → @Ab.pd E' (.rtok r) p w v := fun p w v ⟨A, cap, e, h1, h2, h3, h4⟩ => by
  show RowAt (E'.R r) p w v
  rw [← h]
  exact ⟨A, cap, by rw [List.length_map]; exact e, by rw [List.length_map]; exact h1, by rw [List.length_map]; exact h2, h3, h4⟩
theorem str_tok {E E' : Env} {s : ByteArray} {n : Nat} (h : E'.S n = s) : ∀ p w v, @Ab.pd E (.val (.string s)) p w v → @Ab.pd E' (.stok n) p w v := fun p w v hv => by
  obtain rfl : v = .string s := hv
  show Value.string s = .string (E'.S n)
  rw [h]
theorem nil_srow {E E' : Env} : ∀ p w v, @Ab.pd E (.val (.slice none 0 0)) p w v → @Ab.pd E' (.srow []) p w v := fun p w v hv => by
  obtain rfl : v = .slice none 0 0 := hv
  exact ⟨none, 0, rfl, by simp, by unfold maxLen; omega, fun j hj => by simp at hj⟩
theorem term_tok' {E E' : Env} {u : Tm} {a : Nat} (h : E'.T a = u) : ∀ p w v, @Ab.pd E (.term u) p w v → @Ab.pd E' (.tok a) p w v := ide (term_tok h)

section
variable [Env]
theorem ent_atom {x : Ab} {s : ByteArray} {k : Nat} (hx : ∀ p w v, x.pd p w v → v = .string s) (hs : s.size ≤ 140737488351232) (hk : Env.T k = atomT s) : Entry 85 [x] (.tok k) := ent_mk (fun _ _ => by kernel_rfl) fun p w vs hv => by
  match vs, hv with
  | [v], ⟨h1, _⟩ =>
    obtain rfl := hx _ _ _ h1
    rw [hk]
    exact makes_new (atom_any s w hs)
theorem ent_int {x : Ab} {n : Int} {k : Nat} (hx : ∀ p w v, x.pd p w v → v = .int .i64 n) (hn : wf64 n) (hk : Env.T k = intT n) : Entry 72 [x] (.tok k) := ent_mk (fun _ _ => by kernel_rfl) fun p w vs hv => by
  match vs, hv with
  | [v], ⟨h1, _⟩ =>
    obtain rfl := hx _ _ _ h1
    rw [hk]
    exact makes_new (int_any n w hn)
theorem ent_struct {x y : Ab} {s : ByteArray} {l : List Tm} {k : Nat} (hx : ∀ p w v, x.pd p w v → v = .string s) (hy : ∀ p w v, y.pd p w v → RowAt l p w v) (hs : s.size ≤ 140737488351232) (hk : Env.T k = structT s l) : Entry 86 [x, y] (.tok k) := ent_mk (fun _ _ => by kernel_rfl) fun p w vs hv => by
  match vs, hv with
  | [v, u], ⟨h1, h2, _⟩ =>
    obtain rfl := hx _ _ _ h1
    obtain ⟨A, cap, rfl, g1, g2, g3, g4⟩ := hy _ _ _ h2
    rw [hk]
    exact makes_new (struct_any s l A cap w hs g1 g2 g3 (ArgsIn.at_w g4))
theorem ent_valid {n : Nat} {b : Bool} (h : validT (Env.T n) = b) : Entry 61 [.tok n] (.val (.bool b)) := ent_tv (fun _ _ => by kernel_rfl) fun w y hy => h ▸ valid_any _ w y hy
theorem ent_rvalid {n : Nat} {b : Bool} (h : validT (Env.T n) = b) : Entry 23 [.tok n] (.val (.bool b)) := ent_tv (fun _ _ => by kernel_rfl) fun w y hy => h ▸ rvalid_any _ w y hy
theorem ent_size {n k : Nat} (h : Env.I k = sizeT (Env.T n)) : Entry 79 [.tok n] (.vtok k) := ent_ti (fun _ _ => by kernel_rfl) fun w y hy => by rw [h]; exact size_any _ w y hy
theorem ent_rsize {n k : Nat} (h : Env.I k = sizeT (Env.T n)) : Entry 21 [.tok n] (.vtok k) := ent_ti (fun _ _ => by kernel_rfl) fun w y hy => by rw [h]; exact rsize_any _ w y hy
theorem toks_at {l : List Nat} : ∀ p w v, (Ab.toks l).pd p w v → RowAt (l.map Env.T) p w v := fun p w v ⟨A, cap, e, h1, h2, h3, h4⟩ =>
  ⟨A, cap, by rw [List.length_map]; exact e, by rw [List.length_map]; exact h1, by rw [List.length_map]; exact h2, h3, h4⟩
end

/-! ### The program's raise and named, the reference's atom, structure, number, ball -/
theorem raise_entry (f : ByteArray) (l : List Tm) (hf : f.size ≤ 140737488351232) : @Entry { T := fun k => match k with | 0 => raiseT f l | 1 => structT f l | _ => atomT sNil, S := fun _ => f, R := fun _ => l } 70 [.stok 0, .rtok 0] (.tok 0) := by
  letI E : Env := { T := fun k => match k with | 0 => raiseT f l | 1 => structT f l | _ => atomT sNil, S := fun _ => f, R := fun _ => l }
  exact entry_code (tbl_ok (T := [(86, [.stok 0, .rtok 0], .tok 1), (85, [.val (.string sNil)], .tok 2), (86, [.val (.string sError), .toks [1, 2]], .tok 0)])
    ⟨ent_struct (fun _ _ _ h => h) idd hf rfl, ent_atom (s := sNil) (fun _ _ _ h => h) (by decide) rfl, ent_struct (s := sError) (fun _ _ _ h => h) toks_at (by decide) rfl, trivial⟩) [.stok 0, .rtok 0] Try.func70 rfl (fun _ _ => by kernel_rfl) (by kernel_rfl) (by kernel_rfl) rfl rfl (by simp [Try.ntmps70])

theorem ent_raise [Env] {x y : Ab} {s : ByteArray} {l : List Tm} {k : Nat} (hx : ∀ p w v, x.pd p w v → v = .string s) (hy : ∀ p w v, y.pd p w v → RowAt l p w v) (hs : s.size ≤ 140737488351232) (hk : Env.T k = raiseT s l) : Entry 70 [x, y] (.tok k) :=
  entry_move (raise_entry s l hs) ⟨hx, hy, trivial⟩ (ide (tok_eq hk.symm))

theorem atomr_entry (s : ByteArray) (hs : s.size ≤ 140737488351232) : @Entry { T := fun _ => atomR s, S := fun _ => s } 74 [.stok 0] (.tok 0) := by
  letI E : Env := { T := fun _ => atomR s, S := fun _ => s }
  exact entry_facts (E := E) [.mk 0 (.lit 2) (.lit 0) (.tok 0) []] ⟨⟨rfl, by show wf64 2; unfold wf64; omega, by show wf64 0; unfold wf64; omega, hs⟩, trivial⟩ noCalls_ok [.stok 0] Try.func74 rfl (fun _ _ => by kernel_rfl) (by kernel_rfl) rfl rfl (by simp [Try.ntmps74])

theorem ent_ratom [Env] {x : Ab} {s : ByteArray} {k : Nat} (hx : ∀ p w v, x.pd p w v → v = .string s) (hs : s.size ≤ 140737488351232) (hk : Env.T k = atomR s) : Entry 74 [x] (.tok k) :=
  entry_move (atomr_entry s hs) ⟨hx, trivial⟩ (ide (tok_eq hk.symm))

theorem structure_entry (s : ByteArray) (l : List Tm) (hs : s.size ≤ 140737488351232) : @Entry { T := fun _ => .mk 3 0 s l, S := fun _ => s, R := fun _ => l } 76 [.stok 0, .rtok 0] (.tok 0) := by
  letI E : Env := { T := fun _ => .mk 3 0 s l, S := fun _ => s, R := fun _ => l }
  exact entry_facts (E := E) [.mkr 0 (.lit 3) (.lit 0) (.tok 0) 0] ⟨⟨rfl, by show wf64 3; unfold wf64; omega, by show wf64 0; unfold wf64; omega, hs⟩, trivial⟩ noCalls_ok [.stok 0, .rtok 0] Try.func76 rfl (fun _ _ => by kernel_rfl) (by kernel_rfl) rfl rfl (by simp [Try.ntmps76])

theorem ent_rstruct [Env] {x y : Ab} {s : ByteArray} {l : List Tm} {k : Nat} (hx : ∀ p w v, x.pd p w v → v = .string s) (hy : ∀ p w v, y.pd p w v → RowAt l p w v) (hs : s.size ≤ 140737488351232) (hk : Env.T k = .mk 3 0 s l) : Entry 76 [x, y] (.tok k) :=
  entry_move (structure_entry s l hs) ⟨hx, hy, trivial⟩ (ide (tok_eq hk.symm))

theorem ball_entry (t : Tm) : @Entry { T := fun k => match k with | 0 => t | 1 => atomR sNil | 2 => .mk 3 0 sError [t, atomR sNil] | _ => ballR t } 73 [.tok 0] (.tok 3) := by
  letI E : Env := { T := fun k => match k with | 0 => t | 1 => atomR sNil | 2 => .mk 3 0 sError [t, atomR sNil] | _ => ballR t }
  exact entry_code (tbl_ok (T := [(74, [.val (.string sNil)], .tok 1), (76, [.val (.string sError), .toks [0, 1]], .tok 2), (26, [.tok 2], .tok 3)])
    ⟨ent_ratom (s := sNil) (fun _ _ _ h => h) (by decide) rfl, ent_rstruct (s := sError) (fun _ _ _ h => h) toks_at (by decide) rfl, ConT.ent (rclone_con _), trivial⟩) [.tok 0] Try.func73 rfl (fun _ _ => by kernel_rfl) (by kernel_rfl) (by kernel_rfl) rfl rfl (by simp [Try.ntmps73])

theorem ent_ball [Env] {n k : Nat} (hk : Env.T k = ballR (Env.T n)) : Entry 73 [.tok n] (.tok k) :=
  entry_move (ball_entry (Env.T n)) ⟨idd, trivial⟩ (ide (tok_eq hk.symm))

abbrev EnvAbout0 (c : Tm) (f : ByteArray) : Env :=
  { T := fun k => match k with | 0 => c | 3 => atomR sDots | 4 => aboutT f [] c | _ => .mk 3 0 f ([].map atomT ++ [culT 0 c])
    I := fun k => match k with | 0 => sizeT c | 1 => 3 + sizeT c | 4 => 3 + sizeT c + 1 | _ => 0
    S := fun _ => f
    R := fun k => match k with | _ => [].map atomT ++ [culT 0 c] }

set_option maxHeartbeats 1000000 in
theorem about0_entry (c : Tm) (f : ByteArray) (hf : f.size ≤ 140737488351232) : @Entry (EnvAbout0 c f) 68 [.tok 0, .stok 0, .srow []] (.tok 4) := by
  letI E : Env := EnvAbout0 c f
  cases hv : validT c with
  | false =>
    refine entry_imp (x := .term zeroT) ?_ (term_tok' (show aboutT f [] c = zeroT by simp [aboutT, hv]))
    exact entry_facts (E := E) [] trivial (tbl_ok (T := [(61, [.tok 0], .val (.bool false))]) ⟨ent_valid hv, trivial⟩) [.tok 0, .stok 0, .srow []] Try.func68 rfl (fun _ _ => by kernel_rfl) (by kernel_rfl) rfl rfl (by simp [Try.ntmps68])
  | true =>
    have sb := size_bd c
    obtain ⟨big, hbig⟩ : ∃ b, decide (2000 < 3 + ((0 : Nat) : Int) + sizeT c) = b := ⟨_, rfl⟩
    have hbig' : decide (2000 < (3 + sizeT c : Int)) = big := by rw [← hbig, Bool.eq_iff_iff]; simp only [decide_eq_true_eq]; omega
    cases big with
    | true =>
      have hcul : culT 0 c = atomR sDots := by unfold culT; rw [if_pos (of_decide_eq_true hbig)]
      have hrow : [].map atomT ++ [culT 0 c] = [] ++ [atomR sDots] := by rw [hcul]; rfl
      exact entry_facts (E := E) [.ari .add (.lit 3) (.tok 0) 1, .rel .lt (.lit 2000) (.tok 1) true, .push none 3 5 true] ⟨⟨rfl, by show wf64 (3 + sizeT c); unfold wf64; omega⟩, hbig', ⟨hrow, by show ([].map atomT ++ [culT 0 c]).length ≤ 1000000; simp⟩, trivial⟩ (tbl_ok (T := [(61, [.tok 0], .val (.bool true)), (79, [.tok 0], .vtok 0), (85, [.val (.string sDots)], .tok 3), (70, [.stok 0, .rtok 5], .tok 4)])
        ⟨ent_valid hv, ent_size rfl, ent_atom (s := sDots) (fun _ _ _ h => h) (by decide) (by show atomR sDots = atomT sDots; rw [atomT_eq (by decide)]), ent_raise (fun _ _ _ h => h) idd hf (by show aboutT f [] c = raiseT f ([].map atomT ++ [culT 0 c]); simp [aboutT, hv]), trivial⟩) [.tok 0, .stok 0, .srow []] Try.func68 rfl (fun _ _ => by kernel_rfl) (by kernel_rfl) rfl rfl (by simp [Try.ntmps68])
    | false =>
      have hcul : culT 0 c = c := by unfold culT; rw [if_neg (of_decide_eq_false hbig)]
      have hrow : [].map atomT ++ [culT 0 c] = [] ++ [c] := by rw [hcul]; rfl
      exact entry_facts (E := E) [.ari .add (.lit 3) (.tok 0) 1, .rel .lt (.lit 2000) (.tok 1) false, .push none 0 5 true] ⟨⟨rfl, by show wf64 (3 + sizeT c); unfold wf64; omega⟩, hbig', ⟨hrow, by show ([].map atomT ++ [culT 0 c]).length ≤ 1000000; simp⟩, trivial⟩ (tbl_ok (T := [(61, [.tok 0], .val (.bool true)), (79, [.tok 0], .vtok 0), (85, [.val (.string sDots)], .tok 3), (70, [.stok 0, .rtok 5], .tok 4)])
        ⟨ent_valid hv, ent_size rfl, ent_atom (s := sDots) (fun _ _ _ h => h) (by decide) (by show atomR sDots = atomT sDots; rw [atomT_eq (by decide)]), ent_raise (fun _ _ _ h => h) idd hf (by show aboutT f [] c = raiseT f ([].map atomT ++ [culT 0 c]); simp [aboutT, hv]), trivial⟩) [.tok 0, .stok 0, .srow []] Try.func68 rfl (fun _ _ => by kernel_rfl) (by kernel_rfl) rfl rfl (by simp [Try.ntmps68])

abbrev EnvWith0 (c : Tm) (f : ByteArray) : Env :=
  { T := fun k => match k with | 0 => c | 3 => atomR sDots | 4 => withR f [] c | _ => .mk 3 0 f ([].map atomR ++ [culT 0 c])
    I := fun k => match k with | 0 => sizeT c | 1 => 2 + sizeT c | 4 => 2 + sizeT c + 1 | _ => 0
    S := fun _ => f
    R := fun k => match k with | _ => [].map atomR ++ [culT 0 c] }

set_option maxHeartbeats 1000000 in
theorem with0_entry (c : Tm) (f : ByteArray) (hf : f.size ≤ 140737488351232) : @Entry (EnvWith0 c f) 75 [.tok 0, .stok 0, .srow []] (.tok 4) := by
  letI E : Env := EnvWith0 c f
  cases hv : validT c with
  | false =>
    refine entry_imp (x := .term zeroT) ?_ (term_tok' (show withR f [] c = zeroT by simp [withR, hv]))
    exact entry_facts (E := E) [] trivial (tbl_ok (T := [(23, [.tok 0], .val (.bool false))]) ⟨ent_rvalid hv, trivial⟩) [.tok 0, .stok 0, .srow []] Try.func75 rfl (fun _ _ => by kernel_rfl) (by kernel_rfl) rfl rfl (by simp [Try.ntmps75])
  | true =>
    have sb := size_bd c
    obtain ⟨big, hbig⟩ : ∃ b, decide (2000 < 3 + ((0 : Nat) : Int) + sizeT c) = b := ⟨_, rfl⟩
    have hbig' : decide (2000 < (2 + sizeT c + 1 : Int)) = big := by rw [← hbig, Bool.eq_iff_iff]; simp only [decide_eq_true_eq]; omega
    cases big with
    | true =>
      have hcul : culT 0 c = atomR sDots := by unfold culT; rw [if_pos (of_decide_eq_true hbig)]
      have hrow : [].map atomR ++ [culT 0 c] = [] ++ [atomR sDots] := by rw [hcul]; rfl
      exact entry_facts (E := E) [.ari .add (.lit 2) (.tok 0) 1, .ari .add (.tok 1) (.lit 1) 4, .rel .lt (.lit 2000) (.tok 4) true, .push none 3 5 true] ⟨⟨rfl, by show wf64 (2 + sizeT c); unfold wf64; omega⟩, ⟨rfl, by show wf64 (2 + sizeT c + 1); unfold wf64; omega⟩, hbig', ⟨hrow, by show ([].map atomR ++ [culT 0 c]).length ≤ 1000000; simp⟩, trivial⟩ (tbl_ok (T := [(23, [.tok 0], .val (.bool true)), (21, [.tok 0], .vtok 0), (74, [.val (.string sDots)], .tok 3), (76, [.stok 0, .rtok 5], .tok 5), (73, [.tok 5], .tok 4)])
        ⟨ent_rvalid hv, ent_rsize rfl, ent_ratom (s := sDots) (fun _ _ _ h => h) (by decide) rfl, ent_rstruct (fun _ _ _ h => h) idd hf rfl, ent_ball (by show withR f [] c = ballR (.mk 3 0 f ([].map atomR ++ [culT 0 c])); simp [withR, hv]), trivial⟩) [.tok 0, .stok 0, .srow []] Try.func75 rfl (fun _ _ => by kernel_rfl) (by kernel_rfl) rfl rfl (by simp [Try.ntmps75])
    | false =>
      have hcul : culT 0 c = c := by unfold culT; rw [if_neg (of_decide_eq_false hbig)]
      have hrow : [].map atomR ++ [culT 0 c] = [] ++ [c] := by rw [hcul]; rfl
      exact entry_facts (E := E) [.ari .add (.lit 2) (.tok 0) 1, .ari .add (.tok 1) (.lit 1) 4, .rel .lt (.lit 2000) (.tok 4) false, .push none 0 5 true] ⟨⟨rfl, by show wf64 (2 + sizeT c); unfold wf64; omega⟩, ⟨rfl, by show wf64 (2 + sizeT c + 1); unfold wf64; omega⟩, hbig', ⟨hrow, by show ([].map atomR ++ [culT 0 c]).length ≤ 1000000; simp⟩, trivial⟩ (tbl_ok (T := [(23, [.tok 0], .val (.bool true)), (21, [.tok 0], .vtok 0), (74, [.val (.string sDots)], .tok 3), (76, [.stok 0, .rtok 5], .tok 5), (73, [.tok 5], .tok 4)])
        ⟨ent_rvalid hv, ent_rsize rfl, ent_ratom (s := sDots) (fun _ _ _ h => h) (by decide) rfl, ent_rstruct (fun _ _ _ h => h) idd hf rfl, ent_ball (by show withR f [] c = ballR (.mk 3 0 f ([].map atomR ++ [culT 0 c])); simp [withR, hv]), trivial⟩) [.tok 0, .stok 0, .srow []] Try.func75 rfl (fun _ _ => by kernel_rfl) (by kernel_rfl) rfl rfl (by simp [Try.ntmps75])

abbrev EnvAbout1 (c : Tm) (f : ByteArray) (n1 : ByteArray) : Env :=
  { T := fun k => match k with | 0 => c | 1 => atomT n1 | 3 => atomR sDots | 4 => aboutT f [n1] c | _ => .mk 3 0 f ([n1].map atomT ++ [culT 1 c])
    I := fun k => match k with | 0 => sizeT c | 1 => 4 + sizeT c | 4 => 4 + sizeT c + 1 | 2 => (n1.size : Int) | _ => 0
    S := fun k => match k with | 0 => f | _ => n1
    R := fun k => match k with | 0 => [atomT n1] | _ => [n1].map atomT ++ [culT 1 c] }

set_option maxHeartbeats 1000000 in
theorem about1_entry (c : Tm) (f : ByteArray) (n1 : ByteArray) (hf : f.size ≤ 140737488351232) (hn1 : n1.size ≤ 140737488351232) : @Entry (EnvAbout1 c f n1) 68 [.tok 0, .stok 0, .srow [.tok 1]] (.tok 4) := by
  letI E : Env := EnvAbout1 c f n1
  cases hv : validT c with
  | false =>
    refine entry_imp (x := .term zeroT) ?_ (term_tok' (show aboutT f [n1] c = zeroT by simp [aboutT, hv]))
    exact entry_facts (E := E) [] trivial (tbl_ok (T := [(61, [.tok 0], .val (.bool false))]) ⟨ent_valid hv, trivial⟩) [.tok 0, .stok 0, .srow [.tok 1]] Try.func68 rfl (fun _ _ => by kernel_rfl) (by kernel_rfl) rfl rfl (by simp [Try.ntmps68])
  | true =>
    have sb := size_bd c
    obtain ⟨b1, hb1⟩ : ∃ b, decide (100 < (n1.size : Int)) = b := ⟨_, rfl⟩
    cases b1 with
    | true =>
      have hl : ¬ (n1.size : Int) ≤ 100 := by have := of_decide_eq_true hb1; omega
      refine entry_imp (x := .term zeroT) ?_ (term_tok' (show aboutT f [n1] c = zeroT by simp [aboutT, hv, hl]))
      exact entry_facts (E := E) [.slen 1 2, .rel .lt (.lit 100) (.tok 2) true] ⟨rfl, hb1, trivial⟩ (tbl_ok (T := [(61, [.tok 0], .val (.bool true))]) ⟨ent_valid hv, trivial⟩) [.tok 0, .stok 0, .srow [.tok 1]] Try.func68 rfl (fun _ _ => by kernel_rfl) (by kernel_rfl) rfl rfl (by simp [Try.ntmps68])
    | false =>
    have hl1 : (n1.size : Int) ≤ 100 := by have := of_decide_eq_false hb1; omega
    obtain ⟨big, hbig⟩ : ∃ b, decide (2000 < 3 + ((1 : Nat) : Int) + sizeT c) = b := ⟨_, rfl⟩
    have hbig' : decide (2000 < (4 + sizeT c : Int)) = big := by rw [← hbig, Bool.eq_iff_iff]; simp only [decide_eq_true_eq]; omega
    cases big with
    | true =>
      have hcul : culT 1 c = atomR sDots := by unfold culT; rw [if_pos (of_decide_eq_true hbig)]
      have hrow : [n1].map atomT ++ [culT 1 c] = [atomT n1] ++ [atomR sDots] := by rw [hcul]; rfl
      exact entry_facts (E := E) [.slen 1 2, .rel .lt (.lit 100) (.tok 2) false, .ari .add (.lit 4) (.tok 0) 1, .rel .lt (.lit 2000) (.tok 1) true, .push none 1 0 false, .push (some 0) 3 5 true] ⟨rfl, hb1, ⟨rfl, by show wf64 (4 + sizeT c); unfold wf64; omega⟩, hbig', ⟨rfl, by show (1 : Nat) ≤ 1000000; omega⟩, ⟨hrow, by show ([n1].map atomT ++ [culT 1 c]).length ≤ 1000000; simp⟩, trivial⟩ (tbl_ok (T := [(61, [.tok 0], .val (.bool true)), (85, [.stok 1], .tok 1), (79, [.tok 0], .vtok 0), (85, [.val (.string sDots)], .tok 3), (70, [.stok 0, .rtok 5], .tok 4)])
        ⟨ent_valid hv, ent_atom (fun _ _ _ h => h) hn1 rfl, ent_size rfl, ent_atom (s := sDots) (fun _ _ _ h => h) (by decide) (by show atomR sDots = atomT sDots; rw [atomT_eq (by decide)]), ent_raise (fun _ _ _ h => h) idd hf (by show aboutT f [n1] c = raiseT f ([n1].map atomT ++ [culT 1 c]); simp [aboutT, hv, hl1]), trivial⟩) [.tok 0, .stok 0, .srow [.tok 1]] Try.func68 rfl (fun _ _ => by kernel_rfl) (by kernel_rfl) rfl rfl (by simp [Try.ntmps68])
    | false =>
      have hcul : culT 1 c = c := by unfold culT; rw [if_neg (of_decide_eq_false hbig)]
      have hrow : [n1].map atomT ++ [culT 1 c] = [atomT n1] ++ [c] := by rw [hcul]; rfl
      exact entry_facts (E := E) [.slen 1 2, .rel .lt (.lit 100) (.tok 2) false, .ari .add (.lit 4) (.tok 0) 1, .rel .lt (.lit 2000) (.tok 1) false, .push none 1 0 false, .push (some 0) 0 5 true] ⟨rfl, hb1, ⟨rfl, by show wf64 (4 + sizeT c); unfold wf64; omega⟩, hbig', ⟨rfl, by show (1 : Nat) ≤ 1000000; omega⟩, ⟨hrow, by show ([n1].map atomT ++ [culT 1 c]).length ≤ 1000000; simp⟩, trivial⟩ (tbl_ok (T := [(61, [.tok 0], .val (.bool true)), (85, [.stok 1], .tok 1), (79, [.tok 0], .vtok 0), (85, [.val (.string sDots)], .tok 3), (70, [.stok 0, .rtok 5], .tok 4)])
        ⟨ent_valid hv, ent_atom (fun _ _ _ h => h) hn1 rfl, ent_size rfl, ent_atom (s := sDots) (fun _ _ _ h => h) (by decide) (by show atomR sDots = atomT sDots; rw [atomT_eq (by decide)]), ent_raise (fun _ _ _ h => h) idd hf (by show aboutT f [n1] c = raiseT f ([n1].map atomT ++ [culT 1 c]); simp [aboutT, hv, hl1]), trivial⟩) [.tok 0, .stok 0, .srow [.tok 1]] Try.func68 rfl (fun _ _ => by kernel_rfl) (by kernel_rfl) rfl rfl (by simp [Try.ntmps68])

abbrev EnvWith1 (c : Tm) (f : ByteArray) (n1 : ByteArray) : Env :=
  { T := fun k => match k with | 0 => c | 1 => atomR n1 | 3 => atomR sDots | 4 => withR f [n1] c | _ => .mk 3 0 f ([n1].map atomR ++ [culT 1 c])
    I := fun k => match k with | 0 => sizeT c | 1 => 3 + sizeT c | 4 => 3 + sizeT c + 1 | 2 => (n1.size : Int) | _ => 0
    S := fun k => match k with | 0 => f | _ => n1
    R := fun k => match k with | 0 => [atomR n1] | _ => [n1].map atomR ++ [culT 1 c] }

set_option maxHeartbeats 1000000 in
theorem with1_entry (c : Tm) (f : ByteArray) (n1 : ByteArray) (hf : f.size ≤ 140737488351232) (hn1 : n1.size ≤ 140737488351232) : @Entry (EnvWith1 c f n1) 75 [.tok 0, .stok 0, .srow [.tok 1]] (.tok 4) := by
  letI E : Env := EnvWith1 c f n1
  cases hv : validT c with
  | false =>
    refine entry_imp (x := .term zeroT) ?_ (term_tok' (show withR f [n1] c = zeroT by simp [withR, hv]))
    exact entry_facts (E := E) [] trivial (tbl_ok (T := [(23, [.tok 0], .val (.bool false))]) ⟨ent_rvalid hv, trivial⟩) [.tok 0, .stok 0, .srow [.tok 1]] Try.func75 rfl (fun _ _ => by kernel_rfl) (by kernel_rfl) rfl rfl (by simp [Try.ntmps75])
  | true =>
    have sb := size_bd c
    obtain ⟨big, hbig⟩ : ∃ b, decide (2000 < 3 + ((1 : Nat) : Int) + sizeT c) = b := ⟨_, rfl⟩
    have hbig' : decide (2000 < (3 + sizeT c + 1 : Int)) = big := by rw [← hbig, Bool.eq_iff_iff]; simp only [decide_eq_true_eq]; omega
    cases big with
    | true =>
      have hcul : culT 1 c = atomR sDots := by unfold culT; rw [if_pos (of_decide_eq_true hbig)]
      have hrow : [n1].map atomR ++ [culT 1 c] = [atomR n1] ++ [atomR sDots] := by rw [hcul]; rfl
      exact entry_facts (E := E) [.ari .add (.lit 3) (.tok 0) 1, .ari .add (.tok 1) (.lit 1) 4, .rel .lt (.lit 2000) (.tok 4) true, .push none 1 0 false, .push (some 0) 3 5 true] ⟨⟨rfl, by show wf64 (3 + sizeT c); unfold wf64; omega⟩, ⟨rfl, by show wf64 (3 + sizeT c + 1); unfold wf64; omega⟩, hbig', ⟨rfl, by show (1 : Nat) ≤ 1000000; omega⟩, ⟨hrow, by show ([n1].map atomR ++ [culT 1 c]).length ≤ 1000000; simp⟩, trivial⟩ (tbl_ok (T := [(23, [.tok 0], .val (.bool true)), (74, [.stok 1], .tok 1), (21, [.tok 0], .vtok 0), (74, [.val (.string sDots)], .tok 3), (76, [.stok 0, .rtok 5], .tok 5), (73, [.tok 5], .tok 4)])
        ⟨ent_rvalid hv, ent_ratom (fun _ _ _ h => h) hn1 rfl, ent_rsize rfl, ent_ratom (s := sDots) (fun _ _ _ h => h) (by decide) rfl, ent_rstruct (fun _ _ _ h => h) idd hf rfl, ent_ball (by show withR f [n1] c = ballR (.mk 3 0 f ([n1].map atomR ++ [culT 1 c])); simp [withR, hv]), trivial⟩) [.tok 0, .stok 0, .srow [.tok 1]] Try.func75 rfl (fun _ _ => by kernel_rfl) (by kernel_rfl) rfl rfl (by simp [Try.ntmps75])
    | false =>
      have hcul : culT 1 c = c := by unfold culT; rw [if_neg (of_decide_eq_false hbig)]
      have hrow : [n1].map atomR ++ [culT 1 c] = [atomR n1] ++ [c] := by rw [hcul]; rfl
      exact entry_facts (E := E) [.ari .add (.lit 3) (.tok 0) 1, .ari .add (.tok 1) (.lit 1) 4, .rel .lt (.lit 2000) (.tok 4) false, .push none 1 0 false, .push (some 0) 0 5 true] ⟨⟨rfl, by show wf64 (3 + sizeT c); unfold wf64; omega⟩, ⟨rfl, by show wf64 (3 + sizeT c + 1); unfold wf64; omega⟩, hbig', ⟨rfl, by show (1 : Nat) ≤ 1000000; omega⟩, ⟨hrow, by show ([n1].map atomR ++ [culT 1 c]).length ≤ 1000000; simp⟩, trivial⟩ (tbl_ok (T := [(23, [.tok 0], .val (.bool true)), (74, [.stok 1], .tok 1), (21, [.tok 0], .vtok 0), (74, [.val (.string sDots)], .tok 3), (76, [.stok 0, .rtok 5], .tok 5), (73, [.tok 5], .tok 4)])
        ⟨ent_rvalid hv, ent_ratom (fun _ _ _ h => h) hn1 rfl, ent_rsize rfl, ent_ratom (s := sDots) (fun _ _ _ h => h) (by decide) rfl, ent_rstruct (fun _ _ _ h => h) idd hf rfl, ent_ball (by show withR f [n1] c = ballR (.mk 3 0 f ([n1].map atomR ++ [culT 1 c])); simp [withR, hv]), trivial⟩) [.tok 0, .stok 0, .srow [.tok 1]] Try.func75 rfl (fun _ _ => by kernel_rfl) (by kernel_rfl) rfl rfl (by simp [Try.ntmps75])

abbrev EnvAbout2 (c : Tm) (f : ByteArray) (n1 : ByteArray) (n2 : ByteArray) : Env :=
  { T := fun k => match k with | 0 => c | 1 => atomT n1 | 2 => atomT n2 | 3 => atomR sDots | 4 => aboutT f [n1, n2] c | _ => .mk 3 0 f ([n1, n2].map atomT ++ [culT 2 c])
    I := fun k => match k with | 0 => sizeT c | 1 => 5 + sizeT c | 4 => 5 + sizeT c + 1 | 2 => (n1.size : Int) | _ => (n2.size : Int)
    S := fun k => match k with | 0 => f | 1 => n1 | _ => n2
    R := fun k => match k with | 0 => [atomT n1] | 1 => [atomT n1, atomT n2] | _ => [n1, n2].map atomT ++ [culT 2 c] }

set_option maxHeartbeats 1000000 in
theorem about2_entry (c : Tm) (f : ByteArray) (n1 : ByteArray) (n2 : ByteArray) (hf : f.size ≤ 140737488351232) (hn1 : n1.size ≤ 140737488351232) (hn2 : n2.size ≤ 140737488351232) : @Entry (EnvAbout2 c f n1 n2) 68 [.tok 0, .stok 0, .srow [.tok 1, .tok 2]] (.tok 4) := by
  letI E : Env := EnvAbout2 c f n1 n2
  cases hv : validT c with
  | false =>
    refine entry_imp (x := .term zeroT) ?_ (term_tok' (show aboutT f [n1, n2] c = zeroT by simp [aboutT, hv]))
    exact entry_facts (E := E) [] trivial (tbl_ok (T := [(61, [.tok 0], .val (.bool false))]) ⟨ent_valid hv, trivial⟩) [.tok 0, .stok 0, .srow [.tok 1, .tok 2]] Try.func68 rfl (fun _ _ => by kernel_rfl) (by kernel_rfl) rfl rfl (by simp [Try.ntmps68])
  | true =>
    have sb := size_bd c
    obtain ⟨b1, hb1⟩ : ∃ b, decide (100 < (n1.size : Int)) = b := ⟨_, rfl⟩
    obtain ⟨b2, hb2⟩ : ∃ b, decide (100 < (n2.size : Int)) = b := ⟨_, rfl⟩
    cases b1 with
    | true =>
      have hl : ¬ (n1.size : Int) ≤ 100 := by have := of_decide_eq_true hb1; omega
      refine entry_imp (x := .term zeroT) ?_ (term_tok' (show aboutT f [n1, n2] c = zeroT by simp [aboutT, hv, hl]))
      exact entry_facts (E := E) [.slen 1 2, .rel .lt (.lit 100) (.tok 2) true] ⟨rfl, hb1, trivial⟩ (tbl_ok (T := [(61, [.tok 0], .val (.bool true))]) ⟨ent_valid hv, trivial⟩) [.tok 0, .stok 0, .srow [.tok 1, .tok 2]] Try.func68 rfl (fun _ _ => by kernel_rfl) (by kernel_rfl) rfl rfl (by simp [Try.ntmps68])
    | false =>
    have hl1 : (n1.size : Int) ≤ 100 := by have := of_decide_eq_false hb1; omega
    cases b2 with
    | true =>
      have hl : ¬ (n2.size : Int) ≤ 100 := by have := of_decide_eq_true hb2; omega
      refine entry_imp (x := .term zeroT) ?_ (term_tok' (show aboutT f [n1, n2] c = zeroT by simp [aboutT, hv, hl]))
      exact entry_facts (E := E) [.slen 1 2, .rel .lt (.lit 100) (.tok 2) false, .slen 2 3, .rel .lt (.lit 100) (.tok 3) true, .push none 1 0 false] ⟨rfl, hb1, rfl, hb2, ⟨rfl, by show (1 : Nat) ≤ 1000000; omega⟩, trivial⟩ (tbl_ok (T := [(61, [.tok 0], .val (.bool true)), (85, [.stok 1], .tok 1)]) ⟨ent_valid hv, ent_atom (fun _ _ _ h => h) hn1 rfl, trivial⟩) [.tok 0, .stok 0, .srow [.tok 1, .tok 2]] Try.func68 rfl (fun _ _ => by kernel_rfl) (by kernel_rfl) rfl rfl (by simp [Try.ntmps68])
    | false =>
    have hl2 : (n2.size : Int) ≤ 100 := by have := of_decide_eq_false hb2; omega
    obtain ⟨big, hbig⟩ : ∃ b, decide (2000 < 3 + ((2 : Nat) : Int) + sizeT c) = b := ⟨_, rfl⟩
    have hbig' : decide (2000 < (5 + sizeT c : Int)) = big := by rw [← hbig, Bool.eq_iff_iff]; simp only [decide_eq_true_eq]; omega
    cases big with
    | true =>
      have hcul : culT 2 c = atomR sDots := by unfold culT; rw [if_pos (of_decide_eq_true hbig)]
      have hrow : [n1, n2].map atomT ++ [culT 2 c] = [atomT n1, atomT n2] ++ [atomR sDots] := by rw [hcul]; rfl
      exact entry_facts (E := E) [.slen 1 2, .rel .lt (.lit 100) (.tok 2) false, .slen 2 3, .rel .lt (.lit 100) (.tok 3) false, .ari .add (.lit 5) (.tok 0) 1, .rel .lt (.lit 2000) (.tok 1) true, .push none 1 0 false, .push (some 0) 2 1 false, .push (some 1) 3 5 true] ⟨rfl, hb1, rfl, hb2, ⟨rfl, by show wf64 (5 + sizeT c); unfold wf64; omega⟩, hbig', ⟨rfl, by show (1 : Nat) ≤ 1000000; omega⟩, ⟨rfl, by show (2 : Nat) ≤ 1000000; omega⟩, ⟨hrow, by show ([n1, n2].map atomT ++ [culT 2 c]).length ≤ 1000000; simp⟩, trivial⟩ (tbl_ok (T := [(61, [.tok 0], .val (.bool true)), (85, [.stok 1], .tok 1), (85, [.stok 2], .tok 2), (79, [.tok 0], .vtok 0), (85, [.val (.string sDots)], .tok 3), (70, [.stok 0, .rtok 5], .tok 4)])
        ⟨ent_valid hv, ent_atom (fun _ _ _ h => h) hn1 rfl, ent_atom (fun _ _ _ h => h) hn2 rfl, ent_size rfl, ent_atom (s := sDots) (fun _ _ _ h => h) (by decide) (by show atomR sDots = atomT sDots; rw [atomT_eq (by decide)]), ent_raise (fun _ _ _ h => h) idd hf (by show aboutT f [n1, n2] c = raiseT f ([n1, n2].map atomT ++ [culT 2 c]); simp [aboutT, hv, hl1, hl2]), trivial⟩) [.tok 0, .stok 0, .srow [.tok 1, .tok 2]] Try.func68 rfl (fun _ _ => by kernel_rfl) (by kernel_rfl) rfl rfl (by simp [Try.ntmps68])
    | false =>
      have hcul : culT 2 c = c := by unfold culT; rw [if_neg (of_decide_eq_false hbig)]
      have hrow : [n1, n2].map atomT ++ [culT 2 c] = [atomT n1, atomT n2] ++ [c] := by rw [hcul]; rfl
      exact entry_facts (E := E) [.slen 1 2, .rel .lt (.lit 100) (.tok 2) false, .slen 2 3, .rel .lt (.lit 100) (.tok 3) false, .ari .add (.lit 5) (.tok 0) 1, .rel .lt (.lit 2000) (.tok 1) false, .push none 1 0 false, .push (some 0) 2 1 false, .push (some 1) 0 5 true] ⟨rfl, hb1, rfl, hb2, ⟨rfl, by show wf64 (5 + sizeT c); unfold wf64; omega⟩, hbig', ⟨rfl, by show (1 : Nat) ≤ 1000000; omega⟩, ⟨rfl, by show (2 : Nat) ≤ 1000000; omega⟩, ⟨hrow, by show ([n1, n2].map atomT ++ [culT 2 c]).length ≤ 1000000; simp⟩, trivial⟩ (tbl_ok (T := [(61, [.tok 0], .val (.bool true)), (85, [.stok 1], .tok 1), (85, [.stok 2], .tok 2), (79, [.tok 0], .vtok 0), (85, [.val (.string sDots)], .tok 3), (70, [.stok 0, .rtok 5], .tok 4)])
        ⟨ent_valid hv, ent_atom (fun _ _ _ h => h) hn1 rfl, ent_atom (fun _ _ _ h => h) hn2 rfl, ent_size rfl, ent_atom (s := sDots) (fun _ _ _ h => h) (by decide) (by show atomR sDots = atomT sDots; rw [atomT_eq (by decide)]), ent_raise (fun _ _ _ h => h) idd hf (by show aboutT f [n1, n2] c = raiseT f ([n1, n2].map atomT ++ [culT 2 c]); simp [aboutT, hv, hl1, hl2]), trivial⟩) [.tok 0, .stok 0, .srow [.tok 1, .tok 2]] Try.func68 rfl (fun _ _ => by kernel_rfl) (by kernel_rfl) rfl rfl (by simp [Try.ntmps68])

abbrev EnvWith2 (c : Tm) (f : ByteArray) (n1 : ByteArray) (n2 : ByteArray) : Env :=
  { T := fun k => match k with | 0 => c | 1 => atomR n1 | 2 => atomR n2 | 3 => atomR sDots | 4 => withR f [n1, n2] c | _ => .mk 3 0 f ([n1, n2].map atomR ++ [culT 2 c])
    I := fun k => match k with | 0 => sizeT c | 1 => 4 + sizeT c | 4 => 4 + sizeT c + 1 | 2 => (n1.size : Int) | _ => (n2.size : Int)
    S := fun k => match k with | 0 => f | 1 => n1 | _ => n2
    R := fun k => match k with | 0 => [atomR n1] | 1 => [atomR n1, atomR n2] | _ => [n1, n2].map atomR ++ [culT 2 c] }

set_option maxHeartbeats 1000000 in
theorem with2_entry (c : Tm) (f : ByteArray) (n1 : ByteArray) (n2 : ByteArray) (hf : f.size ≤ 140737488351232) (hn1 : n1.size ≤ 140737488351232) (hn2 : n2.size ≤ 140737488351232) : @Entry (EnvWith2 c f n1 n2) 75 [.tok 0, .stok 0, .srow [.tok 1, .tok 2]] (.tok 4) := by
  letI E : Env := EnvWith2 c f n1 n2
  cases hv : validT c with
  | false =>
    refine entry_imp (x := .term zeroT) ?_ (term_tok' (show withR f [n1, n2] c = zeroT by simp [withR, hv]))
    exact entry_facts (E := E) [] trivial (tbl_ok (T := [(23, [.tok 0], .val (.bool false))]) ⟨ent_rvalid hv, trivial⟩) [.tok 0, .stok 0, .srow [.tok 1, .tok 2]] Try.func75 rfl (fun _ _ => by kernel_rfl) (by kernel_rfl) rfl rfl (by simp [Try.ntmps75])
  | true =>
    have sb := size_bd c
    obtain ⟨big, hbig⟩ : ∃ b, decide (2000 < 3 + ((2 : Nat) : Int) + sizeT c) = b := ⟨_, rfl⟩
    have hbig' : decide (2000 < (4 + sizeT c + 1 : Int)) = big := by rw [← hbig, Bool.eq_iff_iff]; simp only [decide_eq_true_eq]; omega
    cases big with
    | true =>
      have hcul : culT 2 c = atomR sDots := by unfold culT; rw [if_pos (of_decide_eq_true hbig)]
      have hrow : [n1, n2].map atomR ++ [culT 2 c] = [atomR n1, atomR n2] ++ [atomR sDots] := by rw [hcul]; rfl
      exact entry_facts (E := E) [.ari .add (.lit 4) (.tok 0) 1, .ari .add (.tok 1) (.lit 1) 4, .rel .lt (.lit 2000) (.tok 4) true, .push none 1 0 false, .push (some 0) 2 1 false, .push (some 1) 3 5 true] ⟨⟨rfl, by show wf64 (4 + sizeT c); unfold wf64; omega⟩, ⟨rfl, by show wf64 (4 + sizeT c + 1); unfold wf64; omega⟩, hbig', ⟨rfl, by show (1 : Nat) ≤ 1000000; omega⟩, ⟨rfl, by show (2 : Nat) ≤ 1000000; omega⟩, ⟨hrow, by show ([n1, n2].map atomR ++ [culT 2 c]).length ≤ 1000000; simp⟩, trivial⟩ (tbl_ok (T := [(23, [.tok 0], .val (.bool true)), (74, [.stok 1], .tok 1), (74, [.stok 2], .tok 2), (21, [.tok 0], .vtok 0), (74, [.val (.string sDots)], .tok 3), (76, [.stok 0, .rtok 5], .tok 5), (73, [.tok 5], .tok 4)])
        ⟨ent_rvalid hv, ent_ratom (fun _ _ _ h => h) hn1 rfl, ent_ratom (fun _ _ _ h => h) hn2 rfl, ent_rsize rfl, ent_ratom (s := sDots) (fun _ _ _ h => h) (by decide) rfl, ent_rstruct (fun _ _ _ h => h) idd hf rfl, ent_ball (by show withR f [n1, n2] c = ballR (.mk 3 0 f ([n1, n2].map atomR ++ [culT 2 c])); simp [withR, hv]), trivial⟩) [.tok 0, .stok 0, .srow [.tok 1, .tok 2]] Try.func75 rfl (fun _ _ => by kernel_rfl) (by kernel_rfl) rfl rfl (by simp [Try.ntmps75])
    | false =>
      have hcul : culT 2 c = c := by unfold culT; rw [if_neg (of_decide_eq_false hbig)]
      have hrow : [n1, n2].map atomR ++ [culT 2 c] = [atomR n1, atomR n2] ++ [c] := by rw [hcul]; rfl
      exact entry_facts (E := E) [.ari .add (.lit 4) (.tok 0) 1, .ari .add (.tok 1) (.lit 1) 4, .rel .lt (.lit 2000) (.tok 4) false, .push none 1 0 false, .push (some 0) 2 1 false, .push (some 1) 0 5 true] ⟨⟨rfl, by show wf64 (4 + sizeT c); unfold wf64; omega⟩, ⟨rfl, by show wf64 (4 + sizeT c + 1); unfold wf64; omega⟩, hbig', ⟨rfl, by show (1 : Nat) ≤ 1000000; omega⟩, ⟨rfl, by show (2 : Nat) ≤ 1000000; omega⟩, ⟨hrow, by show ([n1, n2].map atomR ++ [culT 2 c]).length ≤ 1000000; simp⟩, trivial⟩ (tbl_ok (T := [(23, [.tok 0], .val (.bool true)), (74, [.stok 1], .tok 1), (74, [.stok 2], .tok 2), (21, [.tok 0], .vtok 0), (74, [.val (.string sDots)], .tok 3), (76, [.stok 0, .rtok 5], .tok 5), (73, [.tok 5], .tok 4)])
        ⟨ent_rvalid hv, ent_ratom (fun _ _ _ h => h) hn1 rfl, ent_ratom (fun _ _ _ h => h) hn2 rfl, ent_rsize rfl, ent_ratom (s := sDots) (fun _ _ _ h => h) (by decide) rfl, ent_rstruct (fun _ _ _ h => h) idd hf rfl, ent_ball (by show withR f [n1, n2] c = ballR (.mk 3 0 f ([n1, n2].map atomR ++ [culT 2 c])); simp [withR, hv]), trivial⟩) [.tok 0, .stok 0, .srow [.tok 1, .tok 2]] Try.func75 rfl (fun _ _ => by kernel_rfl) (by kernel_rfl) rfl rfl (by simp [Try.ntmps75])

end Go.Proofs.Ytloekfnlidclcaa

namespace Go.Proofs.Ytloekfnlidclcaa
open Go.RowKit
set_option linter.unusedVariables false

def sUninst : ByteArray := ⟨#[117, 110, 105, 110, 115, 116, 97, 110, 116, 105, 97, 116, 105, 111, 110, 95, 101, 114, 114, 111, 114]⟩
def sType : ByteArray := ⟨#[116, 121, 112, 101, 95, 101, 114, 114, 111, 114]⟩
def sDomain : ByteArray := ⟨#[100, 111, 109, 97, 105, 110, 95, 101, 114, 114, 111, 114]⟩
def sExistence : ByteArray := ⟨#[101, 120, 105, 115, 116, 101, 110, 99, 101, 95, 101, 114, 114, 111, 114]⟩
def sPermission : ByteArray := ⟨#[112, 101, 114, 109, 105, 115, 115, 105, 111, 110, 95, 101, 114, 114, 111, 114]⟩
def sInst : ByteArray := ⟨#[105, 110, 115, 116, 97, 110, 116, 105, 97, 116, 105, 111, 110, 95, 101, 114, 114, 111, 114]⟩
def sRep : ByteArray := ⟨#[114, 101, 112, 114, 101, 115, 101, 110, 116, 97, 116, 105, 111, 110, 95, 101, 114, 114, 111, 114]⟩
def sEval : ByteArray := ⟨#[101, 118, 97, 108, 117, 97, 116, 105, 111, 110, 95, 101, 114, 114, 111, 114]⟩
def sSyntax : ByteArray := ⟨#[115, 121, 110, 116, 97, 120, 95, 101, 114, 114, 111, 114]⟩

theorem pUninst_entry (c : Tm) : @Entry { T := fun k => match k with | 0 => c | _ => aboutT sUninst [] c, S := fun _ => ⟨#[]⟩ } 27 [.tok 0] (.tok 1) := by
  letI E : Env := { T := fun k => match k with | 0 => c | _ => aboutT sUninst [] c, S := fun _ => ⟨#[]⟩ }
  have e : @Entry E 68 [.tok 0, .val (.string sUninst), .val (.slice none 0 0)] (.tok 1) := entry_move (about0_entry c sUninst (by decide)) ⟨idd, str_tok rfl, nil_srow, trivial⟩ (ide (tok_eq rfl))
  exact entry_code (tbl_ok (T := [(68, [.tok 0, .val (.string sUninst), .val (.slice none 0 0)], .tok 1)]) ⟨e, trivial⟩) [.tok 0] Try.func27 rfl (fun _ _ => by kernel_rfl) (by kernel_rfl) (by kernel_rfl) rfl rfl (by simp [Try.ntmps27])

theorem pType_entry (c : Tm) (n1 : ByteArray) (h1 : n1.size ≤ 140737488351232) : @Entry { T := fun k => match k with | 0 => c | _ => aboutT sType [n1] c, S := fun _ => n1 } 25 [.stok 0, .tok 0] (.tok 1) := by
  letI E : Env := { T := fun k => match k with | 0 => c | _ => aboutT sType [n1] c, S := fun _ => n1 }
  have e : @Entry E 68 [.tok 0, .val (.string sType), .srow [.tok 0]] (.tok 1) := entry_move (about1_entry c sType n1 (by decide) h1) ⟨idd, str_tok rfl, idd, trivial⟩ (ide (tok_eq rfl))
  exact entry_code (tbl_ok (T := [(68, [.tok 0, .val (.string sType), .srow [.tok 0]], .tok 1)]) ⟨e, trivial⟩) [.stok 0, .tok 0] Try.func25 rfl (fun _ _ => by kernel_rfl) (by kernel_rfl) (by kernel_rfl) rfl rfl (by simp [Try.ntmps25])

theorem pDomain_entry (c : Tm) (n1 : ByteArray) (h1 : n1.size ≤ 140737488351232) : @Entry { T := fun k => match k with | 0 => c | _ => aboutT sDomain [n1] c, S := fun _ => n1 } 28 [.stok 0, .tok 0] (.tok 1) := by
  letI E : Env := { T := fun k => match k with | 0 => c | _ => aboutT sDomain [n1] c, S := fun _ => n1 }
  have e : @Entry E 68 [.tok 0, .val (.string sDomain), .srow [.tok 0]] (.tok 1) := entry_move (about1_entry c sDomain n1 (by decide) h1) ⟨idd, str_tok rfl, idd, trivial⟩ (ide (tok_eq rfl))
  exact entry_code (tbl_ok (T := [(68, [.tok 0, .val (.string sDomain), .srow [.tok 0]], .tok 1)]) ⟨e, trivial⟩) [.stok 0, .tok 0] Try.func28 rfl (fun _ _ => by kernel_rfl) (by kernel_rfl) (by kernel_rfl) rfl rfl (by simp [Try.ntmps28])

theorem pExistence_entry (c : Tm) (n1 : ByteArray) (h1 : n1.size ≤ 140737488351232) : @Entry { T := fun k => match k with | 0 => c | _ => aboutT sExistence [n1] c, S := fun _ => n1 } 29 [.stok 0, .tok 0] (.tok 1) := by
  letI E : Env := { T := fun k => match k with | 0 => c | _ => aboutT sExistence [n1] c, S := fun _ => n1 }
  have e : @Entry E 68 [.tok 0, .val (.string sExistence), .srow [.tok 0]] (.tok 1) := entry_move (about1_entry c sExistence n1 (by decide) h1) ⟨idd, str_tok rfl, idd, trivial⟩ (ide (tok_eq rfl))
  exact entry_code (tbl_ok (T := [(68, [.tok 0, .val (.string sExistence), .srow [.tok 0]], .tok 1)]) ⟨e, trivial⟩) [.stok 0, .tok 0] Try.func29 rfl (fun _ _ => by kernel_rfl) (by kernel_rfl) (by kernel_rfl) rfl rfl (by simp [Try.ntmps29])

theorem pPermission_entry (c : Tm) (n1 : ByteArray) (n2 : ByteArray) (h1 : n1.size ≤ 140737488351232) (h2 : n2.size ≤ 140737488351232) : @Entry { T := fun k => match k with | 0 => c | _ => aboutT sPermission [n1, n2] c, S := fun k => match k with | 0 => n1 | _ => n2 } 30 [.stok 0, .stok 1, .tok 0] (.tok 1) := by
  letI E : Env := { T := fun k => match k with | 0 => c | _ => aboutT sPermission [n1, n2] c, S := fun k => match k with | 0 => n1 | _ => n2 }
  have e : @Entry E 68 [.tok 0, .val (.string sPermission), .srow [.tok 0, .tok 1]] (.tok 1) := entry_move (about2_entry c sPermission n1 n2 (by decide) h1 h2) ⟨idd, str_tok rfl, idd, trivial⟩ (ide (tok_eq rfl))
  exact entry_code (tbl_ok (T := [(68, [.tok 0, .val (.string sPermission), .srow [.tok 0, .tok 1]], .tok 1)]) ⟨e, trivial⟩) [.stok 0, .stok 1, .tok 0] Try.func30 rfl (fun _ _ => by kernel_rfl) (by kernel_rfl) (by kernel_rfl) rfl rfl (by simp [Try.ntmps30])

theorem rUninst_entry (c : Tm) : @Entry { T := fun k => match k with | 0 => c | _ => withR sUninst [] c, S := fun _ => ⟨#[]⟩ } 37 [.tok 0] (.tok 1) := by
  letI E : Env := { T := fun k => match k with | 0 => c | _ => withR sUninst [] c, S := fun _ => ⟨#[]⟩ }
  have e : @Entry E 75 [.tok 0, .val (.string sUninst), .val (.slice none 0 0)] (.tok 1) := entry_move (with0_entry c sUninst (by decide)) ⟨idd, str_tok rfl, nil_srow, trivial⟩ (ide (tok_eq rfl))
  exact entry_code (tbl_ok (T := [(75, [.tok 0, .val (.string sUninst), .val (.slice none 0 0)], .tok 1)]) ⟨e, trivial⟩) [.tok 0] Try.func37 rfl (fun _ _ => by kernel_rfl) (by kernel_rfl) (by kernel_rfl) rfl rfl (by simp [Try.ntmps37])

theorem rType_entry (c : Tm) (n1 : ByteArray) (h1 : n1.size ≤ 140737488351232) : @Entry { T := fun k => match k with | 0 => c | _ => withR sType [n1] c, S := fun _ => n1 } 38 [.stok 0, .tok 0] (.tok 1) := by
  letI E : Env := { T := fun k => match k with | 0 => c | _ => withR sType [n1] c, S := fun _ => n1 }
  have e : @Entry E 75 [.tok 0, .val (.string sType), .srow [.tok 0]] (.tok 1) := entry_move (with1_entry c sType n1 (by decide) h1) ⟨idd, str_tok rfl, idd, trivial⟩ (ide (tok_eq rfl))
  exact entry_code (tbl_ok (T := [(75, [.tok 0, .val (.string sType), .srow [.tok 0]], .tok 1)]) ⟨e, trivial⟩) [.stok 0, .tok 0] Try.func38 rfl (fun _ _ => by kernel_rfl) (by kernel_rfl) (by kernel_rfl) rfl rfl (by simp [Try.ntmps38])

theorem rDomain_entry (c : Tm) (n1 : ByteArray) (h1 : n1.size ≤ 140737488351232) : @Entry { T := fun k => match k with | 0 => c | _ => withR sDomain [n1] c, S := fun _ => n1 } 39 [.stok 0, .tok 0] (.tok 1) := by
  letI E : Env := { T := fun k => match k with | 0 => c | _ => withR sDomain [n1] c, S := fun _ => n1 }
  have e : @Entry E 75 [.tok 0, .val (.string sDomain), .srow [.tok 0]] (.tok 1) := entry_move (with1_entry c sDomain n1 (by decide) h1) ⟨idd, str_tok rfl, idd, trivial⟩ (ide (tok_eq rfl))
  exact entry_code (tbl_ok (T := [(75, [.tok 0, .val (.string sDomain), .srow [.tok 0]], .tok 1)]) ⟨e, trivial⟩) [.stok 0, .tok 0] Try.func39 rfl (fun _ _ => by kernel_rfl) (by kernel_rfl) (by kernel_rfl) rfl rfl (by simp [Try.ntmps39])

theorem rExistence_entry (c : Tm) (n1 : ByteArray) (h1 : n1.size ≤ 140737488351232) : @Entry { T := fun k => match k with | 0 => c | _ => withR sExistence [n1] c, S := fun _ => n1 } 40 [.stok 0, .tok 0] (.tok 1) := by
  letI E : Env := { T := fun k => match k with | 0 => c | _ => withR sExistence [n1] c, S := fun _ => n1 }
  have e : @Entry E 75 [.tok 0, .val (.string sExistence), .srow [.tok 0]] (.tok 1) := entry_move (with1_entry c sExistence n1 (by decide) h1) ⟨idd, str_tok rfl, idd, trivial⟩ (ide (tok_eq rfl))
  exact entry_code (tbl_ok (T := [(75, [.tok 0, .val (.string sExistence), .srow [.tok 0]], .tok 1)]) ⟨e, trivial⟩) [.stok 0, .tok 0] Try.func40 rfl (fun _ _ => by kernel_rfl) (by kernel_rfl) (by kernel_rfl) rfl rfl (by simp [Try.ntmps40])

theorem rPermission_entry (c : Tm) (n1 : ByteArray) (n2 : ByteArray) (h1 : n1.size ≤ 140737488351232) (h2 : n2.size ≤ 140737488351232) : @Entry { T := fun k => match k with | 0 => c | _ => withR sPermission [n1, n2] c, S := fun k => match k with | 0 => n1 | _ => n2 } 41 [.stok 0, .stok 1, .tok 0] (.tok 1) := by
  letI E : Env := { T := fun k => match k with | 0 => c | _ => withR sPermission [n1, n2] c, S := fun k => match k with | 0 => n1 | _ => n2 }
  have e : @Entry E 75 [.tok 0, .val (.string sPermission), .srow [.tok 0, .tok 1]] (.tok 1) := entry_move (with2_entry c sPermission n1 n2 (by decide) h1 h2) ⟨idd, str_tok rfl, idd, trivial⟩ (ide (tok_eq rfl))
  exact entry_code (tbl_ok (T := [(75, [.tok 0, .val (.string sPermission), .srow [.tok 0, .tok 1]], .tok 1)]) ⟨e, trivial⟩) [.stok 0, .stok 1, .tok 0] Try.func41 rfl (fun _ _ => by kernel_rfl) (by kernel_rfl) (by kernel_rfl) rfl rfl (by simp [Try.ntmps41])

/-! ### named, Representation, Evaluation, Syntax, Inst -/
def namedT (f s : ByteArray) : Tm := if (s.size : Int) ≤ 100 then raiseT f [atomT s] else zeroT

theorem named_entry (f s : ByteArray) (hf : f.size ≤ 140737488351232) (hs : s.size ≤ 140737488351232) : @Entry { T := fun k => match k with | 0 => namedT f s | _ => atomT s, S := fun k => match k with | 0 => f | _ => s, I := fun _ => (s.size : Int) } 71 [.stok 0, .stok 1] (.tok 0) := by
  letI E : Env := { T := fun k => match k with | 0 => namedT f s | _ => atomT s, S := fun k => match k with | 0 => f | _ => s, I := fun _ => (s.size : Int) }
  by_cases hb : (s.size : Int) ≤ 100
  · exact entry_facts (E := E) [.slen 1 0, .rel .lt (.lit 100) (.tok 0) false] ⟨rfl, by show decide (100 < (s.size : Int)) = false; simp; omega, trivial⟩ (tbl_ok (T := [(85, [.stok 1], .tok 1), (70, [.stok 0, .toks [1]], .tok 0)])
      ⟨ent_atom (fun _ _ _ h => h) hs rfl, ent_raise (fun _ _ _ h => h) toks_at hf (by show namedT f s = raiseT f [atomT s]; simp [namedT, hb]), trivial⟩) [.stok 0, .stok 1] Try.func71 rfl (fun _ _ => by kernel_rfl) (by kernel_rfl) rfl rfl (by simp [Try.ntmps71])
  · refine entry_imp (x := .term zeroT) ?_ (term_tok' (show namedT f s = zeroT by simp [namedT, hb]))
    exact entry_facts (E := E) [.slen 1 0, .rel .lt (.lit 100) (.tok 0) true] ⟨rfl, by show decide (100 < (s.size : Int)) = true; simp; omega, trivial⟩ noCalls_ok [.stok 0, .stok 1] Try.func71 rfl (fun _ _ => by kernel_rfl) (by kernel_rfl) rfl rfl (by simp [Try.ntmps71])

theorem pRepresentation_entry (s : ByteArray) (hs : s.size ≤ 140737488351232) : @Entry { T := fun _ => namedT sRep s, S := fun _ => s } 33 [.stok 0] (.tok 0) := by
  letI E : Env := { T := fun _ => namedT sRep s, S := fun _ => s }
  exact entry_code (tbl_ok (T := [(71, [.val (.string sRep), .stok 0], .tok 0)]) ⟨entry_move (named_entry sRep s (by decide) hs) ⟨str_tok rfl, idd, trivial⟩ (ide (tok_eq rfl)), trivial⟩) [.stok 0] Try.func33 rfl (fun _ _ => by kernel_rfl) (by kernel_rfl) (by kernel_rfl) rfl rfl (by simp [Try.ntmps33])

theorem rRepresentation_entry (s : ByteArray) (hs : s.size ≤ 140737488351232) : @Entry { T := fun k => match k with | 0 => ballR (.mk 3 0 sRep [atomR s]) | 1 => atomR s | _ => .mk 3 0 sRep [atomR s], S := fun _ => s } 42 [.stok 0] (.tok 0) := by
  letI E : Env := { T := fun k => match k with | 0 => ballR (.mk 3 0 sRep [atomR s]) | 1 => atomR s | _ => .mk 3 0 sRep [atomR s], S := fun _ => s }
  exact entry_code (tbl_ok (T := [(74, [.stok 0], .tok 1), (76, [.val (.string sRep), .toks [1]], .tok 2), (73, [.tok 2], .tok 0)]) ⟨ent_ratom (fun _ _ _ h => h) hs rfl, ent_rstruct (s := sRep) (fun _ _ _ h => h) toks_at (by decide) rfl, ent_ball rfl, trivial⟩) [.stok 0] Try.func42 rfl (fun _ _ => by kernel_rfl) (by kernel_rfl) (by kernel_rfl) rfl rfl (by simp [Try.ntmps42])

theorem pEvaluation_entry (s : ByteArray) (hs : s.size ≤ 140737488351232) : @Entry { T := fun _ => namedT sEval s, S := fun _ => s } 34 [.stok 0] (.tok 0) := by
  letI E : Env := { T := fun _ => namedT sEval s, S := fun _ => s }
  exact entry_code (tbl_ok (T := [(71, [.val (.string sEval), .stok 0], .tok 0)]) ⟨entry_move (named_entry sEval s (by decide) hs) ⟨str_tok rfl, idd, trivial⟩ (ide (tok_eq rfl)), trivial⟩) [.stok 0] Try.func34 rfl (fun _ _ => by kernel_rfl) (by kernel_rfl) (by kernel_rfl) rfl rfl (by simp [Try.ntmps34])

theorem rEvaluation_entry (s : ByteArray) (hs : s.size ≤ 140737488351232) : @Entry { T := fun k => match k with | 0 => ballR (.mk 3 0 sEval [atomR s]) | 1 => atomR s | _ => .mk 3 0 sEval [atomR s], S := fun _ => s } 43 [.stok 0] (.tok 0) := by
  letI E : Env := { T := fun k => match k with | 0 => ballR (.mk 3 0 sEval [atomR s]) | 1 => atomR s | _ => .mk 3 0 sEval [atomR s], S := fun _ => s }
  exact entry_code (tbl_ok (T := [(74, [.stok 0], .tok 1), (76, [.val (.string sEval), .toks [1]], .tok 2), (73, [.tok 2], .tok 0)]) ⟨ent_ratom (fun _ _ _ h => h) hs rfl, ent_rstruct (s := sEval) (fun _ _ _ h => h) toks_at (by decide) rfl, ent_ball rfl, trivial⟩) [.stok 0] Try.func43 rfl (fun _ _ => by kernel_rfl) (by kernel_rfl) (by kernel_rfl) rfl rfl (by simp [Try.ntmps43])

def instT : Tm := raiseT sInst []
theorem inst_entry : @Entry { T := fun _ => instT } 32 [] (.tok 0) := by
  letI E : Env := { T := fun _ => instT }
  have hy : ∀ p w v, (Ab.val (.slice none 0 0)).pd p w v → RowAt [] p w v := fun p w v h => by
    obtain rfl : v = .slice none 0 0 := h
    exact ⟨none, 0, rfl, by simp, by simp, by unfold maxLen; omega, by unfold ArgsIn; trivial⟩
  exact entry_code (tbl_ok (T := [(70, [.val (.string sInst), .val (.slice none 0 0)], .tok 0)]) ⟨ent_raise (s := sInst) (fun _ _ _ h => h) hy (by decide) rfl, trivial⟩) [] Try.func32 rfl (fun _ _ => by kernel_rfl) (by kernel_rfl) (by kernel_rfl) rfl rfl (by simp)

theorem rinst_entry : @Entry { T := fun k => match k with | 0 => ballR (atomR sInst) | _ => atomR sInst } 36 [] (.tok 0) := by
  letI E : Env := { T := fun k => match k with | 0 => ballR (atomR sInst) | _ => atomR sInst }
  exact entry_code (tbl_ok (T := [(74, [.val (.string sInst)], .tok 1), (73, [.tok 1], .tok 0)]) ⟨ent_ratom (s := sInst) (fun _ _ _ h => h) (by decide) rfl, ent_ball rfl, trivial⟩) [] Try.func36 rfl (fun _ _ => by kernel_rfl) (by kernel_rfl) (by kernel_rfl) rfl rfl (by simp)

def syntaxT (n : Int) : Tm := if n < 0 then zeroT else raiseT sSyntax [intT n]
theorem syntax_entry (n : Int) (hn : wf64 n) : @Entry { T := fun k => match k with | 0 => syntaxT n | _ => intT n, I := fun _ => n } 35 [.vtok 0] (.tok 0) := by
  letI E : Env := { T := fun k => match k with | 0 => syntaxT n | _ => intT n, I := fun _ => n }
  by_cases hb : n < 0
  · refine entry_imp (x := .term zeroT) ?_ (term_tok' (show syntaxT n = zeroT by simp [syntaxT, hb]))
    exact entry_facts (E := E) [.rel .lt (.tok 0) (.lit 0) true] ⟨by show decide (n < 0) = true; simpa using hb, trivial⟩ noCalls_ok [.vtok 0] Try.func35 rfl (fun _ _ => by kernel_rfl) (by kernel_rfl) rfl rfl (by simp [Try.ntmps35])
  · exact entry_facts (E := E) [.rel .lt (.tok 0) (.lit 0) false] ⟨by show decide (n < 0) = false; simpa using hb, trivial⟩ (tbl_ok (T := [(72, [.vtok 0], .tok 1), (70, [.val (.string sSyntax), .toks [1]], .tok 0)])
      ⟨ent_int (fun _ _ _ h => h) hn rfl, ent_raise (s := sSyntax) (fun _ _ _ h => h) toks_at (by decide) (by show syntaxT n = raiseT sSyntax [intT n]; simp [syntaxT, hb]), trivial⟩) [.vtok 0] Try.func35 rfl (fun _ _ => by kernel_rfl) (by kernel_rfl) rfl rfl (by simp [Try.ntmps35])

/-! ### Formal -/
def formalB (t : Tm) : Bool := validT t && ((t.kind == 3) && (decide (t.name = sError) && ((t.args.length : Int) == 2)))
def formalT (t : Tm) : Tm := if formalB t then t.args.getD 0 zeroT else zeroT

abbrev EnvFo (t : Tm) : Env :=
  { T := fun k => match k with | 0 => t | 1 => t.args.getD 0 zeroT | _ => formalT t
    I := fun k => match k with | 0 => t.kind | 1 => t.num | _ => (t.args.length : Int)
    S := fun _ => t.name
    R := fun _ => t.args }

theorem pFormal_entry (t : Tm) : @Entry (EnvFo t) 12 [.tok 0] (.pair (.tok 2) (.val (.bool (formalB t)))) := by
  letI E : Env := EnvFo t
  have no : ∀ a b c d, validT t = a → (t.kind == 3) = b → decide (t.name = sError) = c → ((t.args.length : Int) == 2) = d → (a && (b && (c && d))) = false → @Entry E 12 [.tok 0] (.pair (.term zeroT) (.val (.bool false))) := by
    intro a b c d ha hb hc hd hcase
    have ents : @Entries E [(61, [.tok 0], .val (.bool a))] := ⟨ent_valid ha, trivial⟩
    cases a <;> cases b <;> cases c <;> cases d <;> first
      | exact absurd hcase (by decide)
      | exact entry_facts (E := E) [.tm 0 0 1 0 0, .rel .eq (.tok 0) (.lit 3) _, .seq (.tok 0) (.lit sError) _, .rlen 0 2, .rel .eq (.tok 2) (.lit 2) _] ⟨⟨rfl, rfl, rfl, rfl⟩, hb, hc, rfl, hd, trivial⟩ (tbl_ok ents) [.tok 0] Try.func12 rfl (fun _ _ => by kernel_rfl) (by kernel_rfl) rfl rfl (by simp [Try.ntmps12])
  cases hB : formalB t with
  | false => exact entry_imp (no _ _ _ _ rfl rfl rfl rfl hB) (pair_imp (term_tok' (show formalT t = zeroT by simp [formalT, hB])) idd)
  | true =>
    have hB0 := hB
    simp only [formalB, Bool.and_eq_true] at hB
    obtain ⟨hv, hk, hn, hl⟩ := hB
    have hl2 : t.args.length = 2 := by simp at hl; omega
    have hg : t.args.getD 0 zeroT = t.args[0] := by rw [List.getD_eq_getElem?_getD, List.getElem?_eq_getElem (by omega)]; rfl
    have hv0 : validT (t.args.getD 0 zeroT) = true := by rw [hg]; exact valid_args hv _
    have e1 : @Entry E 61 [.tok 0] (.val (.bool true)) := ent_valid hv
    refine entry_imp (x := .pair (.tok 1) (.val (.bool true))) ?_ (pair_imp (ide (tok_eq (show t.args.getD 0 zeroT = formalT t by simp [formalT, hB0]))) idd)
    exact entry_facts (E := E) [.tm 0 0 1 0 0, .rel .eq (.tok 0) (.lit 3) true, .seq (.tok 0) (.lit sError) true, .rlen 0 2, .rel .eq (.tok 2) (.lit 2) true, .rget 0 (.lit 0) 1] ⟨⟨rfl, rfl, rfl, rfl⟩, hk, hn, rfl, hl, ⟨by show (0 : Int) ≤ 0; omega, by show t.args[(0 : Int).toNat]? = some (t.args.getD 0 zeroT); rw [hg]; exact List.getElem?_eq_getElem (by omega)⟩, trivial⟩
      (tbl_ok (T := [(61, [.tok 0], .val (.bool true)), (62, [.tok 1], .tok 1)]) ⟨e1, ent_tt (fun _ _ => by kernel_rfl) fun w y h => by { have hc : t.args.getD 0 zeroT = cloneT (t.args.getD 0 zeroT) := by { simp only [cloneT, hv0, if_true] }; show Calls _ _ _ _ fun e w' => ∃ u, e = .returned u ∧ TmNew w' w.heap.size (t.args.getD 0 zeroT) u ∧ But Nil w w'; rw [hc]; exact clone_any (t.args.getD 0 zeroT) w y h }, trivial⟩) [.tok 0] Try.func12 rfl (fun _ _ => by kernel_rfl) (by kernel_rfl) rfl rfl (by simp [Try.ntmps12])

theorem rFormal_entry (t : Tm) : @Entry (EnvFo t) 13 [.tok 0] (.pair (.tok 2) (.val (.bool (formalB t)))) := by
  letI E : Env := EnvFo t
  have no : ∀ a b c d, validT t = a → (t.kind == 3) = b → decide (t.name = sError) = c → ((t.args.length : Int) == 2) = d → (a && (b && (c && d))) = false → @Entry E 13 [.tok 0] (.pair (.term zeroT) (.val (.bool false))) := by
    intro a b c d ha hb hc hd hcase
    have ents : @Entries E [(23, [.tok 0], .val (.bool a))] := ⟨ent_rvalid ha, trivial⟩
    cases a <;> cases b <;> cases c <;> cases d <;> first
      | exact absurd hcase (by decide)
      | exact entry_facts (E := E) [.tm 0 0 1 0 0, .rel .eq (.tok 0) (.lit 3) _, .seq (.tok 0) (.lit sError) _, .rlen 0 2, .rel .eq (.tok 2) (.lit 2) _] ⟨⟨rfl, rfl, rfl, rfl⟩, hb, hc, rfl, hd, trivial⟩ (tbl_ok ents) [.tok 0] Try.func13 rfl (fun _ _ => by kernel_rfl) (by kernel_rfl) rfl rfl (by simp [Try.ntmps13])
  cases hB : formalB t with
  | false => exact entry_imp (no _ _ _ _ rfl rfl rfl rfl hB) (pair_imp (term_tok' (show formalT t = zeroT by simp [formalT, hB])) idd)
  | true =>
    have hB0 := hB
    simp only [formalB, Bool.and_eq_true] at hB
    obtain ⟨hv, hk, hn, hl⟩ := hB
    have hl2 : t.args.length = 2 := by simp at hl; omega
    have hg : t.args.getD 0 zeroT = t.args[0] := by rw [List.getD_eq_getElem?_getD, List.getElem?_eq_getElem (by omega)]; rfl
    have hv0 : validT (t.args.getD 0 zeroT) = true := by rw [hg]; exact valid_args hv _
    have e1 : @Entry E 23 [.tok 0] (.val (.bool true)) := ent_rvalid hv
    refine entry_imp (x := .pair (.tok 1) (.val (.bool true))) ?_ (pair_imp (ide (tok_eq (show t.args.getD 0 zeroT = formalT t by simp [formalT, hB0]))) idd)
    exact entry_facts (E := E) [.tm 0 0 1 0 0, .rel .eq (.tok 0) (.lit 3) true, .seq (.tok 0) (.lit sError) true, .rlen 0 2, .rel .eq (.tok 2) (.lit 2) true, .rget 0 (.lit 0) 1] ⟨⟨rfl, rfl, rfl, rfl⟩, hk, hn, rfl, hl, ⟨by show (0 : Int) ≤ 0; omega, by show t.args[(0 : Int).toNat]? = some (t.args.getD 0 zeroT); rw [hg]; exact List.getElem?_eq_getElem (by omega)⟩, trivial⟩
      (tbl_ok (T := [(23, [.tok 0], .val (.bool true))]) ⟨e1, trivial⟩) [.tok 0] Try.func13 rfl (fun _ _ => by kernel_rfl) (by kernel_rfl) rfl rfl (by simp [Try.ntmps13])

end Go.Proofs.Ytloekfnlidclcaa

namespace Go.Proofs.Ytloekfnlidclcaa
open Go.RowKit
set_option linter.unusedVariables false

theorem inst_eq : instT = ballR (atomR sInst) := by
  have h : validT (.mk 3 0 sError [atomR sInst, atomR sNil]) = true := by
    rw [ball_valid_iff]
    exact ⟨by simp [nodesT, nodesL], by simp [fitsT, fitsL, nodeB, sInst, ByteArray.size]⟩
  unfold instT raiseT ballR
  have e1 : structT sInst [] = atomR sInst := by
    show atomT sInst = atomR sInst
    exact atomT_eq (by decide)
  rw [e1, atomT_eq (by decide), struct_eq h (by simp)]
  simp [cloneT, h]

theorem type_eq (n : ByteArray) (c : Tm) : withR sType [n] c = aboutT sType [n] c := (about_with (by decide) (by simp)).symm

/-- What bound says. -/
def boundT (t : Tm) : Tm := if validT t && (t.kind == 0) then instT else zeroT
def boundB (t : Tm) : Bool := validT t && !(t.kind == 0)

abbrev EnvBd (t : Tm) : Env :=
  { T := fun k => match k with | 0 => t | 1 => instT | _ => boundT t
    I := fun k => match k with | 0 => t.kind | 1 => t.num | _ => (t.args.length : Int)
    S := fun _ => t.name
    R := fun _ => t.args }

theorem bound_entry (t : Tm) : @Entry (EnvBd t) 67 [.tok 0] (.pair (.tok 2) (.val (.bool (boundB t)))) := by
  letI E : Env := EnvBd t
  have ei : @Entry E 32 [] (.tok 1) := entry_move inst_entry trivial (ide (tok_eq rfl))
  cases hv : validT t with
  | false =>
    have h1 : boundB t = false := by simp [boundB, hv]
    rw [h1]
    refine entry_imp (x := .pair (.term zeroT) (.val (.bool false))) ?_ (pair_imp (term_tok' (show boundT t = zeroT by simp [boundT, hv])) idd)
    exact entry_facts (E := E) [] trivial (tbl_ok (T := [(61, [.tok 0], .val (.bool false))]) ⟨ent_valid hv, trivial⟩) [.tok 0] Try.func67 rfl (fun _ _ => by kernel_rfl) (by kernel_rfl) rfl rfl (by simp [Try.ntmps67])
  | true =>
    cases hk : (t.kind == 0) with
    | true =>
      have h1 : boundB t = false := by simp [boundB, hv, hk]
      rw [h1]
      refine entry_imp (x := .pair (.tok 1) (.val (.bool false))) ?_ (pair_imp (ide (tok_eq (show instT = boundT t by simp [boundT, hv, hk]))) idd)
      exact entry_facts (E := E) [.tm 0 0 1 0 0, .rel .eq (.tok 0) (.lit 0) true] ⟨⟨rfl, rfl, rfl, rfl⟩, hk, trivial⟩ (tbl_ok (T := [(61, [.tok 0], .val (.bool true)), (32, [], .tok 1)]) ⟨ent_valid hv, ei, trivial⟩) [.tok 0] Try.func67 rfl (fun _ _ => by kernel_rfl) (by kernel_rfl) rfl rfl (by simp [Try.ntmps67])
    | false =>
      have h1 : boundB t = true := by simp [boundB, hv, hk]
      rw [h1]
      refine entry_imp (x := .pair (.term zeroT) (.val (.bool true))) ?_ (pair_imp (term_tok' (show boundT t = zeroT by simp [boundT, hv, hk])) idd)
      exact entry_facts (E := E) [.tm 0 0 1 0 0, .rel .eq (.tok 0) (.lit 0) false] ⟨⟨rfl, rfl, rfl, rfl⟩, hk, trivial⟩ (tbl_ok (T := [(61, [.tok 0], .val (.bool true))]) ⟨ent_valid hv, trivial⟩) [.tok 0] Try.func67 rfl (fun _ _ => by kernel_rfl) (by kernel_rfl) rfl rfl (by simp [Try.ntmps67])

end Go.Proofs.Ytloekfnlidclcaa
