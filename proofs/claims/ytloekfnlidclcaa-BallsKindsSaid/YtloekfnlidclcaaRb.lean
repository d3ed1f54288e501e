/-
  A body of regions run on what is known of the values. No condition.
-/
import Derived.Test.YtloekfnlidclcaaXa
namespace Go.Proofs.Ytloekfnlidclcaa
open Go.RowKit
set_option linter.unusedVariables false
variable [Env]

def isNew : Ab → Bool
  | .vcell _ _ => true
  | .mfld _ _ _ => true
  | .grow _ _ => true
  | .own _ _ => true
  | .pair x y => isNew x || isNew y
  | .tup3 x y z => isNew x || (isNew y || isNew z)
  | .tup4 x y z u => isNew x || (isNew y || (isNew z || isNew u))
  | _ => false

def byKey (q : Tmp → Bool) (σ : List (Tmp × Ab)) : List (Tmp × Ab) := σ.filter fun e => q e.1

omit [Env] in
theorem lk_byKey {q : Tmp → Bool} {σ : List (Tmp × Ab)} {s : Tmp} {x : Ab} (h : lk (byKey q σ) s = some x) : q s = true ∧ lk σ s = some x := by
  induction σ with
  | nil => cases h
  | cons e σ ih =>
    unfold byKey at h
    rw [List.filter_cons] at h
    unfold lk
    by_cases hes : e.1 = s
    · rw [if_pos (by simpa using hes)]
      split at h
      · rename_i hq
        unfold lk at h
        rw [if_pos (by simpa using hes)] at h
        exact ⟨hes ▸ hq, h⟩
      · rename_i hq
        have := ih h
        rw [hes] at hq
        exact absurd this.1 hq
    · rw [if_neg (by simpa using hes)]
      split at h
      · unfold lk at h
        rw [if_neg (by simpa using hes)] at h
        exact ih h
      · exact ih h

def nodupB : List Tmp → Bool
  | [] => true
  | t :: l => !l.contains t && nodupB l

omit [Env] in
theorem lk_pair {σ : List (Tmp × Ab)} {s : Tmp} {x : Ab} (h : lk σ s = some x) : (s, x) ∈ σ := by
  induction σ with
  | nil => cases h
  | cons e σ ih =>
    unfold lk at h
    by_cases hes : e.1 = s
    · rw [if_pos (by simpa using hes)] at h
      injection h with h
      subst h hes
      exact List.mem_cons_self
    · rw [if_neg (by simpa using hes)] at h
      exact List.mem_cons_of_mem _ (ih h)

omit [Env] in
theorem pair_lk {σ : List (Tmp × Ab)} (hn : nodupB (σ.map (·.1)) = true) {s : Tmp} {x : Ab} (h : (s, x) ∈ σ) : lk σ s = some x := by
  induction σ with
  | nil => cases h
  | cons e σ ih =>
    simp only [List.map_cons, nodupB, Bool.and_eq_true, Bool.not_eq_true'] at hn
    unfold lk
    rcases List.mem_cons.1 h with rfl | h
    · simp
    · rw [if_neg, ih hn.2 h]
      intro he
      have : e.1 = s := by simpa using he
      have h1 : e.1 ∈ σ.map (·.1) := by rw [this]; exact List.mem_map.2 ⟨(s, x), h, rfl⟩
      have h2 := hn.1
      simp at h2
      exact h2 x (by rw [this]; exact h)

/-- What is known behind a store of the term u into the variable t. -/
def okAfter (t : Tmp) : Ab → Bool
  | .vcell r x => r != t && okAfter t x
  | .own r _ => r != t
  | .mfld r _ _ => r != t
  | .grow r _ => r != t
  | x => !isNew x

def settle (t : Tmp) (u : Ab) (σ : List (Tmp × Ab)) : Option (List (Tmp × Ab)) :=
  if nodupB (σ.map (·.1)) && okAfter t u then some ((t, .vcell t u) :: σ.filter fun e => e.1 != t && okAfter t e.2) else none

def appOf (o : Oper) : Option (Tmp × Tmp × Tmp) := match o.op, o.dst with
  | .call c, some t => match c.callee, c.args.toList, c.argTypes.toList with
    | .builtin .append, [.tmp a, .tmp b], [t1, t2] => if isTerms t1 && isTerms t2 then some (a, b, t) else none
    | _, _, _ => none
  | _, _ => none

/-- The key and the elements of a row that grows. -/
def keyOf (t : Tmp) : Ab → Option (Tmp × Option Nat)
  | .grow s n => some (s, some n)
  | .val (.slice none 0 0) => some (t, none)
  | _ => none

def pushOf (n : Option Nat) (k : Nat) : Option (Nat × Bool) :=
  findF (fun | .push n' k' m fin => if n' == n && k' == k then some (m, fin) else none | _ => none) Env.F

def appTl (σ : List (Tmp × Ab)) (a b t : Tmp) : Option (List (Tmp × Ab)) := match lk σ a, lk σ b with
  | some x, some (.toks [k]) => match keyOf t x with
    | some (s, n) => match pushOf n k with
      | some (m, fin) => if nodupB (σ.map (·.1)) then some ((t, if fin then .rtok m else .grow s m) :: σ.filter fun e => e.1 != t && okAfter s e.2) else none
      | none => none
    | none => none
  | _, _ => none

/-- One operation that is carried out. -/
def stTl (C : FuncId → List Ab → Option Ab) (σ : List (Tmp × Ab)) (o : Oper) : Option (List (Tmp × Ab)) :=
  match o.op with
  | .store ty (.tmp s) (.tmp v) => match lk σ s, lk σ v with
    | some (.vcell r _), some u => if isTerm ty && r == s && s != v && o.dst.isNone && isTm u then settle s u σ else none
    | _, _ => none
  | _ => match appOf o with
    | some (a, b, t) => appTl σ a b t
    | none => match o.dst with
      | none => none
      | some t => match absOp C (lk σ) o with
        | none => none
        | some x => some ((t, x) :: byKey (· != t) σ)

/-- The operations behind a region's free part, and those of a region in the text's order. -/
def runTl (C : FuncId → List Ab → Option Ab) (ds : List (Option Tmp)) : List (Tmp × Ab) → List Oper → Option (List (Tmp × Ab))
  | σ, [] => some σ
  | σ, o :: l => match o.guard with
    | none => match stTl C σ o with
      | some σ' => runTl C ds σ' l
      | none => none
    | some (g, b) => match (ds[g]?).join with
      | none => none
      | some tg => match lk σ tg with
        | some (.val (.bool c)) => if c == b then (match stTl C σ o with
            | some σ' => runTl C ds σ' l
            | none => none)
          else match o.dst with
            | some t => runTl C ds ((t, .val undef) :: byKey (· != t) σ) l
            | none => runTl C ds σ l
        | some x => if isUndef x then (match o.dst with
            | some t => runTl C ds ((t, .val undef) :: byKey (· != t) σ) l
            | none => runTl C ds σ l) else none
        | none => none

def tlB (z : Nat) (l : List Oper) : Bool := l.all fun o => (match o.dst with | some t => decide (t < z) | none => true) && (opTmps o).all fun t => decide (t < z)

/-- Pins of callers alone. -/
def Old (p : Nat → Option Nat) : Prop := ∀ b, p b = none ∨ p b = some 0

omit [Env] in
theorem Ext.stored {p0 p p' : Nat → Option Nat} {w0 w w' : World} {s : Tmp} (ho : Old p0) (h : Ext p0 w0 p w) (hp : ∀ b, b < w.heap.size → p b ≠ some (s + 1) → p' b = p b) (hb : But (fun b => p b = some (s + 1)) w w') : Ext p0 w0 p' w' := by
  have hold : ∀ b, b < w0.heap.size → p b ≠ some (s + 1) := fun b hb' e => by
    rw [h.pin b hb'] at e
    rcases ho b with h1 | h1 <;> rw [h1] at e <;> simp at e
  refine ⟨h.but.trans hb fun i hi _ => .inr ?_, fun b hb' => ?_⟩
  · rcases Nat.lt_or_ge i w0.heap.size with h1 | h1
    · exact absurd hi (hold i h1)
    · exact h1
  · have h1 := h.but.size
    rw [hp b (by omega) (hold b hb')]
    exact h.pin b hb'

omit [Env] in
theorem ok_new (s : Tmp) (z : Ab) (hz : isNew z = false) : okAfter s z = true := by
  cases z <;> first | rfl | (cases hz; done) | simp [okAfter, hz]

/-- A change of blocks of key s leaves what is known of other values. -/
theorem Ab.after {p p' : Nat → Option Nat} {w w' : World} {s : Tmp} (hp : ∀ b, b < w.heap.size → p b ≠ some (s + 1) → p' b = p b) (hb : But (fun b => p b = some (s + 1)) w w') : ∀ (x : Ab) (v : Value), okAfter s x = true → x.pd p w v → x.pd p' w' v := by
  have hfr : ∀ b, b < w.heap.size → p b = none → ¬ (p b = some (s + 1)) ∧ p' b = none := fun b hl h => ⟨fun e => (by rw [h] at e; cases e), (by rw [hp b hl (by rw [h]; simp), h])⟩
  have hk : KeepsIn (Fr p) (Fr p') w w' := fun k o ho hd => ⟨hb.heap (hfr k (lt_of_heap ho) hd).1 ho, (hfr k (lt_of_heap ho) hd).2⟩
  have hints : ∀ {A : Option Addr} {l : List Int}, IntsIn w (Fr p) A l → IntsIn w' (Fr p') A l := fun h j hj => by
    obtain ⟨b, o, e, hd, hc⟩ := h j hj
    exact ⟨b, o, e, (hfr b (lt_of_cell hc) hd).2, hb.cell (hfr b (lt_of_cell hc) hd).1 hc⟩
  intro x
  induction x with
  | any => intro v _ _; trivial
  | val u => intro v _ h; exact h
  | term t => intro v _ h; exact TmIn.keeps hk _ h
  | row l => intro v _ ⟨A, cap, e, h1, h2, h3, h⟩; exact ⟨A, cap, e, h1, h2, h3, ArgsIn.keeps hk h⟩
  | toks l => intro v _ ⟨A, cap, e, h1, h2, h3, h⟩; exact ⟨A, cap, e, h1, h2, h3, ArgsIn.keeps hk h⟩
  | ints l => intro v _ ⟨A, cap, e, h1, h2, h3, h⟩; exact ⟨A, cap, e, h1, h2, h3, hints h⟩
  | pair x y ihx ihy =>
    intro v hn ⟨a, b, e, h1, h2⟩
    have hn' : isNew x = false ∧ isNew y = false := by simpa [okAfter, isNew] using hn
    have ok : ∀ z : Ab, isNew z = false → okAfter s z = true := fun z hz => by
      cases z <;> first | rfl | (cases hz; done) | simp [okAfter, hz]
    exact ⟨a, b, e, ihx _ (ok _ hn'.1) h1, ihy _ (ok _ hn'.2) h2⟩
  | tup3 x y z ihx ihy ihz =>
    intro v hn ⟨a, b, c, e, h1, h2, h3⟩
    have hn' : isNew x = false ∧ isNew y = false ∧ isNew z = false := by simpa [okAfter, isNew] using hn
    exact ⟨a, b, c, e, ihx _ (ok_new s _ hn'.1) h1, ihy _ (ok_new s _ hn'.2.1) h2, ihz _ (ok_new s _ hn'.2.2) h3⟩
  | tup4 x y z u ihx ihy ihz ihu =>
    intro v hn ⟨a, b, c, d, e, h1, h2, h3, h4⟩
    have hn' : isNew x = false ∧ isNew y = false ∧ isNew z = false ∧ isNew u = false := by simpa [okAfter, isNew] using hn
    exact ⟨a, b, c, d, e, ihx _ (ok_new s _ hn'.1) h1, ihy _ (ok_new s _ hn'.2.1) h2, ihz _ (ok_new s _ hn'.2.2.1) h3, ihu _ (ok_new s _ hn'.2.2.2) h4⟩
  | tok n => intro v _ h; exact TmIn.keeps hk _ h
  | vtok n => intro v _ h; exact h
  | stok n => intro v _ h; exact h
  | itok n => intro v _ ⟨A, cap, e, h1, h2, h3, h⟩; exact ⟨A, cap, e, h1, h2, h3, hints h⟩
  | rtok n => intro v _ ⟨A, cap, e, h1, h2, h3, h⟩; exact ⟨A, cap, e, h1, h2, h3, ArgsIn.keeps hk h⟩
  | vcell r y ih =>
    intro v hn ⟨t, ht, g, A, cap, e, h1, h2, h3⟩
    simp only [okAfter, Bool.and_eq_true, bne_iff_ne, ne_eq] at hn
    obtain ⟨hr, hn⟩ := hn
    have hg : p g ≠ some (s + 1) := by rw [h1]; intro e; injection e with e; exact hr (Nat.succ.inj e)
    exact ⟨t, ht, g, A, cap, e, (hp g (lt_of_heap h2) hg).trans h1, hb.heap hg h2, ih _ hn h3⟩
  | own r n =>
    intro v hn h
    have hr : r ≠ s := by simpa [okAfter] using hn
    refine TmIn.keeps (fun k o ho hd => ?_) _ h
    have hg : p k ≠ some (s + 1) := by rw [hd.1]; intro e; injection e with e; exact hr (Nat.succ.inj e)
    exact ⟨hb.heap hg ho, (hp k (lt_of_heap ho) hg).trans hd.1, hd.2.but hb hg⟩
  | mfld r n j =>
    intro v hn ⟨g, A, cap, e, h1, h2, h3⟩
    have hr : r ≠ s := by simpa [okAfter] using hn
    have hg : p g ≠ some (s + 1) := by rw [h1]; intro e; injection e with e; exact hr (Nat.succ.inj e)
    exact ⟨g, A, cap, e, (hp g (lt_of_heap h2) hg).trans h1, hb.heap hg h2, TmIn.keeps hk _ h3⟩
  | grow r n =>
    intro v hn ⟨xs, ho, h1, hl, hr'⟩
    have hr : r ≠ s := by simpa [okAfter] using hn
    have hg : ∀ g, v.ownBlock = some g → p g ≠ some (s + 1) := fun g hgo => by rw [h1 g hgo]; intro e; injection e with e; exact hr (Nat.succ.inj e)
    exact ⟨xs, own_but ho hb hg, fun g hgo => (hp g (own_lt ho hgo) (hg g hgo)).trans (h1 g hgo), hl, fun i hi => let ⟨A0, cap0, e0, e1, e2, e3, ht⟩ := hr' i hi; ⟨A0, cap0, e0, e1, e2, e3, TmIn.keeps hk _ ht⟩⟩
  | intAt n => intro v _ ⟨b, o, e, h0, h1⟩; exact ⟨b, o, e, (hfr b (lt_of_cell h1) h0).2, hb.cell (hfr b (lt_of_cell h1) h0).1 h1⟩
  | sat n => intro v _ ⟨b, o, e, h0, h1⟩; exact ⟨b, o, e, (hfr b (lt_of_cell h1) h0).2, hb.cell (hfr b (lt_of_cell h1) h0).1 h1⟩
  | srow l => intro v _ ⟨A, cap, e, h1, h2, h⟩; exact ⟨A, cap, e, h1, h2, h.keeps hk⟩
  | iat n => intro v _ ⟨b, o, e, h0, h1⟩; exact ⟨b, o, e, (hfr b (lt_of_cell h1) h0).2, hb.cell (hfr b (lt_of_cell h1) h0).1 h1⟩
  | elm n => intro v _ ⟨b, o, A, cap, e, h0, h1, h2, h3, h4, h5⟩; exact ⟨b, o, A, cap, e, (hfr b (lt_of_cell h1) h0).2, hb.cell (hfr b (lt_of_cell h1) h0).1 h1, hb.cell (hfr b (lt_of_cell h1) h0).1 h2, hb.cell (hfr b (lt_of_cell h1) h0).1 h3, hb.cell (hfr b (lt_of_cell h1) h0).1 h4, TmIn.keeps hk _ h5⟩
  | fld n j => intro v _ ⟨b, o, A, cap, e, h0, h1, h2, h3, h4, h5⟩; exact ⟨b, o, A, cap, e, (hfr b (lt_of_cell h1) h0).2, hb.cell (hfr b (lt_of_cell h1) h0).1 h1, hb.cell (hfr b (lt_of_cell h1) h0).1 h2, hb.cell (hfr b (lt_of_cell h1) h0).1 h3, hb.cell (hfr b (lt_of_cell h1) h0).1 h4, TmIn.keeps hk _ h5⟩
  | termAt t => intro v _ ⟨b, o, A, cap, e, h0, h1, h2, h3, h4, h5⟩; exact ⟨b, o, A, cap, e, (hfr b (lt_of_cell h1) h0).2, hb.cell (hfr b (lt_of_cell h1) h0).1 h1, hb.cell (hfr b (lt_of_cell h1) h0).1 h2, hb.cell (hfr b (lt_of_cell h1) h0).1 h3, hb.cell (hfr b (lt_of_cell h1) h0).1 h4, TmIn.keeps hk _ h5⟩

section
variable {Q : Exit → Act → World → Prop}

theorem settle_facts {p p' : Nat → Option Nat} {w w' : World} {a : Act} {σ : List (Tmp × Ab)} {s t : Tmp} (hnd : nodupB (σ.map (·.1)) = true) (hf : Facts σ p w a) (hp : ∀ b, b < w.heap.size → p b ≠ some (s + 1) → p' b = p b) (hb : But (fun b => p b = some (s + 1)) w w') :
    Facts (σ.filter fun e => e.1 != t && okAfter s e.2) p' w' a := by
  intro r x hx
  have hm := lk_pair hx
  rw [List.mem_filter] at hm
  obtain ⟨hm, hq⟩ := hm
  simp only [Bool.and_eq_true] at hq
  obtain ⟨v, h1, h2⟩ := hf r x (pair_lk hnd hm)
  exact ⟨v, h1, Ab.after hp hb x v hq.2 h2⟩

theorem settle_ok {p : Nat → Option Nat} {w : World} {a : Act} {σ σ' : List (Tmp × Ab)} {s v : Tmp} {x : Ab} {u u0 : Tm} {g A cap A0 cap0 : _} (hxu : tmAny x = some u) (hf : Facts σ p w a) (hs : a.tmps[s]? = some (.pointer (some ⟨g, 0, none⟩))) (hp : p g = some (s + 1)) (hg : w.heap[g]? = some (TB u0 A0 cap0))
    (hu : x.pd p w (VT u A cap)) (h : settle s x σ = some σ') :
    Facts σ' p ((((w.setCell ⟨g, 0, none⟩ (.int .i64 u.kind)).setCell ⟨g, 1, none⟩ (.int .i64 u.num)).setCell ⟨g, 2, none⟩ (.string u.name)).setCell ⟨g, 3, none⟩ (.slice A u.args.length cap)) a := by
  unfold settle at h
  split at h
  · rename_i hnd0
    simp only [Bool.and_eq_true] at hnd0
    obtain ⟨hnd, hok⟩ := hnd0
    injection h with h
    subst h
    have hb0 := (But.refl (· = g) w).set4 (k := g) (.inl rfl) (.int .i64 u.kind) (.int .i64 u.num) (.string u.name) (.slice A u.args.length cap)
    have hb := hb0.mono (S' := fun b => p b = some (s + 1)) fun b e _ => by rw [e]; exact hp
    have hset := set4 (a' := .int .i64 u.kind) (b' := .int .i64 u.num) (c' := .string u.name) (d' := .slice A u.args.length cap) hg
    intro t x hx
    unfold lk at hx
    by_cases hst : s = t
    · subst hst
      rw [if_pos (by simp)] at hx
      injection hx with hx
      subst hx
      exact ⟨_, hs, u, hxu, g, A, cap, rfl, hp, hset, Ab.after (fun _ _ _ => rfl) hb x _ hok hu⟩
    · rw [if_neg (by simpa using hst)] at hx
      exact settle_facts hnd hf (fun _ _ _ => rfl) hb t x hx
  · cases h

theorem facts_put {p p' : Nat → Option Nat} {w w' : World} {a : Act} {σ : List (Tmp × Ab)} {t : Tmp} {x : Ab} {v : Value} {z : Nat} (hz : a.tmps.size = z) (ht : t < z) (hx : Ext p w p' w') (hf : Facts σ p w a) (hv : x.pd p' w' v) :
    Facts ((t, x) :: byKey (· != t) σ) p' w' (a.put (some t) v) := fun s y hs => by
  unfold lk at hs
  by_cases hts : t = s
  · subst hts
    rw [if_pos (by simp)] at hs
    injection hs with hs
    subst hs
    exact ⟨v, Array.getElem?_setIfInBounds_self_of_lt (by rw [hz]; exact ht), hv⟩
  · rw [if_neg (by simpa using hts)] at hs
    obtain ⟨u, h1, h2⟩ := hf s y (lk_byKey hs).2
    exact ⟨u, by rw [show (a.put (some t) v).tmps[s]? = a.tmps[s]? from Array.getElem?_setIfInBounds_ne hts]; exact h1, y.kept _ _ _ _ _ hx h2⟩

omit [Env] in
theorem GrowAt.row {s : Tmp} {ts : List Tm} {p p' : Nat → Option Nat} {w : World} {v : Value} (h : GrowAt s ts p w v) (hp : ∀ b, b < w.heap.size → p b = none ∨ p b = some (s + 1) → p' b = none) : ∃ A cap, v = .slice A ts.length cap ∧ ts.length ≤ cap ∧ ts.length ≤ 140737488351232 ∧ cap ≤ maxLen ∧ ArgsIn w (Fr p') ts A 0 := by
  obtain ⟨xs, ho, hpin, hl, hx⟩ := h
  have h2 := ho.2
  rcases h2 with ⟨rfl, h0⟩ | ⟨g, cap, cur, rfl, hg, hh, hc1, hc2, hc3, hc4⟩
  · have : ts = [] := List.eq_nil_of_length_eq_zero h0
    subst this
    exact ⟨none, 0, rfl, by simp, by simp, by unfold maxLen; omega, by unfold ArgsIn; trivial⟩
  · refine ⟨some ⟨g, 0, none⟩, cap, rfl, hc1, by omega, hc2, argsIn_iff.2 fun j hj => ?_⟩
    obtain ⟨A0, cap0, e0, e1, e2, e3, ht⟩ := hx j hj
    refine ⟨g, 0, _, _, _, _, rfl, hp g (lt_of_heap hh) (.inr (hpin g rfl)), ?_, ?_, ?_, ?_, TmIn.keeps (fun k o hk hd => ⟨hk, hp k (lt_of_heap hk) (.inl hd)⟩) _ ht⟩
    · rw [ho.cellAt _ (by omega)]; simpa using e0
    · rw [ho.cellAt _ (by omega)]; simpa using e1
    · rw [ho.cellAt _ (by omega)]; simpa using e2
    · rw [ho.cellAt _ (by omega)]; simpa using e3

omit [Env] in
/-- One more element of a row that grows. -/
theorem GrowAt.push {s : Tmp} {ts : List Tm} {t : Tm} {p p' : Nat → Option Nat} {w w' : World} {v : Value} {xs : List Value} {A0 : Option Addr} {cap0 g cap : Nat}
    (hown : w.ownsRow 0 24 4 v ts.length xs) (hpin : ∀ g, v.ownBlock = some g → p g = some (s + 1)) (hr : ∀ i (h : i < ts.length), ∃ A0 cap0, xs[i * 4]? = some (.int .i64 ts[i].kind) ∧ xs[i * 4 + 1]? = some (.int .i64 ts[i].num) ∧
      xs[i * 4 + 2]? = some (.string ts[i].name) ∧ xs[i * 4 + 3]? = some (.slice A0 ts[i].args.length cap0) ∧ TmIn w (Fr p) ts[i] (.agg #[.int .i64 ts[i].kind, .int .i64 ts[i].num, .string ts[i].name, .slice A0 ts[i].args.length cap0]))
    (ht : TmIn w (Fr p) t (VT t A0 cap0)) (hlen : ts.length + 1 ≤ 1000000)
    (ho' : w'.ownsRow 0 24 4 (.slice (some ⟨g, 0, none⟩) (ts.length + 1) cap) (ts.length + 1) (xs ++ C4 t A0 cap0)) (hg : w.grownBy w' v.ownBlock)
    (hp : ∀ b, b < w.heap.size → p b = none → p' b = none) (hpg : p' g = some (s + 1)) : GrowAt s (ts ++ [t]) p' w' (.slice (some ⟨g, 0, none⟩) (ts.length + 1) cap) := by
  have hl : xs.length = ts.length * 4 := hown.1
  have hk : KeepsIn (Fr p) (Fr p') w w' := fun k o ho hd => ⟨(hg.block k (lt_of_heap ho) (fun e => by have := hpin k e.symm; rw [show p k = none from hd] at this; cases this)).trans ho, hp k (lt_of_heap ho) hd⟩
  refine ⟨xs ++ C4 t A0 cap0, by simpa using ho', fun g' e => ?_, by simpa using hlen, fun i hi => ?_⟩
  · have : g = g' := by simpa [Value.ownBlock] using e
    rw [← this]; exact hpg
  · by_cases hlt : i < ts.length
    · obtain ⟨A1, cap1, e0, e1, e2, e3, h4⟩ := hr i hlt
      have hti : (ts ++ [t])[i] = ts[i] := List.getElem_append_left hlt
      rw [hti]
      refine ⟨A1, cap1, ?_, ?_, ?_, ?_, TmIn.keeps hk _ h4⟩
      · rw [List.getElem?_append_left (by omega)]; exact e0
      · rw [List.getElem?_append_left (by omega)]; exact e1
      · rw [List.getElem?_append_left (by omega)]; exact e2
      · rw [List.getElem?_append_left (by omega)]; exact e3
    · obtain rfl : i = ts.length := by simp at hi; omega
      have hti : (ts ++ [t])[ts.length] = t := by simp
      rw [hti]
      refine ⟨A0, cap0, ?_, ?_, ?_, ?_, TmIn.keeps hk _ ht⟩
      · rw [List.getElem?_append_right (by omega), hl]; simp
      · rw [List.getElem?_append_right (by omega), hl]; simp
      · rw [List.getElem?_append_right (by omega), hl]; simp
      · rw [List.getElem?_append_right (by omega), hl]; simp

theorem push_key {t s : Tmp} {x : Ab} {n : Option Nat} (h : keyOf t x = some (s, n)) {p : Nat → Option Nat} {w : World} {v : Value} (hv : x.pd p w v) : GrowAt s (baseRow Env.R n) p w v := by
  unfold keyOf at h
  split at h
  · simp only [Option.some.injEq, Prod.mk.injEq] at h
    obtain ⟨rfl, rfl⟩ := h
    exact hv
  · simp only [Option.some.injEq, Prod.mk.injEq] at h
    obtain ⟨rfl, rfl⟩ := h
    obtain rfl : v = .slice none 0 0 := hv
    refine ⟨[], World.ownsRow_nil _ _ _ _, ?_, ?_, ?_⟩
    · intro g hg; cases hg
    · simp [baseRow]
    · intro i hi; simp [baseRow] at hi
  · cases h

set_option maxHeartbeats 1000000 in
theorem app_tail {p0 : Nat → Option Nat} {w0 : World} {d : List Deferred} {z : Nat} (ho : Old p0) {o : Oper} {K : Act → World → Prop} {σ σ' : List (Tmp × Ab)} {p : Nat → Option Nat} {w : World} {ac : Act} {a b t : Tmp} (happ : appOf o = some (a, b, t)) (h : appTl σ a b t = some σ')
    (htz : t < z) (hx : Ext p0 w0 p w) (hd : ac.defers = d) (hz : ac.tmps.size = z) (hf : Facts σ p w ac)
    (hk : ∀ p' w' a', Ext p0 w0 p' w' → a'.defers = d → a'.tmps.size = z → Facts σ' p' w' a' → K a' w') : o.wp Try.prog ac w K Q := by
  obtain ⟨i0, hi0, hz0, hz1, hz2⟩ := info_parts Try.infoTerm
  obtain ⟨hop, hdst⟩ : o.op = .call { callee := .builtin .append, args := #[.tmp a, .tmp b], argTypes := #[22, 22] } ∧ o.dst = some t := by
    unfold appOf at happ
    split at happ
    · rename_i c t' hc ht'
      split at happ
      · rename_i a' b' t1 t2 h1 h2 h3
        split at happ
        · rename_i hok
          simp only [Bool.and_eq_true, isTerms, beq_iff_eq] at hok
          simp only [Option.some.injEq, Prod.mk.injEq] at happ
          obtain ⟨rfl, rfl, rfl⟩ := happ
          obtain ⟨callee, ⟨args⟩, ⟨tys⟩⟩ := c
          obtain rfl : callee = _ := h1
          obtain rfl : args = _ := h2
          obtain rfl : tys = _ := h3
          rw [hok.1, hok.2] at hc
          exact ⟨hc, ht'⟩
        · cases happ
      · cases happ
    · cases happ
  unfold appTl at h
  split at h
  · rename_i x k hxa hxb
    split at h
    · rename_i s n hkey
      split at h
      · rename_i m fin hpush
        split at h
        · rename_i hnd
          injection h with h
          subst h
          obtain ⟨va, ha1, ha2⟩ := hf _ _ hxa
          obtain ⟨vb, hb1, hb2⟩ := hf _ _ hxb
          obtain ⟨hR, hRl⟩ : Env.R m = baseRow Env.R n ++ [Env.T k] ∧ (Env.R m).length ≤ 1000000 := by
            unfold pushOf at hpush
            obtain ⟨g, hg, hgx⟩ := env_find hpush
            split at hgx
            · split at hgx
              · rename_i hok
                simp only [Bool.and_eq_true, beq_iff_eq] at hok
                injection hgx with hgx
                simp only [Prod.mk.injEq] at hgx
                obtain ⟨h1, h2⟩ := hok
                rw [← h1, ← h2, ← hgx.1]
                exact hg
              · cases hgx
            · cases hgx
          have hgrow := push_key hkey ha2
          obtain ⟨xs, hown, hpin, hl, hr⟩ := hgrow
          obtain ⟨A, cap, hvb, -, -, -, hargs⟩ := hb2
          simp only [List.map_cons, List.map_nil, ArgsIn] at hargs
          obtain ⟨hel, -⟩ := hargs
          have hel' : ArgIn w (Fr p) (Env.T k) A 0 := hel
          obtain ⟨bb, oo, A0, cap0, rfl, hbb, c0, c1, c2, c3, ht⟩ := hel'.form
          simp only [Nat.zero_mul, Nat.add_zero] at c0 c1 c2 c3
          have e1 : ac.eval (.tmp a) = va := by show ac.tmps.getD a undef = _; rw [Array.getD_eq_getD_getElem?, ha1]; rfl
          have e2 : ac.eval (.tmp b) = .slice (some ⟨bb, oo, none⟩) 1 cap := by
            show ac.tmps.getD b undef = _
            rw [Array.getD_eq_getD_getElem?, hb1, hvb]; rfl
          have hlen1 : (baseRow Env.R n).length + 1 ≤ 1000000 := by rw [hR] at hRl; simpa using hRl
          refine wp_append_lies w (.tmp a) (.tmp b) 22 hop 0 24 i0 _ 4 56 Try.underlying22 hi0 hz0 hz1 hz2 rfl (by omega) va _ xs e1 hown ⟨bb, oo, none⟩ 1 cap (C4 (Env.T k) A0 cap0) e2 rfl ?_ (by simp [Value.oneCell']) (by omega) (by unfold maxLen; omega) (by omega) (by omega) w.heap.size rfl ?_
          · intro j u hu
            have hadd : (⟨bb, oo, none⟩ : Addr).add j = ⟨bb, oo + j, none⟩ := by unfold Addr.add; split <;> simp_all
            rw [hadd]
            match j, hu with
            | 0, hu => simp only [List.getElem?_cons_zero, Option.some.injEq] at hu; subst hu; exact c0
            | 1, hu => simp only [List.getElem?_cons_succ, List.getElem?_cons_zero, Option.some.injEq] at hu; subst hu; exact c1
            | 2, hu => simp only [List.getElem?_cons_succ, List.getElem?_cons_zero, Option.some.injEq] at hu; subst hu; exact c2
            | 3, hu => simp only [List.getElem?_cons_succ, List.getElem?_cons_zero, Option.some.injEq] at hu; subst hu; exact c3
            | j + 4, hu => simp at hu
          · intro g cap' w' hown' hgrown hat hlt
            have hbut : But (fun b => p b = some (s + 1)) w w' := (But.refl _ _).grown hgrown fun k hk => .inl (hpin k hk)
            have hq : ∀ fin : Bool, ∃ p', (∀ b, b < w.heap.size → p b ≠ some (s + 1) → p' b = p b) ∧ (if fin then Ab.rtok m else .grow s m).pd p' w' (.slice (some ⟨g, 0, none⟩) ((baseRow Env.R n).length + 1) cap') := by
              intro fin
              have hG : ∃ p1 : Nat → Option Nat, (∀ b, b < w.heap.size → p1 b = p b) ∧ (∀ b, w.heap.size ≤ b → p1 b = some (s + 1)) ∧ GrowAt s (baseRow Env.R n ++ [Env.T k]) p1 w' (.slice (some ⟨g, 0, none⟩) ((baseRow Env.R n).length + 1) cap') := by
                refine ⟨fun b => if b < w.heap.size then p b else some (s + 1), fun b hb => if_pos hb, fun b hb => if_neg (by omega), ?_⟩
                refine GrowAt.push hown hpin hr ht hlen1 hown' hgrown (fun b hb h => by rw [if_pos hb]; exact h) ?_
                rcases hat with h | h
                · by_cases hgl : g < w.heap.size
                  · rw [if_pos hgl]; exact hpin g h
                  · rw [if_neg hgl]
                · rw [if_neg (by omega)]
              obtain ⟨p1, h1, h2, hG⟩ := hG
              cases fin with
              | false =>
                refine ⟨p1, fun b hb _ => h1 b hb, ?_⟩
                show GrowAt s (Env.R m) p1 w' _
                rw [hR]; exact hG
              | true =>
                refine ⟨fun b => if p1 b = some (s + 1) then none else p1 b, fun b hb hne => by show (if p1 b = some (s + 1) then none else p1 b) = p b; rw [h1 b hb, if_neg hne], ?_⟩
                have := hG.row (p' := fun b => if p1 b = some (s + 1) then none else p1 b) fun b hb h => by
                  rcases h with h | h
                  · simp [h]
                  · simp [h]
                show ∃ A cap, _
                rw [hR]
                exact this
            obtain ⟨p', hp', hres⟩ := hq fin
            rw [hdst]
            refine hk p' w' _ (hx.stored ho hp' hbut) hd (by simp only [Act.put, Array.size_setIfInBounds]; exact hz) fun r y hy => ?_
            unfold lk at hy
            by_cases htr : t = r
            · subst htr
              rw [if_pos (by simp)] at hy
              injection hy with hy
              subst hy
              exact ⟨_, Array.getElem?_setIfInBounds_self_of_lt (by rw [hz]; exact htz), hres⟩
            · rw [if_neg (by simpa using htr)] at hy
              obtain ⟨u, h1, h2⟩ := settle_facts (t := t) hnd hf hp' hbut r y hy
              exact ⟨u, by rw [show (ac.put (some t) _).tmps[r]? = ac.tmps[r]? from Array.getElem?_setIfInBounds_ne htr]; exact h1, h2⟩
        · cases h
      · cases h
    · cases h
  · cases h

theorem step_tail {C : FuncId → List Ab → Option Ab} (hC : CallsOk C) {p0 : Nat → Option Nat} {w0 : World} {d : List Deferred} {z : Nat} (ho : Old p0) {o : Oper} {K : Act → World → Prop} {σ σ' : List (Tmp × Ab)} {p : Nat → Option Nat} {w : World} {a : Act} (h : stTl C σ o = some σ')
    (hall : tlB z [o] = true) (hx : Ext p0 w0 p w) (hd : a.defers = d) (hz : a.tmps.size = z) (hf : Facts σ p w a)
    (hk : ∀ p' w' a', Ext p0 w0 p' w' → a'.defers = d → a'.tmps.size = z → Facts σ' p' w' a' → K a' w') : o.wp Try.prog a w K Q := by
  simp only [tlB, List.all_cons, List.all_nil, Bool.and_true, Bool.and_eq_true] at hall
  unfold stTl at h
  split at h
  · rename_i ty s v hop
    split at h
    · rename_i r u0 u hs hv
      split at h
      · rename_i hok
        simp only [Bool.and_eq_true, isTerm, beq_iff_eq, bne_iff_ne, ne_eq, Option.isNone_iff_eq_none] at hok
        obtain ⟨⟨⟨⟨rfl, rfl⟩, hne⟩, hdst⟩, htm⟩ := hok
        obtain ⟨ut, hut⟩ := isTm_of htm
        obtain ⟨vs, hs1, ut0, hut0, g, A0, cap0, rfl, hp, hblk, -⟩ := hf _ _ hs
        obtain ⟨vv, hv1, hv2⟩ := hf _ _ hv
        have hv2' := hv2
        obtain ⟨A, cap, rfl⟩ := any_form hut hv2'
        have e1 : a.eval (.tmp r) = .pointer (some ⟨g, 0, none⟩) := by show a.tmps.getD r undef = _; rw [Array.getD_eq_getD_getElem?, hs1]; rfl
        have e2 : a.eval (.tmp v) = VT ut A cap := by show a.tmps.getD v undef = _; rw [Array.getD_eq_getD_getElem?, hv1]; rfl
        obtain ⟨c0, c1, c2, c3⟩ := blk4 hblk
        have f0 := frz hblk
        have hrun : (execOp a.eval o).run Try.prog w = .ok .skip ((((w.setCell ⟨g, 0, none⟩ (.int .i64 ut.kind)).setCell ⟨g, 1, none⟩ (.int .i64 ut.num)).setCell ⟨g, 2, none⟩ (.string ut.name)).setCell ⟨g, 3, none⟩ (.slice A ut.args.length cap)) := by
          generalize a.eval = ev0 at *
          simp [execOp, hop, e1, e2, go_sem, c0, c1, c2, c3, f0]
        unfold Oper.wp
        rw [hrun]
        show K (a.put o.dst undef) _
        rw [hdst]
        exact hk _ _ _ (hx.stored (s := r) ho (fun _ _ _ => rfl) (((But.refl (· = g) w).set4 (k := g) (.inl rfl) _ _ _ _).mono fun b e _ => by rw [e]; exact hp)) hd hz (settle_ok (v := v) hut hf hs1 hp hblk hv2' h)
      · cases h
    · cases h
  · split at h
    · rename_i a' b' t' happ
      have htz : t' < z := by
        have := hall.1
        have hdst : o.dst = some t' := by
          unfold appOf at happ
          split at happ
          · rename_i c t'' hc ht''
            split at happ
            · split at happ
              · simp only [Option.some.injEq, Prod.mk.injEq] at happ
                rw [ht'', happ.2.2]
              · cases happ
            · cases happ
          · cases happ
        rw [hdst] at this
        simpa using this
      exact app_tail ho happ h htz hx hd hz hf hk
    split at h
    · cases h
    · rename_i t hdst
      split at h
      · cases h
      · rename_i x hx1
        injection h with h
        subst h
        have hrd := absOp_ok (Q := Q) (F := FF σ) hC (fun s y hs => FF.at hs) hx1 a p w (fun s hs => by
          have h1 := List.all_eq_true.1 hall.2 s hs
          have hsz : s < a.tmps.size := by rw [hz]; simpa using h1
          refine ⟨a.tmps[s], Array.getElem?_eq_getElem hsz, ?_⟩
          cases hl : lk σ s with
          | none => unfold FF; rw [hl]; trivial
          | some y =>
            obtain ⟨v, h2, h3⟩ := hf s y hl
            rw [Array.getElem?_eq_getElem hsz] at h2
            injection h2 with h2
            rw [FF.at hl, h2]
            exact h3)
        refine Oper.wp_mono ?_ hrd
        rintro a' w' ⟨v, p', rfl, hx', hv⟩
        have htz : t < z := by have := hall.1; rw [hdst] at this; simpa using this
        rw [hdst]
        exact hk _ _ _ (hx.trans hx') hd (by simp only [Act.put, Array.size_setIfInBounds]; exact hz) (facts_put hz htz hx' hf hv)

theorem wpList_tail {C : FuncId → List Ab → Option Ab} (hC : CallsOk C) {ops : Array Oper} {ds : List (Option Tmp)} (hds : ops.toList.map (·.dst) = ds) {p0 : Nat → Option Nat} {w0 : World} {d : List Deferred} {z : Nat} (ho : Old p0) : ∀ {l : List Oper} {σ σ' : List (Tmp × Ab)} {p : Nat → Option Nat} {w : World} {a : Act}, runTl C ds σ l = some σ' →
    tlB z l = true → Ext p0 w0 p w → a.defers = d → a.tmps.size = z → Facts σ p w a →
    (∀ p' w' a', Ext p0 w0 p' w' → a'.defers = d → a'.tmps.size = z → Facts σ' p' w' a' → Q .normal a' w') → wpList Try.prog ops Q l a w
  | [], σ, σ', p, w, a, h, _, hx, hd, hz, hf, hk => by
    simp only [runTl, Option.some.injEq] at h
    subst h
    exact hk p w a hx hd hz hf
  | o :: l, σ, σ', p, w, a, h, hall, hx, hd, hz, hf, hk => by
    have hall0 : tlB z [o] = true ∧ tlB z l = true := by
      simp only [tlB, List.all_cons, List.all_nil, Bool.and_true, Bool.and_eq_true] at hall ⊢
      exact hall
    unfold runTl at h
    unfold wpList
    cases hg : o.guard with
    | none =>
      rw [hg] at h
      simp only at h
      rw [if_pos (by unfold Region.wanted; simp only [hg])]
      refine .inl ?_
      split at h
      · rename_i σ1 h1
        exact step_tail hC ho h1 hall0.1 hx hd hz hf fun p' w' a' hx' hd' hz' hf' => wpList_tail hC hds ho h hall0.2 hx' hd' hz' hf' hk
      · cases h
    | some gb =>
      obtain ⟨g, b⟩ := gb
      rw [hg] at h
      simp only at h
      split at h
      · cases h
      · rename_i tg htg
        split at h
        · rename_i c hc
          obtain ⟨v, hv1, hv2⟩ := hf tg _ hc
          obtain rfl : v = .bool c := hv2
          have hy : yielded ops a.tmps g = some c := by
            unfold yielded
            rw [← hds, List.getElem?_map, Array.getElem?_toList] at htg
            cases hog : ops[g]? with
            | none => rw [hog] at htg; cases htg
            | some og =>
              rw [hog] at htg
              simp only [Option.map_some, Option.join_some] at htg
              simp [htg, hv1]
          split at h
          · rename_i hcb
            have hcb' : c = b := by simpa using hcb
            rw [if_pos (by unfold Region.wanted; simp only [hg, hy, hcb']; simp)]
            refine .inl ?_
            split at h
            · rename_i σ1 h1
              exact step_tail hC ho h1 hall0.1 hx hd hz hf fun p' w' a' hx' hd' hz' hf' => wpList_tail hC hds ho h hall0.2 hx' hd' hz' hf' hk
            · cases h
          · rename_i hcb
            rw [if_neg (by unfold Region.wanted; simp only [hg, hy]; simpa using hcb)]
            split at h
            · rename_i t hdst
              have htz : t < z := by have := hall0.1; simp only [tlB, List.all_cons, List.all_nil, Bool.and_true, Bool.and_eq_true, hdst, decide_eq_true_eq] at this; exact this.1
              rw [hdst]
              exact wpList_tail hC hds ho h hall0.2 hx hd (by simp only [Act.put, Array.size_setIfInBounds]; exact hz) (facts_put (x := .val undef) hz htz (Ext.refl _ _) hf rfl) hk
            · rename_i hdst
              rw [hdst]
              exact wpList_tail hC hds ho h hall0.2 hx hd hz hf hk
        · rename_i x0 _ hx0
          split at h
          · rename_i hun
            obtain rfl := isUndef_ok hun
            obtain ⟨v, hv1, hv2⟩ := hf tg _ hx0
            obtain rfl : v = undef := hv2
            have hy : yielded ops a.tmps g = none := by
              unfold yielded
              rw [← hds, List.getElem?_map, Array.getElem?_toList] at htg
              cases hog : ops[g]? with
              | none => rw [hog] at htg; cases htg
              | some og =>
                rw [hog] at htg
                simp only [Option.map_some, Option.join_some] at htg
                simp [htg, hv1, undef]
            rw [if_neg (by unfold Region.wanted; simp only [hg, hy]; simp)]
            split at h
            · rename_i t hdst
              have htz : t < z := by have := hall0.1; simp only [tlB, List.all_cons, List.all_nil, Bool.and_true, Bool.and_eq_true, hdst, decide_eq_true_eq] at this; exact this.1
              rw [hdst]
              exact wpList_tail hC hds ho h hall0.2 hx hd (by simp only [Act.put, Array.size_setIfInBounds]; exact hz) (facts_put (x := .val undef) hz htz (Ext.refl _ _) hf rfl) hk
            · rename_i hdst
              rw [hdst]
              exact wpList_tail hC hds ho h hall0.2 hx hd hz hf hk
          · cases h
        · cases h
/-- One operation of a region, wherever it stands. -/
theorem one_tail {C : FuncId → List Ab → Option Ab} (hC : CallsOk C) {ops : Array Oper} {ds : List (Option Tmp)} (hds : ops.toList.map (·.dst) = ds) {p0 : Nat → Option Nat} {w0 : World} {d : List Deferred} {z : Nat} (ho : Old p0) {o : Oper} {K : Act → World → Prop} {σ σ' : List (Tmp × Ab)} {p : Nat → Option Nat} {w : World} {a : Act} (h : runTl C ds σ [o] = some σ')
    (hall : tlB z [o] = true) (hx : Ext p0 w0 p w) (hd : a.defers = d) (hz : a.tmps.size = z) (hf : Facts σ p w a)
    (hk : ∀ p' w' a', Ext p0 w0 p' w' → a'.defers = d → a'.tmps.size = z → Facts σ' p' w' a' → K a' w') : if Region.wanted o (yielded ops a.tmps) then o.wp Try.prog a w K Q ∨ (o.asks Try.prog a w ∧ LetsOut Q) else K (a.put o.dst undef) w := by
  unfold runTl at h
  cases hg : o.guard with
  | none =>
    rw [hg] at h
    simp only at h
    rw [if_pos (by unfold Region.wanted; simp only [hg])]
    refine .inl ?_
    split at h
    · rename_i σ1 h1
      simp only [runTl, Option.some.injEq] at h
      subst h
      exact step_tail hC ho h1 hall hx hd hz hf hk
    · cases h
  | some gb =>
    obtain ⟨g, b⟩ := gb
    rw [hg] at h
    simp only at h
    split at h
    · cases h
    · rename_i tg htg
      split at h
      · rename_i c hc
        obtain ⟨v, hv1, hv2⟩ := hf tg _ hc
        obtain rfl : v = .bool c := hv2
        have hy : yielded ops a.tmps g = some c := by
          unfold yielded
          rw [← hds, List.getElem?_map, Array.getElem?_toList] at htg
          cases hog : ops[g]? with
          | none => rw [hog] at htg; cases htg
          | some og =>
            rw [hog] at htg
            simp only [Option.map_some, Option.join_some] at htg
            simp [htg, hv1]
        split at h
        · rename_i hcb
          have hcb' : c = b := by simpa using hcb
          rw [if_pos (by unfold Region.wanted; simp only [hg, hy, hcb']; simp)]
          refine .inl ?_
          split at h
          · rename_i σ1 h1
            simp only [runTl, Option.some.injEq] at h
            subst h
            exact step_tail hC ho h1 hall hx hd hz hf hk
          · cases h
        · rename_i hcb
          rw [if_neg (by unfold Region.wanted; simp only [hg, hy]; simpa using hcb)]
          split at h
          · rename_i t hdst
            have htz : t < z := by have := hall; simp only [tlB, List.all_cons, List.all_nil, Bool.and_true, Bool.and_eq_true, hdst, decide_eq_true_eq] at this; exact this.1
            rw [hdst]
            simp only [runTl, Option.some.injEq] at h
            subst h
            exact hk _ _ _ hx hd (by simp only [Act.put, Array.size_setIfInBounds]; exact hz) (facts_put (x := .val undef) hz htz (Ext.refl _ _) hf rfl)
          · rename_i hdst
            rw [hdst]
            simp only [runTl, Option.some.injEq] at h
            subst h
            exact hk _ _ _ hx hd hz hf
      · rename_i x0 _ hx0
        split at h
        · rename_i hun
          obtain rfl := isUndef_ok hun
          obtain ⟨v, hv1, hv2⟩ := hf tg _ hx0
          obtain rfl : v = undef := hv2
          have hy : yielded ops a.tmps g = none := by
            unfold yielded
            rw [← hds, List.getElem?_map, Array.getElem?_toList] at htg
            cases hog : ops[g]? with
            | none => rw [hog] at htg; cases htg
            | some og =>
              rw [hog] at htg
              simp only [Option.map_some, Option.join_some] at htg
              simp [htg, hv1, undef]
          rw [if_neg (by unfold Region.wanted; simp only [hg, hy]; simp)]
          split at h
          · rename_i t hdst
            have htz : t < z := by have := hall; simp only [tlB, List.all_cons, List.all_nil, Bool.and_true, Bool.and_eq_true, hdst, decide_eq_true_eq] at this; exact this.1
            rw [hdst]
            simp only [runTl, Option.some.injEq] at h
            subst h
            exact hk _ _ _ hx hd (by simp only [Act.put, Array.size_setIfInBounds]; exact hz) (facts_put (x := .val undef) hz htz (Ext.refl _ _) hf rfl)
          · rename_i hdst
            rw [hdst]
            simp only [runTl, Option.some.injEq] at h
            subst h
            exact hk _ _ _ hx hd hz hf
        · cases h
      · cases h

end

end Go.Proofs.Ytloekfnlidclcaa

