/-
  A body of regions run on what is known of the values. No condition.
-/
import Derived.Test.YtgedgmdbpembiaaXa
namespace Go.Proofs.Ytgedgmdbpembiaa
open Go.RowKit
set_option linter.unusedVariables false
variable [Env]

/-- The pins without block g. -/
def unpin (p : Nat → Option Nat) (g : Nat) : Nat → Option Nat := fun b => if b = g then none else p b

def isNew : Ab → Bool
  | .new _ => true
  | .pair x y => isNew x || isNew y
  | _ => false

def byKey (q : Tmp → Bool) (σ : List (Tmp × Ab)) : List (Tmp × Ab) := σ.filter fun e => q e.1

omit [Env] in
theorem lk_byKey {q : Tmp → Bool} {σ : List (Tmp × Ab)} {s : Tmp} {x : Ab} (h : lk (byKey q σ) s = some x) : q s = true ∧ lk σ s = some x := by
  induction σ with
  | nil => cases h
  | cons e σ ih =>
    unfold byKey at h
    rw [List.filter_cons] at h
    unfold lk
    by_cases hes : e.1 = s
    · rw [if_pos (by simpa using hes)]
      split at h
      · rename_i hq
        unfold lk at h
        rw [if_pos (by simpa using hes)] at h
        exact ⟨hes ▸ hq, h⟩
      · rename_i hq
        have := ih h
        rw [hes] at hq
        exact absurd this.1 hq
    · rw [if_neg (by simpa using hes)]
      split at h
      · unfold lk at h
        rw [if_neg (by simpa using hes)] at h
        exact ih h
      · exact ih h

def nodupB : List Tmp → Bool
  | [] => true
  | t :: l => !l.contains t && nodupB l

omit [Env] in
theorem lk_pair {σ : List (Tmp × Ab)} {s : Tmp} {x : Ab} (h : lk σ s = some x) : (s, x) ∈ σ := by
  induction σ with
  | nil => cases h
  | cons e σ ih =>
    unfold lk at h
    by_cases hes : e.1 = s
    · rw [if_pos (by simpa using hes)] at h
      injection h with h
      subst h hes
      exact List.mem_cons_self
    · rw [if_neg (by simpa using hes)] at h
      exact List.mem_cons_of_mem _ (ih h)

omit [Env] in
theorem pair_lk {σ : List (Tmp × Ab)} (hn : nodupB (σ.map (·.1)) = true) {s : Tmp} {x : Ab} (h : (s, x) ∈ σ) : lk σ s = some x := by
  induction σ with
  | nil => cases h
  | cons e σ ih =>
    simp only [List.map_cons, nodupB, Bool.and_eq_true, Bool.not_eq_true'] at hn
    unfold lk
    rcases List.mem_cons.1 h with rfl | h
    · simp
    · rw [if_neg, ih hn.2 h]
      intro he
      have : e.1 = s := by simpa using he
      have h1 : e.1 ∈ σ.map (·.1) := by rw [this]; exact List.mem_map.2 ⟨(s, x), h, rfl⟩
      have h2 := hn.1
      simp at h2
      exact h2 x (by rw [this]; exact h)

/-- What is known behind a store of the term u into the new variable t. -/
def okAfter (t : Tmp) : Ab → Bool
  | .new r => r != t
  | x => !isNew x

def settle (t : Tmp) (u : Ab) (σ : List (Tmp × Ab)) : Option (List (Tmp × Ab)) :=
  if nodupB (σ.map (·.1)) then some ((t, .var u) :: σ.filter fun e => e.1 != t && okAfter t e.2) else none

/-- One operation that is carried out. -/
def stTl (C : FuncId → List Ab → Option Ab) (σ : List (Tmp × Ab)) (o : Oper) : Option (List (Tmp × Ab)) :=
  match o.op with
  | .store ty (.tmp s) (.tmp v) => match lk σ s, lk σ v with
    | some (.new r), some u => if isTerm ty && r == s && s != v && o.dst.isNone && isTm u then settle s u σ else none
    | _, _ => none
  | _ => match o.dst with
    | none => none
    | some t => match absOp C (lk σ) o with
      | none => none
      | some x => some ((t, x) :: byKey (· != t) σ)

/-- The operations behind a region's free part, and those of a region in the text's order. -/
def runTl (C : FuncId → List Ab → Option Ab) (ds : List (Option Tmp)) : List (Tmp × Ab) → List Oper → Option (List (Tmp × Ab))
  | σ, [] => some σ
  | σ, o :: l => match o.guard with
    | none => match stTl C σ o with
      | some σ' => runTl C ds σ' l
      | none => none
    | some (g, b) => match (ds[g]?).join with
      | none => none
      | some tg => match lk σ tg with
        | some (.val (.bool c)) => if c == b then (match stTl C σ o with
            | some σ' => runTl C ds σ' l
            | none => none)
          else match o.dst with
            | some t => runTl C ds ((t, .any) :: byKey (· != t) σ) l
            | none => runTl C ds σ l
        | _ => none

def tlB (z : Nat) (l : List Oper) : Bool := l.all fun o => (match o.dst with | some t => decide (t < z) | none => true) && (opTmps o).all fun t => decide (t < z)

/-- Pins of callers alone. -/
def Old (p : Nat → Option Nat) : Prop := ∀ b, p b = none ∨ p b = some 0

omit [Env] in
theorem Ext.stored {p0 p : Nat → Option Nat} {w0 w w' : World} {g : Nat} {s : Tmp} (ho : Old p0) (h : Ext p0 w0 p w) (hp : p g = some (s + 1)) (hb : But (· = g) w w') : Ext p0 w0 (unpin p g) w' := by
  have hg : w0.heap.size ≤ g := by
    rcases Nat.lt_or_ge g w0.heap.size with h1 | h1
    · have := h.pin g h1; rw [hp] at this; rcases ho g with h2 | h2 <;> rw [h2] at this <;> simp at this
    · exact h1
  exact ⟨h.but.trans hb fun i hi _ => .inr (by subst hi; exact hg), fun b hb' => by have := h.pin b hb'; unfold unpin; rw [if_neg (by omega)]; exact this⟩


/-- A store into a pinned block leaves what is known of other values. -/
theorem Ab.stored {p : Nat → Option Nat} {w w' : World} {g : Nat} {s : Tmp} (hp : p g = some s) (hb : But (· = g) w w') : ∀ (x : Ab) (v : Value), isNew x = false → x.pd p w v → x.pd (unpin p g) w' v := by
  have hfr : ∀ b, p b = none → b ≠ g ∧ unpin p g b = none := fun b h => ⟨fun e => (by rw [e, hp] at h; cases h), (by unfold unpin; split <;> simp [h])⟩
  have hk : KeepsIn (Fr p) (Fr (unpin p g)) w w' := fun k o ho hd => ⟨hb.heap (hfr k hd).1 ho, (hfr k hd).2⟩
  intro x
  induction x with
  | any => intro v _ _; trivial
  | val u => intro v _ h; exact h
  | term t => intro v _ h; exact TmIn.keeps hk _ h
  | row l => intro v _ ⟨A, cap, e, h1, h2, h3, h⟩; exact ⟨A, cap, e, h1, h2, h3, ArgsIn.keeps hk h⟩
  | ints l => intro v _ ⟨A, cap, e, h1, h2, h3, h⟩; exact ⟨A, cap, e, h1, h2, h3, h.but hb fun k hd => hfr k hd⟩
  | pair x y ihx ihy =>
    intro v hn ⟨a, b, e, h1, h2⟩
    simp only [isNew, Bool.or_eq_false_iff] at hn
    exact ⟨a, b, e, ihx _ hn.1 h1, ihy _ hn.2 h2⟩
  | tok n => intro v _ h; exact TmIn.keeps hk _ h
  | vtok n => intro v _ h; exact h
  | stok n => intro v _ h; exact h
  | itok n => intro v _ ⟨A, cap, e, h1, h2, h3, h⟩; exact ⟨A, cap, e, h1, h2, h3, h.but hb fun k hd => hfr k hd⟩
  | rtok n => intro v _ ⟨A, cap, e, h1, h2, h3, h⟩; exact ⟨A, cap, e, h1, h2, h3, ArgsIn.keeps hk h⟩
  | var x _ => intro v _ ⟨t, ht, g', A, cap, e, h1, h2, h3⟩; exact ⟨t, ht, g', A, cap, e, (hfr _ h1).2, hb.heap (hfr _ h1).1 h2, TmIn.keeps hk _ h3⟩
  | new s => intro v hn; cases hn
  | intAt n => intro v _ ⟨b, o, e, h0, h1⟩; exact ⟨b, o, e, (hfr _ h0).2, hb.cell (hfr _ h0).1 h1⟩
  | iat n => intro v _ ⟨b, o, e, h0, h1⟩; exact ⟨b, o, e, (hfr _ h0).2, hb.cell (hfr _ h0).1 h1⟩
  | elm n => intro v _ ⟨b, o, A, cap, e, h0, h1, h2, h3, h4, h5⟩; exact ⟨b, o, A, cap, e, (hfr _ h0).2, hb.cell (hfr _ h0).1 h1, hb.cell (hfr _ h0).1 h2, hb.cell (hfr _ h0).1 h3, hb.cell (hfr _ h0).1 h4, TmIn.keeps hk _ h5⟩
  | fld n j => intro v _ ⟨b, o, A, cap, e, h0, h1, h2, h3, h4, h5⟩; exact ⟨b, o, A, cap, e, (hfr _ h0).2, hb.cell (hfr _ h0).1 h1, hb.cell (hfr _ h0).1 h2, hb.cell (hfr _ h0).1 h3, hb.cell (hfr _ h0).1 h4, TmIn.keeps hk _ h5⟩
  | termAt t => intro v _ ⟨b, o, A, cap, e, h0, h1, h2, h3, h4, h5⟩; exact ⟨b, o, A, cap, e, (hfr _ h0).2, hb.cell (hfr _ h0).1 h1, hb.cell (hfr _ h0).1 h2, hb.cell (hfr _ h0).1 h3, hb.cell (hfr _ h0).1 h4, TmIn.keeps hk _ h5⟩

section
variable {Q : Exit → Act → World → Prop}

theorem settle_ok {p : Nat → Option Nat} {w : World} {a : Act} {σ σ' : List (Tmp × Ab)} {s v : Tmp} {x : Ab} {u : Tm} {g A cap : _} (hxu : tmOf x = some u) (hf : Facts σ p w a) (hs : a.tmps[s]? = some (.pointer (some ⟨g, 0, none⟩))) (hp : p g = some (s + 1)) (hg : w.heap[g]? = some (TB zeroT none 0))
    (hu : TmIn w (Fr p) u (VT u A cap)) (h : settle s x σ = some σ') :
    Facts σ' (unpin p g) ((((w.setCell ⟨g, 0, none⟩ (.int .i64 u.kind)).setCell ⟨g, 1, none⟩ (.int .i64 u.num)).setCell ⟨g, 2, none⟩ (.string u.name)).setCell ⟨g, 3, none⟩ (.slice A u.args.length cap)) a := by
  unfold settle at h
  split at h
  · rename_i hnd
    injection h with h
    subst h
    have hb := (But.refl (· = g) w).set4 (k := g) (.inl rfl) (.int .i64 u.kind) (.int .i64 u.num) (.string u.name) (.slice A u.args.length cap)
    have hset := set4 (a' := .int .i64 u.kind) (b' := .int .i64 u.num) (c' := .string u.name) (d' := .slice A u.args.length cap) hg
    intro t x hx
    unfold lk at hx
    by_cases hst : s = t
    · subst hst
      rw [if_pos (by simp)] at hx
      injection hx with hx
      subst hx
      refine ⟨_, hs, u, hxu, g, A, cap, rfl, by simp [unpin], hset, ?_⟩
      exact TmIn.keeps (fun k o ho hd => ⟨hb.heap (fun e => by rw [e] at hd; simp only [Fr] at hd; rw [hp] at hd; cases hd) ho, by simp only [Fr, unpin]; split <;> simp [show p k = none from hd]⟩) _ hu
    · rw [if_neg (by simpa using hst)] at hx
      have hm := lk_pair hx
      rw [List.mem_filter] at hm
      obtain ⟨hm, hq⟩ := hm
      simp only [Bool.and_eq_true] at hq
      obtain ⟨v, h1, h2⟩ := hf t x (pair_lk hnd hm)
      refine ⟨v, h1, ?_⟩
      cases hn : isNew x with
      | false => exact Ab.stored hp hb x v hn h2
      | true =>
        cases x with
        | new r =>
          have hr : r ≠ s := by have := hq.2; simp only [okAfter] at this; simpa using this
          obtain ⟨g', e, h3, h4⟩ := h2
          have hne : g' ≠ g := fun e => hr (by rw [e, hp] at h3; injection h3 with h3; exact (Nat.succ.inj h3).symm)
          exact ⟨g', e, by simp [unpin, hne, h3], hb.heap hne h4⟩
        | pair x y => have := hq.2; simp only [okAfter, hn] at this; cases this
        | _ => cases hn
  · cases h

theorem facts_put {p p' : Nat → Option Nat} {w w' : World} {a : Act} {σ : List (Tmp × Ab)} {t : Tmp} {x : Ab} {v : Value} {z : Nat} (hz : a.tmps.size = z) (ht : t < z) (hx : Ext p w p' w') (hf : Facts σ p w a) (hv : x.pd p' w' v) :
    Facts ((t, x) :: byKey (· != t) σ) p' w' (a.put (some t) v) := fun s y hs => by
  unfold lk at hs
  by_cases hts : t = s
  · subst hts
    rw [if_pos (by simp)] at hs
    injection hs with hs
    subst hs
    exact ⟨v, Array.getElem?_setIfInBounds_self_of_lt (by rw [hz]; exact ht), hv⟩
  · rw [if_neg (by simpa using hts)] at hs
    obtain ⟨u, h1, h2⟩ := hf s y (lk_byKey hs).2
    exact ⟨u, by rw [show (a.put (some t) v).tmps[s]? = a.tmps[s]? from Array.getElem?_setIfInBounds_ne hts]; exact h1, y.kept _ _ _ _ _ hx h2⟩

theorem step_tail {C : FuncId → List Ab → Option Ab} (hC : CallsOk C) {p0 : Nat → Option Nat} {w0 : World} {d : List Deferred} {z : Nat} (ho : Old p0) {o : Oper} {K : Act → World → Prop} {σ σ' : List (Tmp × Ab)} {p : Nat → Option Nat} {w : World} {a : Act} (h : stTl C σ o = some σ')
    (hall : tlB z [o] = true) (hx : Ext p0 w0 p w) (hd : a.defers = d) (hz : a.tmps.size = z) (hf : Facts σ p w a)
    (hk : ∀ p' w' a', Ext p0 w0 p' w' → a'.defers = d → a'.tmps.size = z → Facts σ' p' w' a' → K a' w') : o.wp Try.prog a w K Q := by
  simp only [tlB, List.all_cons, List.all_nil, Bool.and_true, Bool.and_eq_true] at hall
  unfold stTl at h
  split at h
  · rename_i ty s v hop
    split at h
    · rename_i r u hs hv
      split at h
      · rename_i hok
        simp only [Bool.and_eq_true, isTerm, beq_iff_eq, bne_iff_ne, ne_eq, Option.isNone_iff_eq_none] at hok
        obtain ⟨⟨⟨⟨rfl, rfl⟩, hne⟩, hdst⟩, htm⟩ := hok
        obtain ⟨ut, hut⟩ := isTm_of htm
        obtain ⟨vs, hs1, g, rfl, hp, hblk⟩ := hf _ _ hs
        obtain ⟨vv, hv1, hv2⟩ := hf _ _ hv
        have hv2' : TmIn w (Fr p) ut vv := (tm_pd hut).1 hv2
        obtain ⟨A, cap, rfl, -⟩ := hv2'.form
        have e1 : a.eval (.tmp r) = .pointer (some ⟨g, 0, none⟩) := by show a.tmps.getD r undef = _; rw [Array.getD_eq_getD_getElem?, hs1]; rfl
        have e2 : a.eval (.tmp v) = VT ut A cap := by show a.tmps.getD v undef = _; rw [Array.getD_eq_getD_getElem?, hv1]; rfl
        obtain ⟨c0, c1, c2, c3⟩ := blk4 hblk
        have f0 := frz hblk
        have hrun : (execOp a.eval o).run Try.prog w = .ok .skip ((((w.setCell ⟨g, 0, none⟩ (.int .i64 ut.kind)).setCell ⟨g, 1, none⟩ (.int .i64 ut.num)).setCell ⟨g, 2, none⟩ (.string ut.name)).setCell ⟨g, 3, none⟩ (.slice A ut.args.length cap)) := by
          generalize a.eval = ev0 at *
          simp [execOp, hop, e1, e2, go_sem, c0, c1, c2, c3, f0]
        unfold Oper.wp
        rw [hrun]
        show K (a.put o.dst undef) _
        rw [hdst]
        exact hk _ _ _ (hx.stored ho hp ((But.refl (· = g) w).set4 (k := g) (.inl rfl) _ _ _ _)) hd hz (settle_ok (v := v) hut hf hs1 hp hblk hv2' h)
      · cases h
    · cases h
  · split at h
    · cases h
    · rename_i t hdst
      split at h
      · cases h
      · rename_i x hx1
        injection h with h
        subst h
        have hrd := absOp_ok (Q := Q) (F := FF σ) hC (fun s y hs => FF.at hs) hx1 a p w (fun s hs => by
          have h1 := List.all_eq_true.1 hall.2 s hs
          have hsz : s < a.tmps.size := by rw [hz]; simpa using h1
          refine ⟨a.tmps[s], Array.getElem?_eq_getElem hsz, ?_⟩
          cases hl : lk σ s with
          | none => unfold FF; rw [hl]; trivial
          | some y =>
            obtain ⟨v, h2, h3⟩ := hf s y hl
            rw [Array.getElem?_eq_getElem hsz] at h2
            injection h2 with h2
            rw [FF.at hl, h2]
            exact h3)
        refine Oper.wp_mono ?_ hrd
        rintro a' w' ⟨v, p', rfl, hx', hv⟩
        have htz : t < z := by have := hall.1; rw [hdst] at this; simpa using this
        rw [hdst]
        exact hk _ _ _ (hx.trans hx') hd (by simp only [Act.put, Array.size_setIfInBounds]; exact hz) (facts_put hz htz hx' hf hv)

theorem wpList_tail {C : FuncId → List Ab → Option Ab} (hC : CallsOk C) {ops : Array Oper} {ds : List (Option Tmp)} (hds : ops.toList.map (·.dst) = ds) {p0 : Nat → Option Nat} {w0 : World} {d : List Deferred} {z : Nat} (ho : Old p0) : ∀ {l : List Oper} {σ σ' : List (Tmp × Ab)} {p : Nat → Option Nat} {w : World} {a : Act}, runTl C ds σ l = some σ' →
    tlB z l = true → Ext p0 w0 p w → a.defers = d → a.tmps.size = z → Facts σ p w a →
    (∀ p' w' a', Ext p0 w0 p' w' → a'.defers = d → a'.tmps.size = z → Facts σ' p' w' a' → Q .normal a' w') → wpList Try.prog ops Q l a w
  | [], σ, σ', p, w, a, h, _, hx, hd, hz, hf, hk => by
    simp only [runTl, Option.some.injEq] at h
    subst h
    exact hk p w a hx hd hz hf
  | o :: l, σ, σ', p, w, a, h, hall, hx, hd, hz, hf, hk => by
    have hall0 : tlB z [o] = true ∧ tlB z l = true := by
      simp only [tlB, List.all_cons, List.all_nil, Bool.and_true, Bool.and_eq_true] at hall ⊢
      exact hall
    unfold runTl at h
    unfold wpList
    cases hg : o.guard with
    | none =>
      rw [hg] at h
      simp only at h
      rw [if_pos (by unfold Region.wanted; simp only [hg])]
      refine .inl ?_
      split at h
      · rename_i σ1 h1
        exact step_tail hC ho h1 hall0.1 hx hd hz hf fun p' w' a' hx' hd' hz' hf' => wpList_tail hC hds ho h hall0.2 hx' hd' hz' hf' hk
      · cases h
    | some gb =>
      obtain ⟨g, b⟩ := gb
      rw [hg] at h
      simp only at h
      split at h
      · cases h
      · rename_i tg htg
        split at h
        · rename_i c hc
          obtain ⟨v, hv1, hv2⟩ := hf tg _ hc
          obtain rfl : v = .bool c := hv2
          have hy : yielded ops a.tmps g = some c := by
            unfold yielded
            rw [← hds, List.getElem?_map, Array.getElem?_toList] at htg
            cases hog : ops[g]? with
            | none => rw [hog] at htg; cases htg
            | some og =>
              rw [hog] at htg
              simp only [Option.map_some, Option.join_some] at htg
              simp [htg, hv1]
          split at h
          · rename_i hcb
            have hcb' : c = b := by simpa using hcb
            rw [if_pos (by unfold Region.wanted; simp only [hg, hy, hcb']; simp)]
            refine .inl ?_
            split at h
            · rename_i σ1 h1
              exact step_tail hC ho h1 hall0.1 hx hd hz hf fun p' w' a' hx' hd' hz' hf' => wpList_tail hC hds ho h hall0.2 hx' hd' hz' hf' hk
            · cases h
          · rename_i hcb
            rw [if_neg (by unfold Region.wanted; simp only [hg, hy]; simpa using hcb)]
            split at h
            · rename_i t hdst
              have htz : t < z := by have := hall0.1; simp only [tlB, List.all_cons, List.all_nil, Bool.and_true, Bool.and_eq_true, hdst, decide_eq_true_eq] at this; exact this.1
              rw [hdst]
              exact wpList_tail hC hds ho h hall0.2 hx hd (by simp only [Act.put, Array.size_setIfInBounds]; exact hz) (facts_put hz htz (Ext.refl _ _) hf trivial) hk
            · rename_i hdst
              rw [hdst]
              exact wpList_tail hC hds ho h hall0.2 hx hd hz hf hk
        · cases h
end

end Go.Proofs.Ytgedgmdbpembiaa
