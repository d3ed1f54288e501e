/-
  Whole bodies without loops, run on what is known of the values. No condition.
-/
import Derived.Test.YtloekfnlidclcaaRk
import Derived.LoopN
import Derived.Scope
namespace Go.Proofs.Ytloekfnlidclcaa
open Go.RowKit
set_option linter.unusedVariables false
variable [Env]

def dstsOf (l : List Oper) : List (Option Tmp) := l.map (·.dst)

/-- The operations ahead of the first store. -/
def freeN : List Oper → Nat
  | [] => 0
  | o :: l => match o.op with
    | .store .. => 0
    | _ => freeN l + 1

/-- A drawn region, order by order. -/
def anySeg (C : FuncId → List Ab → Option Ab) (z : Nat) (σ : List (Tmp × Ab)) (l : List Oper) : Option (List (Tmp × Ab)) := match runTl C (dstsOf l) σ l with
  | some σt => if l.all (fun o => tlB z [o]) && anyOk C (l.map (·.dst)) l.toArray (σt.filter fun e => Ab.same e.2 e.2) l.length (Array.replicate l.length false) σ then some (σt.filter fun e => Ab.same e.2 e.2) else none
  | none => none

/-- A region: drawn or in the text's order. -/
def runSeg (C : FuncId → List Ab → Option Ab) (z : Nat) (σ : List (Tmp × Ab)) (l : List Oper) (d : Bool) : Option (List (Tmp × Ab)) :=
  if d then
    (if rgB l (freeN l) z ((byKey (fun t => (dstsOf l).all (· != some t)) σ).map (·.1)) && tlB z (l.drop (freeN l)) then
      match runAb C (l.map (·.dst)) (byKey (fun t => (dstsOf l).all (· != some t)) σ) (l.take (freeN l)) with
      | some σ1 => runTl C (dstsOf l) σ1 (l.drop (freeN l))
      | none => none
    else anySeg C z σ l)
  else if tlB z l then runTl C (dstsOf l) σ l else none

inductive Res where
  | normal
  | ret
  | exit (id : Nat)

def Res.exit' : Res → Exit
  | .normal => .normal
  | .ret => .ret
  | .exit id => .exit id

/-- Some rounds of a loop. -/
def iterR (f : List (Tmp × Ab) → Option (Res × List (Tmp × Ab))) : Nat → List (Tmp × Ab) → Option (Res × List (Tmp × Ab))
  | 0, _ => none
  | n + 1, σ => match f σ with
    | some (.normal, σ1) => iterR f n σ1
    | r => r

def runCode (C : FuncId → List Ab → Option Ab) (z : Nat) : Code → List (Tmp × Ab) → Option (Res × List (Tmp × Ab))
  | .skip, σ => some (.normal, σ)
  | .region _ ops d, σ => match runSeg C z σ ops.toList d with
    | some σ1 => some (.normal, σ1)
    | none => none
  | .seq x y, σ => match runCode C z x σ with
    | some (.normal, σ1) => runCode C z y σ1
    | r => r
  | .cond c x y, σ => match ev (lk σ) c with
    | some (.val (.bool true)) => runCode C z x σ
    | some (.val (.bool false)) => runCode C z y σ
    | _ => none
  | .block id c, σ => match runCode C z c σ with
    | some (.exit i, σ1) => if i == id then some (.normal, σ1) else some (.exit i, σ1)
    | r => r
  | .exit id, σ => some (.exit id, σ)
  | .ret, σ => some (.ret, σ)
  | .loop c, σ => iterR (runCode C z c) 12 σ
  | .label _, σ => some (.normal, σ)
  | .scope c, σ => runCode C z c σ
  | _, _ => none


section
variable {Q : Exit → Act → World → Prop}

theorem wp_seg {C : FuncId → List Ab → Option Ab} (hC : CallsOk C) {id : Nat} {l : List Oper} {d : Bool} {z : Nat} {σ σ' : List (Tmp × Ab)} (h : runSeg C z σ l d = some σ') {w0 w : World} {p0 p : Nat → Option Nat} {a : Act} {ds : List Deferred}
    (hm : Try.prog.follows .mixedOrders = true) (ho : Old p0) (hx : Ext p0 w0 p w) (hd : a.defers = ds) (hz : a.tmps.size = z) (hf : Facts σ p w a)
    (hk : ∀ p' w' a', Ext p0 w0 p' w' → a'.defers = ds → a'.tmps.size = z → Facts σ' p' w' a' → Q .normal a' w') : (Code.region id l.toArray d).wp Try.prog Q a w := by
  unfold runSeg at h
  cases d with
  | false =>
    rw [if_neg (by simp)] at h
    split at h
    · rename_i htl
      refine wp_region ?_
      have : wpOps Try.prog l.toArray Q (List.range' 0 l.length) = wpList Try.prog l.toArray Q l := wpOps_eq_wpList l 0 (fun j => by simp)
      rw [show List.range l.toArray.size = List.range' 0 l.length by simp [List.range_eq_range'], this]
      exact wpList_tail hC (ds := dstsOf l) (by simp [dstsOf]) ho h htl hx hd hz hf hk
    · cases h
  | true =>
    rw [if_pos rfl] at h
    split at h
    · rename_i hok
      simp only [Bool.and_eq_true] at hok
      obtain ⟨hB, htl⟩ := hok
      split at h
      · rename_i σ1 hr
        refine wp_region_abs hC (freeN l) z _ σ1 hm hB hr (by omega) (fun t x hx => hf t x (lk_byKey hx).2) fun a1 p1 w1 hx1 hd1 hz1 hf1 => ?_
        exact wpList_tail hC (ds := dstsOf l) (by simp [dstsOf]) ho h htl (hx.trans hx1) (hd1.trans hd) (hz1.trans hz) hf1 hk
      · cases h
    · unfold anySeg at h
      split at h
      · rename_i σt hr
        split at h
        · rename_i hok
          injection h with h
          subst h
          simp only [Bool.and_eq_true] at hok
          have hxd : Ext p w p { w with drawn := w.drawn + 1 } := ⟨(But.refl _ _).drew, fun _ _ => rfl⟩
          refine wp_region_any hm (any_ok hC ho (ops := l.toArray) (by simpa using hok.1) hk _ _ σ p _ a (by simpa using hok.2) (hx.trans hxd) hd hz fun t x ht => ?_)
          obtain ⟨v, h1, h2⟩ := hf t x ht
          exact ⟨v, h1, x.kept _ _ _ _ _ hxd h2⟩
        · cases h
      · cases h

theorem eval_of {σ : List (Tmp × Ab)} {p : Nat → Option Nat} {w : World} {a : Act} (hf : Facts σ p w a) {c : Operand} {x : Ab} (h : ev (lk σ) c = some x) : x.pd p w (a.eval c) := by
  cases c with
  | tmp t =>
    obtain ⟨v, h1, h2⟩ := hf t x h
    have : a.eval (.tmp t) = v := by
      show a.tmps.getD t undef = v
      rw [Array.getD_eq_getD_getElem?, h1]; rfl
    rw [this]
    exact h2
  | const v =>
    simp only [ev, Option.some.injEq] at h
    subst h
    rfl
  | global g => simp [ev] at h
  | func f => simp [ev] at h

theorem wp_code {C : FuncId → List Ab → Option Ab} (hC : CallsOk C) {z : Nat} {w0 : World} {p0 : Nat → Option Nat} {ds : List Deferred} (hm : Try.prog.follows .mixedOrders = true) (ho : Old p0) : ∀ (c : Code) {Q : Exit → Act → World → Prop} {σ σ' : List (Tmp × Ab)} {r : Res} {p : Nat → Option Nat} {w : World} {a : Act},
    runCode C z c σ = some (r, σ') → Ext p0 w0 p w → a.defers = ds → a.tmps.size = z → Facts σ p w a →
    (∀ p' w' a', Ext p0 w0 p' w' → a'.defers = ds → a'.tmps.size = z → Facts σ' p' w' a' → Q r.exit' a' w') → c.wp Try.prog Q a w := by
  intro c
  induction c with
  | skip =>
    intro Q σ σ' r p w a h hx hd hz hf hk
    simp only [runCode, Option.some.injEq, Prod.mk.injEq] at h
    obtain ⟨rfl, rfl⟩ := h
    exact wp_skip (hk p w a hx hd hz hf)
  | region id ops d =>
    intro Q σ σ' r p w a h hx hd hz hf hk
    simp only [runCode] at h
    split at h
    · rename_i σ1 h1
      simp only [Option.some.injEq, Prod.mk.injEq] at h
      obtain ⟨rfl, rfl⟩ := h
      have := wp_seg (Q := Q) (id := id) hC h1 hm ho hx hd hz hf hk
      simpa using this
    · cases h
  | seq x y ihx ihy =>
    intro Q σ σ' r p w a h hx hd hz hf hk
    simp only [runCode] at h
    refine wp_seq ?_
    cases h1 : runCode C z x σ with
    | none => rw [h1] at h; cases h
    | some rs =>
      obtain ⟨r1, σ1⟩ := rs
      rw [h1] at h
      refine ihx h1 hx hd hz hf fun p' w' a' hx' hd' hz' hf' => ?_
      cases r1 with
      | normal => exact ihy h hx' hd' hz' hf' hk
      | ret =>
        simp only [Option.some.injEq, Prod.mk.injEq] at h
        obtain ⟨rfl, rfl⟩ := h
        exact hk p' w' a' hx' hd' hz' hf'
      | exit i =>
        simp only [Option.some.injEq, Prod.mk.injEq] at h
        obtain ⟨rfl, rfl⟩ := h
        exact hk p' w' a' hx' hd' hz' hf'
  | cond c x y ihx ihy =>
    intro Q σ σ' r p w a h hx hd hz hf hk
    simp only [runCode] at h
    split at h
    · rename_i hc
      exact wp_cond_true (show a.eval c = .bool true from eval_of hf hc) (ihx h hx hd hz hf hk)
    · rename_i hc
      exact wp_cond_false (show a.eval c = .bool false from eval_of hf hc) (ihy h hx hd hz hf hk)
    · cases h
  | block id c ih =>
    intro Q σ σ' r p w a h hx hd hz hf hk
    simp only [runCode] at h
    refine wp_block ?_
    cases h1 : runCode C z c σ with
    | none => rw [h1] at h; cases h
    | some rs =>
      obtain ⟨r1, σ1⟩ := rs
      rw [h1] at h
      refine ih h1 hx hd hz hf fun p' w' a' hx' hd' hz' hf' => ?_
      cases r1 with
      | normal =>
        simp only [Option.some.injEq, Prod.mk.injEq] at h
        obtain ⟨rfl, rfl⟩ := h
        exact hk p' w' a' hx' hd' hz' hf'
      | ret =>
        simp only [Option.some.injEq, Prod.mk.injEq] at h
        obtain ⟨rfl, rfl⟩ := h
        exact hk p' w' a' hx' hd' hz' hf'
      | exit i =>
        simp only at h
        show Exit.inBlock id Q (.exit i) a' w'
        by_cases hi : i = id
        · rw [if_pos (by simpa using hi)] at h
          simp only [Option.some.injEq, Prod.mk.injEq] at h
          obtain ⟨rfl, rfl⟩ := h
          simp only [Exit.inBlock, if_pos hi]
          exact hk p' w' a' hx' hd' hz' hf'
        · rw [if_neg (by simpa using hi)] at h
          simp only [Option.some.injEq, Prod.mk.injEq] at h
          obtain ⟨rfl, rfl⟩ := h
          simp only [Exit.inBlock, if_neg hi]
          exact hk p' w' a' hx' hd' hz' hf'
  | exit id =>
    intro Q σ σ' r p w a h hx hd hz hf hk
    simp only [runCode, Option.some.injEq, Prod.mk.injEq] at h
    obtain ⟨rfl, rfl⟩ := h
    exact wp_exit (hk p w a hx hd hz hf)
  | ret =>
    intro Q σ σ' r p w a h hx hd hz hf hk
    simp only [runCode, Option.some.injEq, Prod.mk.injEq] at h
    obtain ⟨rfl, rfl⟩ := h
    exact wp_ret (hk p w a hx hd hz hf)
  | label l =>
    intro Q σ σ' r p w a h hx hd hz hf hk
    simp only [runCode, Option.some.injEq, Prod.mk.injEq] at h
    obtain ⟨rfl, rfl⟩ := h
    exact wp_label (hk p w a hx hd hz hf)
  | scope c ih =>
    intro Q σ σ' r p w a h hx hd hz hf hk
    simp only [runCode] at h
    refine wp_scope_straight (ih h hx hd hz hf fun p' w' a' hx' hd' hz' hf' => ?_)
    have := hk p' w' a' hx' hd' hz' hf'
    cases r <;> exact this
  | loop c ih =>
    intro Q σ σ' r p w a h hx hd hz hf hk
    simp only [runCode] at h
    have go : ∀ (n : Nat) {σ : List (Tmp × Ab)} {p : Nat → Option Nat} {w : World} {a : Act}, iterR (runCode C z c) n σ = some (r, σ') → Ext p0 w0 p w → a.defers = ds → a.tmps.size = z → Facts σ p w a → Code.rounds Try.prog c Q n a w := by
      intro n
      induction n with
      | zero => intro σ p w a h; cases h
      | succ n ihn =>
        intro σ p w a h hx hd hz hf
        rw [rounds_succ]
        unfold iterR at h
        cases h1 : runCode C z c σ with
        | none => rw [h1] at h; cases h
        | some rs =>
          obtain ⟨r1, σ1⟩ := rs
          rw [h1] at h
          refine ih h1 hx hd hz hf fun p' w' a' hx' hd' hz' hf' => ?_
          cases r1 with
          | normal => exact ihn h hx' hd' hz' hf'
          | ret =>
            simp only [Option.some.injEq, Prod.mk.injEq] at h
            obtain ⟨rfl, rfl⟩ := h
            exact hk p' w' a' hx' hd' hz' hf'
          | exit i =>
            simp only [Option.some.injEq, Prod.mk.injEq] at h
            obtain ⟨rfl, rfl⟩ := h
            exact hk p' w' a' hx' hd' hz' hf'
    exact wp_loop_rounds 12 (go 12 h hx hd hz hf)
  | _ => intro Q σ σ' r p w a h; simp [runCode] at h
end

theorem Ab.same_free {p p' : Nat → Option Nat} {w : World} (he : ∀ b, b < w.heap.size → p b = none → p' b = none) : ∀ (x : Ab) (v : Value), isNew x = false → x.pd p w v → x.pd p' w v := by
  have hk : KeepsIn (Fr p) (Fr p') w w := fun k o ho hd => ⟨ho, he k (lt_of_heap ho) hd⟩
  intro x
  induction x with
  | any => intro v _ _; trivial
  | val u => intro v _ h; exact h
  | vtok n => intro v _ h; exact h
  | stok n => intro v _ h; exact h
  | itok n =>
    intro v _ ⟨A, cap, e, h1, h2, h3, h⟩
    refine ⟨A, cap, e, h1, h2, h3, fun j hj => ?_⟩
    obtain ⟨b, o, e, hd, hc⟩ := h j hj
    exact ⟨b, o, e, he b (lt_of_cell hc) hd, hc⟩
  | rtok n => intro v _ ⟨A, cap, e, h1, h2, h3, h⟩; exact ⟨A, cap, e, h1, h2, h3, ArgsIn.keeps hk h⟩
  | term t => intro v _ h; exact TmIn.keeps hk _ h
  | tok n => intro v _ h; exact TmIn.keeps hk _ h
  | row l => intro v _ ⟨A, cap, e, h1, h2, h3, h⟩; exact ⟨A, cap, e, h1, h2, h3, ArgsIn.keeps hk h⟩
  | ints l =>
    intro v _ ⟨A, cap, e, h1, h2, h3, h⟩
    refine ⟨A, cap, e, h1, h2, h3, fun j hj => ?_⟩
    obtain ⟨b, o, e, hd, hc⟩ := h j hj
    exact ⟨b, o, e, he b (lt_of_cell hc) hd, hc⟩
  | pair x y ihx ihy =>
    intro v hn ⟨a, b, e, h1, h2⟩
    simp only [isNew, Bool.or_eq_false_iff] at hn
    exact ⟨a, b, e, ihx _ hn.1 h1, ihy _ hn.2 h2⟩
  | tup3 x y z ihx ihy ihz =>
    intro v hn ⟨a, b, c, e, h1, h2, h3⟩
    simp only [isNew, Bool.or_eq_false_iff] at hn
    exact ⟨a, b, c, e, ihx _ hn.1 h1, ihy _ hn.2.1 h2, ihz _ hn.2.2 h3⟩
  | tup4 x y z u ihx ihy ihz ihu =>
    intro v hn ⟨a, b, c, d, e, h1, h2, h3, h4⟩
    simp only [isNew, Bool.or_eq_false_iff] at hn
    exact ⟨a, b, c, d, e, ihx _ hn.1 h1, ihy _ hn.2.1 h2, ihz _ hn.2.2.1 h3, ihu _ hn.2.2.2 h4⟩
  | vcell s x _ => intro v hn; cases hn
  | mfld s n j => intro v hn; cases hn
  | grow s n => intro v hn; cases hn
  | own s n => intro v hn; cases hn
  | toks l => intro v _ ⟨A, cap, e, h1, h2, h3, h⟩; exact ⟨A, cap, e, h1, h2, h3, ArgsIn.keeps hk h⟩
  | intAt n => intro v _ ⟨b, o, e, h0, h1⟩; exact ⟨b, o, e, he b (lt_of_cell h1) h0, h1⟩
  | sat n => intro v _ ⟨b, o, e, h0, h1⟩; exact ⟨b, o, e, he b (lt_of_cell h1) h0, h1⟩
  | srow l => intro v _ ⟨A, cap, e, h1, h2, h⟩; exact ⟨A, cap, e, h1, h2, h.keeps hk⟩
  | iat n => intro v _ ⟨b, o, e, h0, h1⟩; exact ⟨b, o, e, he b (lt_of_cell h1) h0, h1⟩
  | elm n => intro v _ ⟨b, o, A, cap, e, h0, h1, h2, h3, h4, h5⟩; exact ⟨b, o, A, cap, e, he b (lt_of_cell h1) h0, h1, h2, h3, h4, TmIn.keeps hk _ h5⟩
  | fld n j => intro v _ ⟨b, o, A, cap, e, h0, h1, h2, h3, h4, h5⟩; exact ⟨b, o, A, cap, e, he b (lt_of_cell h1) h0, h1, h2, h3, h4, TmIn.keeps hk _ h5⟩
  | termAt t => intro v _ ⟨b, o, A, cap, e, h0, h1, h2, h3, h4, h5⟩; exact ⟨b, o, A, cap, e, he b (lt_of_cell h1) h0, h1, h2, h3, h4, TmIn.keeps hk _ h5⟩

/-- What is known of a function's results. -/
def resOne (σ : List (Tmp × Ab)) : ResultVar → Option Ab
  | .tmp t => match lk σ t with
    | some (.grow _ n) => some (.rtok n)
    | some x => if isNew x then none else some x
    | none => none
  | .cell s t => match lk σ s with
    | some (.vcell _ x) => if isTerm t && !isNew x then some x else none
    | _ => none

def resAb (σ : List (Tmp × Ab)) : List ResultVar → Option Ab
  | [x] => resOne σ x
  | [x, y] => match resOne σ x, resOne σ y with
    | some u, some v => some (.pair u v)
    | _, _ => none
  | [x, y, z] => match resOne σ x, resOne σ y, resOne σ z with
    | some u, some v, some r => some (.tup3 u v r)
    | _, _, _ => none
  | [x, y, z, o] => match resOne σ x, resOne σ y, resOne σ z, resOne σ o with
    | some u, some v, some r, some q => some (.tup4 u v r q)
    | _, _, _, _ => none
  | _ => none

/-- The result at a place. -/
def ResAt (a : Act) (w : World) (v : Value) : ResultVar → Prop
  | .tmp t => a.tmps[t]? = some v
  | .cell s t => ∃ g, a.tmps[s]? = some (.pointer (some g)) ∧ (loadVar t g).run Try.prog w = .ok v w

theorem resOne_ok {σ : List (Tmp × Ab)} {p q : Nat → Option Nat} {w : World} {a : Act} (hf : Facts σ p w a) (hq : ∀ b, b < w.heap.size → p b = none → q b = none) (hq' : ∀ b s, p b = some (s + 1) → q b = none) {r : ResultVar} {x : Ab} (h : resOne σ r = some x) : ∃ v, ResAt a w v r ∧ x.pd q w v := by
  cases r with
  | tmp t =>
    simp only [resOne] at h
    split at h
    · rename_i s n hy
      injection h with h
      subst h
      obtain ⟨v, h1, h2⟩ := hf t _ hy
      exact ⟨v, h1, h2.row fun b hb h => h.elim (hq b hb) (hq' b s)⟩
    · rename_i y _ hy
      split at h
      · cases h
      · rename_i hn
        injection h with h
        subst h
        obtain ⟨v, h1, h2⟩ := hf t _ hy
        exact ⟨v, h1, Ab.same_free hq y v (by simpa using hn) h2⟩
    · cases h
  | cell s t =>
    simp only [resOne] at h
    split at h
    · rename_i s' y hy
      split at h
      · rename_i ht
        simp only [isTerm, Bool.and_eq_true, beq_iff_eq, Bool.not_eq_true'] at ht
        obtain ⟨rfl, hn⟩ := ht
        injection h with h
        subst h
        obtain ⟨v, h1, tt, htt, g, A, cap, rfl, h2, h3, h4⟩ := hf s _ hy
        obtain ⟨c0, c1, c2, c3⟩ := blk4 h3
        exact ⟨VT tt A cap, ⟨_, h1, by simp [go_sem, c0, c1, c2, c3]⟩, Ab.same_free hq _ _ hn h4⟩
      · cases h
    · cases h

/-- How one result is read. -/
def resF (tmps : Array Value) : ResultVar → Sem Value
  | .tmp t => pure (tmps.getD t undef)
  | .cell a t => do loadVar t (← asAddr (tmps.getD a undef))

omit [Env] in
theorem results_resF (fn : Func) (tmps : Array Value) : results fn tmps = (do let vs ← fn.results.mapM (resF tmps); pure (if h : vs.size = 1 then vs[0] else .tuple vs)) := by
  unfold results
  congr 1

omit [Env] in
theorem resF_ok {a : Act} {w : World} {v : Value} {r : ResultVar} (h : ResAt a w v r) : (resF a.tmps r).run Try.prog w = .ok v w := by
  cases r with
  | tmp t => simp [resF, show a.tmps[t]? = some v from h]
  | cell s t =>
    obtain ⟨g, h3, h4⟩ := h
    simp [resF, h3, asAddr, h4]

theorem resAb_ok {fn : Func} {σ : List (Tmp × Ab)} {p q : Nat → Option Nat} {w : World} {a : Act} (hf : Facts σ p w a) (hq : ∀ b, b < w.heap.size → p b = none → q b = none) (hq' : ∀ b s, p b = some (s + 1) → q b = none) {x : Ab} (h : resAb σ fn.results.toList = some x) :
    ∃ v, (results fn a.tmps).run Try.prog w = .ok v w ∧ x.pd q w v := by
  obtain ⟨l, hl⟩ : ∃ l, fn.results = ⟨l⟩ := ⟨fn.results.toList, rfl⟩
  rw [hl] at h
  unfold resAb at h
  split at h
  · rename_i r hr
    obtain rfl : l = [r] := hr
    obtain ⟨v, h1, h2⟩ := resOne_ok hf hq hq' h
    refine ⟨v, ?_, h2⟩
    unfold results
    rw [hl]
    cases r with
    | tmp t => simp [show a.tmps[t]? = some v from h1]
    | cell s t =>
      obtain ⟨g, h3, h4⟩ := h1
      simp [h3, asAddr, h4]
  · rename_i r r' hr
    obtain rfl : l = [r, r'] := hr
    split at h
    · rename_i u v hu hv
      injection h with h
      subst h
      obtain ⟨v1, h1, h2⟩ := resOne_ok hf hq hq' hu
      obtain ⟨v2, h3, h4⟩ := resOne_ok hf hq hq' hv
      refine ⟨.tuple #[v1, v2], ?_, v1, v2, rfl, h2, h4⟩
      unfold results
      rw [hl]
      cases r with
      | tmp t =>
        have h1' : a.tmps[t]? = some v1 := h1
        cases r' with
        | tmp t' => simp [h1', show a.tmps[t']? = some v2 from h3]
        | cell s t' =>
          obtain ⟨g, h5, h6⟩ := h3
          simp [h1', h5, asAddr, h6]
      | cell s t =>
        obtain ⟨g, h1', h1''⟩ := h1
        cases r' with
        | tmp t' => simp [h1', asAddr, h1'', show a.tmps[t']? = some v2 from h3]
        | cell s' t' =>
          obtain ⟨g', h5, h6⟩ := h3
          simp [h1', asAddr, h1'', h5, h6]
    · cases h
  · rename_i r1 r2 r3 hr
    obtain rfl : l = [r1, r2, r3] := hr
    split at h
    · rename_i u1 u2 u3 hu1 hu2 hu3
      injection h with h
      subst h
      obtain ⟨v1, h1, g1⟩ := resOne_ok hf hq hq' hu1
      obtain ⟨v2, h2, g2⟩ := resOne_ok hf hq hq' hu2
      obtain ⟨v3, h3, g3⟩ := resOne_ok hf hq hq' hu3
      refine ⟨.tuple #[v1, v2, v3], ?_, v1, v2, v3, rfl, g1, g2, g3⟩
      rw [results_resF, hl]
      simp [resF_ok h1, resF_ok h2, resF_ok h3]
    · cases h
  · rename_i r1 r2 r3 r4 hr
    obtain rfl : l = [r1, r2, r3, r4] := hr
    split at h
    · rename_i u1 u2 u3 u4 hu1 hu2 hu3 hu4
      injection h with h
      subst h
      obtain ⟨v1, h1, g1⟩ := resOne_ok hf hq hq' hu1
      obtain ⟨v2, h2, g2⟩ := resOne_ok hf hq hq' hu2
      obtain ⟨v3, h3, g3⟩ := resOne_ok hf hq hq' hu3
      obtain ⟨v4, h4, g4⟩ := resOne_ok hf hq hq' hu4
      refine ⟨.tuple #[v1, v2, v3, v4], ?_, v1, v2, v3, v4, rfl, g1, g2, g3, g4⟩
      rw [results_resF, hl]
      simp [resF_ok h1, resF_ok h2, resF_ok h3, resF_ok h4]
    · cases h
  · cases h

/-- The pins of a caller, as the callee sees them. -/
def older (p : Nat → Option Nat) : Nat → Option Nat := fun b => match p b with
  | some _ => some 0
  | none => none

/-- The pins behind a call. -/
def behind (p : Nat → Option Nat) (w : World) (p1 : Nat → Option Nat) : Nat → Option Nat := fun b => if b < w.heap.size then p b else p1 b

def idxd (k : Nat) : List Ab → List (Tmp × Ab)
  | [] => []
  | x :: l => (k, x) :: idxd (k + 1) l

theorem idxd_ok {p : Nat → Option Nat} {w : World} : ∀ {xs : List Ab} {vs : List Value} {k : Nat}, Args p w xs vs → ∀ (t : Nat) x, lk (idxd k xs) t = some x → k ≤ t ∧ ∃ v, vs[t - k]? = some v ∧ x.pd p w v
  | [], vs, k, _, t, x, h => by cases h
  | y :: xs, [], k, ha, t, x, h => ha.elim
  | y :: xs, v :: vs, k, ha, t, x, h => by
    unfold idxd lk at h
    by_cases hkt : k = t
    · subst hkt
      rw [if_pos (by simp)] at h
      injection h with h
      subst h
      exact ⟨Nat.le_refl _, v, by simp, ha.1⟩
    · rw [if_neg (by simpa using hkt)] at h
      obtain ⟨h1, u, h2, h3⟩ := idxd_ok ha.2 t x h
      refine ⟨by omega, u, ?_, h3⟩
      rw [show t - k = (t - (k + 1)) + 1 by omega, List.getElem?_cons_succ]
      exact h2

theorem Args.free {p p' : Nat → Option Nat} {w : World} (he : ∀ b, b < w.heap.size → p b = none → p' b = none) : ∀ {xs : List Ab} {vs : List Value}, xs.all (fun x => !isNew x) = true → Args p w xs vs → Args p' w xs vs
  | [], [], _, _ => trivial
  | x :: xs, v :: vs, hn, h => by
    simp only [List.all_cons, Bool.and_eq_true, Bool.not_eq_true'] at hn
    exact ⟨Ab.same_free he x v hn.1 h.1, Args.free he hn.2 h.2⟩
  | [], _ :: _, _, h => h.elim
  | _ :: _, [], _, h => h.elim

/-- One call: the function, what is known of the arguments, what is known of the result. -/
structure Entry (f : FuncId) (l : List Ab) (x : Ab) : Prop where
  enter : ∀ args w, (callFunc f args).run Try.prog w = .ok (.enter f args) w
  call : ∀ p w vs, Args p w l vs → Calls Try.prog f vs.toArray w fun e w' => ∃ v p', e = .returned v ∧ Ext p w p' w' ∧ x.pd p' w' v

omit [Env] in
theorem free_pins {p p' : Nat → Option Nat} {w w' : World} (hx : Ext (older p) w p' w') : ∀ b, b < w'.heap.size → p' b = none → behind p w (fun _ => none) b = none := fun b _ hb => by
  unfold behind
  split
  · rename_i hbw
    have := hx.pin b hbw
    rw [hb] at this
    unfold older at this
    split at this
    · cases this
    · assumption
  · rfl

omit [Env] in
theorem own_pins {p p' : Nat → Option Nat} {w w' : World} (hx : Ext (older p) w p' w') : ∀ b s, p' b = some (s + 1) → behind p w (fun _ => none) b = none := fun b s hb => by
  unfold behind
  split
  · rename_i hbw
    have := hx.pin b hbw
    rw [hb] at this
    unfold older at this
    split at this <;> simp at this
  · rfl

def outOf (rs : List ResultVar) : Option (Res × List (Tmp × Ab)) → Option Ab
  | some (.ret, σ) => resAb σ rs
  | some (.normal, σ) => resAb σ rs
  | _ => none

/-- A function without loops, run on what is known of its arguments. -/
theorem entry_code {C : FuncId → List Ab → Option Ab} (hC : CallsOk C) {f : FuncId} {fn : Func} {c : Code} {x : Ab} (xs : List Ab) (hf : Try.prog.funcs[f]? = some fn) (hb : fn.body = some c) (hen : ∀ args w, (callFunc f args).run Try.prog w = .ok (.enter f args) w)
    (hm : Try.prog.follows .mixedOrders = true) (hr : outOf fn.results.toList (runCode C fn.ntmps c (idxd 0 xs)) = some x) (hn : (xs.all fun x => !isNew x) = true) (hx : isNew x = false) (hsz : xs.length ≤ fn.ntmps) : Entry f xs x := by
  refine ⟨hen, fun p w vs hv => calls_of_wp hf hb ?_⟩
  have hl : vs.length = xs.length := by
    clear hr hn hsz
    induction xs generalizing vs with
    | nil => cases vs with
      | nil => rfl
      | cons _ _ => exact hv.elim
    | cons y ys ih => cases vs with
      | nil => exact hv.elim
      | cons u us => simp [ih us hv.2]
  have ho : Old (older p) := fun b => by unfold older; split <;> simp
  have hv' : Args (older p) w xs vs := Args.free (fun b _ h => by unfold older; rw [h]) hn hv
  unfold outOf at hr
  have fin : ∀ (r : Res) σ', r.exit' = .ret ∨ r.exit' = .normal → runCode C fn.ntmps c (idxd 0 xs) = some (r, σ') → resAb σ' fn.results.toList = some x →
      c.wp Try.prog (bodyPost Try.prog fn fun e w' => ∃ v p', e = .returned v ∧ Ext p w p' w' ∧ x.pd p' w' v) { tmps := vs.toArray ++ Array.replicate (fn.ntmps - vs.toArray.size) undef, defers := [] } w := fun r σ' he h1 h2 => by
    refine wp_code hC hm ho c h1 (Ext.refl _ _) rfl (by simp; omega) (fun t y hy => ?_) fun p' w' a' hx' hd hz hfa => ?_
    · obtain ⟨_, u, h3, h4⟩ := idxd_ok hv' t y hy
      refine ⟨u, ?_, h4⟩
      rw [Nat.sub_zero] at h3
      have hlt : t < vs.toArray.size := by simpa using (List.getElem?_eq_some_iff.1 h3).1
      show (vs.toArray ++ _)[t]? = _
      rw [Array.getElem?_append_left hlt]
      simpa using h3
    · obtain ⟨v, h3, h4⟩ := resAb_ok (q := behind p w fun _ => none) hfa (free_pins hx') (own_pins hx') h2
      have hpost : a'.defers = [] ∧ ∃ v, (results fn a'.tmps).run Try.prog w' = .ok v w' ∧ ∃ v' p', (Ending.returned v) = .returned v' ∧ Ext p w p' w' ∧ x.pd p' w' v' :=
        ⟨hd, v, h3, v, behind p w fun _ => none, rfl, ⟨hx'.but, fun b hb => by simp [behind, hb]⟩, h4⟩
      rcases he with he | he <;> rw [he] <;> exact hpost
  split at hr
  · rename_i σ' h1; exact fin .ret σ' (.inl rfl) h1 hr
  · rename_i σ' h1; exact fin .normal σ' (.inr rfl) h1 hr
  · cases hr

/-- What is known, for the walks by hand. -/
theorem Entry.val {f : FuncId} {l : List Ab} {v : Value} (h : Entry f l (.val v)) {w : World} {vs : List Value} (ha : Args (fun _ => none) w l vs) : Calls Try.prog f vs.toArray w fun e w' => e = .returned v ∧ But Nil w w' :=
  (h.call _ w vs ha).mono fun e w' ⟨u, p', he, hx, hu⟩ => ⟨by rw [he, show u = v from hu], hx.but⟩

end Go.Proofs.Ytloekfnlidclcaa

