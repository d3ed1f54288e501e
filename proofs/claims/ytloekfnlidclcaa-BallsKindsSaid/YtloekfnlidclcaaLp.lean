/-
  Loops whose rounds are known: runs from what is known to what is known, put together by hand. No condition.
-/
import Derived.Test.YtloekfnlidclcaaTb
import Derived.LoopN
namespace Go.Proofs.Ytloekfnlidclcaa
open Go.RowKit
set_option linter.unusedVariables false

/-- A run from what is known to what is known. -/
def LRunD (z : Nat) (c : Code) (E : Env) (σ : List (Tmp × Ab)) (r : Res) (E' : Env) (σ' : List (Tmp × Ab)) : Prop :=
  ∀ {p0 : Nat → Option Nat} {w0 : World} {ds : List Deferred} {Q : Exit → Act → World → Prop} {p : Nat → Option Nat} {w : World} {a : Act}, Old p0 → Ext p0 w0 p w → a.defers = ds → a.tmps.size = z → @Facts E σ p w a →
    (∀ p' w' a', Ext p0 w0 p' w' → a'.defers = ds → a'.tmps.size = z → @Facts E' σ' p' w' a' → Q r.exit' a' w') → c.wp Try.prog Q a w

structure LRun (z : Nat) (c : Code) (E : Env) (σ : List (Tmp × Ab)) (r : Res) (E' : Env) (σ' : List (Tmp × Ab)) : Prop where
  mk' ::
  go : LRunD z c E σ r E' σ'

def Res.beq : Res → Res → Bool
  | .normal, .normal => true
  | .ret, .ret => true
  | .exit a, .exit b => a == b
  | _, _ => false

theorem Res.beq_ok {a b : Res} (h : Res.beq a b = true) : a = b := by
  unfold Res.beq at h
  split at h <;> simp_all

def runTo [Env] (C : FuncId → List Ab → Option Ab) (z : Nat) (c : Code) (σ : List (Tmp × Ab)) (r : Res) (l : List (Tmp × Ab)) : Bool := match runCode C z c σ with
  | some (r', σ') => Res.beq r' r && wants σ' l
  | none => false

theorem LRun.one {E : Env} {C : FuncId → List Ab → Option Ab} (hC : CallsOk C) {z : Nat} {c : Code} {σ σ' : List (Tmp × Ab)} {r : Res} (h : runCode C z c σ = some (r, σ')) : LRun z c E σ r E σ' :=
  ⟨fun ho hx hd hz hf hk => wp_code hC mixed_ok ho c h hx hd hz hf hk⟩

theorem LRun.code {E : Env} {C : FuncId → List Ab → Option Ab} (hC : CallsOk C) {z : Nat} {c : Code} {σ : List (Tmp × Ab)} {r : Res} (l : List (Tmp × Ab)) (h : runTo C z c σ r l = true) : LRun z c E σ r E l := by
  unfold runTo at h
  split at h
  · rename_i r' σ' hr
    simp only [Bool.and_eq_true] at h
    obtain rfl := Res.beq_ok h.1
    refine ⟨?_⟩
    intro p0 w0 ds Q p w a ho hx hd hz hf hk
    exact wp_code hC mixed_ok ho c hr hx hd hz hf fun p' w' a' h1 h2 h3 h4 => hk p' w' a' h1 h2 h3 fun t x ht => h4 t x (wants_ok h.2 t x ht)
  · cases h

theorem LRun.seq {E E1 E2 : Env} {z : Nat} {x y : Code} {σ σ1 σ2 : List (Tmp × Ab)} {r : Res} (h1 : LRun z x E σ .normal E1 σ1) (h2 : LRun z y E1 σ1 r E2 σ2) : LRun z (x.seq y) E σ r E2 σ2 := by
  refine ⟨?_⟩
  intro p0 w0 ds Q p w a ho hx hd hz hf hk
  exact wp_seq (h1.go ho hx hd hz hf fun p' w' a' hx' hd' hz' hf' => h2.go ho hx' hd' hz' hf' hk)

theorem LRun.out {E E1 : Env} {z : Nat} {x y : Code} {σ σ1 : List (Tmp × Ab)} {r : Res} (h1 : LRun z x E σ r E1 σ1) (hr : r ≠ .normal) : LRun z (x.seq y) E σ r E1 σ1 := by
  refine ⟨?_⟩
  intro p0 w0 ds Q p w a ho hx hd hz hf hk
  refine wp_seq (h1.go ho hx hd hz hf fun p' w' a' hx' hd' hz' hf' => ?_)
  have := hk p' w' a' hx' hd' hz' hf'
  cases r with
  | normal => exact absurd rfl hr
  | ret => exact this
  | exit i => exact this

theorem LRun.block {E E1 : Env} {z : Nat} {x : Code} {id : Nat} {σ σ1 : List (Tmp × Ab)} (h1 : LRun z x E σ (.exit id) E1 σ1) : LRun z (.block id x) E σ .normal E1 σ1 := by
  refine ⟨?_⟩
  intro p0 w0 ds Q p w a ho hx hd hz hf hk
  refine wp_block (h1.go ho hx hd hz hf fun p' w' a' hx' hd' hz' hf' => ?_)
  show Exit.inBlock id Q (.exit id) a' w'
  simp only [Exit.inBlock, if_true]
  exact hk p' w' a' hx' hd' hz' hf'

theorem LRun.block_ret {E E1 : Env} {z : Nat} {x : Code} {id : Nat} {σ σ1 : List (Tmp × Ab)} (h1 : LRun z x E σ .ret E1 σ1) : LRun z (.block id x) E σ .ret E1 σ1 := by
  refine ⟨?_⟩
  intro p0 w0 ds Q p w a ho hx hd hz hf hk
  exact wp_block (h1.go ho hx hd hz hf hk)

theorem LRun.loop {z : Nat} {c : Code} (E : Nat → Env) (σ : Nat → List (Tmp × Ab)) (n : Nat) {r : Res} {E' : Env} {σ' : List (Tmp × Ab)} (hstep : ∀ j, j < n → LRun z c (E j) (σ j) .normal (E (j + 1)) (σ (j + 1))) (hlast : LRun z c (E n) (σ n) r E' σ') (hr : r ≠ .normal) : LRun z c.loop (E 0) (σ 0) r E' σ' := by
  have go : ∀ m j, j + m = n → ∀ {p0 : Nat → Option Nat} {w0 : World} {ds : List Deferred} {Q : Exit → Act → World → Prop} {p : Nat → Option Nat} {w : World} {a : Act}, Old p0 → Ext p0 w0 p w → a.defers = ds → a.tmps.size = z → @Facts (E j) (σ j) p w a →
      (∀ p' w' a', Ext p0 w0 p' w' → a'.defers = ds → a'.tmps.size = z → @Facts E' σ' p' w' a' → Q r.exit' a' w') → Code.rounds Try.prog c Q (m + 1) a w := by
    intro m
    induction m with
    | zero =>
      intro j hj p0 w0 ds Q p w a ho hx hd hz hf hk
      obtain rfl : j = n := by omega
      rw [rounds_succ]
      refine hlast.go ho hx hd hz hf fun p' w' a' hx' hd' hz' hf' => ?_
      have := hk p' w' a' hx' hd' hz' hf'
      cases r with
      | normal => exact absurd rfl hr
      | ret => exact this
      | exit i => exact this
    | succ m ih =>
      intro j hj p0 w0 ds Q p w a ho hx hd hz hf hk
      rw [rounds_succ]
      refine (hstep j (by omega)).go ho hx hd hz hf fun p' w' a' hx' hd' hz' hf' => ?_
      exact ih (j + 1) (by omega) ho hx' hd' hz' hf' hk
  refine ⟨?_⟩
  intro p0 w0 ds Q p w a ho hx hd hz hf hk
  exact wp_loop_rounds (n + 1) (go n 0 (by omega) ho hx hd hz hf hk)

/-- What is known, said in another way. -/
def SubL (E : Env) (σ : List (Tmp × Ab)) (E' : Env) : List (Tmp × Ab) → Prop
  | [] => True
  | (t, y) :: l => (∃ x, lk σ t = some x ∧ ∀ p w v, @Ab.pd E x p w v → @Ab.pd E' y p w v) ∧ SubL E σ E' l

theorem idd {P : Pd} : ∀ p w v, P p w v → P p w v := fun _ _ _ h => h
theorem ide {P P' : Pd} (h : P = P') : ∀ p w v, P p w v → P' p w v := fun _ _ _ h' => h ▸ h'

theorem SubL.facts {E E' : Env} {σ : List (Tmp × Ab)} {p : Nat → Option Nat} {w : World} {a : Act} (hf : @Facts E σ p w a) : ∀ {l : List (Tmp × Ab)}, SubL E σ E' l → @Facts E' l p w a
  | [], _ => fun t x h => by cases h
  | (s, y) :: l, hs => fun t x h => by
    unfold lk at h
    split at h
    · rename_i hst
      simp only [beq_iff_eq] at hst
      subst hst
      injection h with h
      subst h
      obtain ⟨x, h1, h2⟩ := hs.1
      obtain ⟨v, h3, h4⟩ := hf _ _ h1
      exact ⟨v, h3, h2 _ _ _ h4⟩
    · exact SubL.facts hf hs.2 t x h

theorem LRun.post {E E1 E2 : Env} {z : Nat} {c : Code} {σ σ1 σ2 : List (Tmp × Ab)} {r : Res} (h : LRun z c E σ r E1 σ1) (hs : SubL E1 σ1 E2 σ2) : LRun z c E σ r E2 σ2 := by
  refine ⟨?_⟩
  intro p0 w0 ds Q p w a ho hx hd hz hf hk
  exact h.go ho hx hd hz hf fun p' w' a' h1 h2 h3 h4 => hk p' w' a' h1 h2 h3 (SubL.facts h4 hs)

theorem LRun.pre {E E1 E2 : Env} {z : Nat} {c : Code} {σ σ1 σ2 : List (Tmp × Ab)} {r : Res} (hs : SubL E σ E1 σ1) (h : LRun z c E1 σ1 r E2 σ2) : LRun z c E σ r E2 σ2 := by
  refine ⟨?_⟩
  intro p0 w0 ds Q p w a ho hx hd hz hf hk
  exact h.go ho hx hd hz (SubL.facts hf hs) hk

/-- Several parts in a row, then the rest. -/
def runs [Env] (C : FuncId → List Ab → Option Ab) (z : Nat) : List Code → List (Tmp × Ab) → List (Tmp × Ab) → Bool
  | [], σ, l => wants σ l
  | c :: cs, σ, l => match runCode C z c σ with
    | some (.normal, σ') => runs C z cs σ' l
    | _ => false

def inRow : List Code → Code → Code
  | [], k => k
  | c :: cs, k => c.seq (inRow cs k)

theorem LRun.seqs {E' E : Env} {C : FuncId → List Ab → Option Ab} (hC : CallsOk C) {z : Nat} {r : Res} {k : Code} (l : List (Tmp × Ab)) {σ' : List (Tmp × Ab)} : ∀ (cs : List Code) {σ : List (Tmp × Ab)} (h : runs C z cs σ l = true) (hk : LRun z k E l r E' σ'), LRun z (inRow cs k) E σ r E' σ'
  | [], σ, h, hk => ⟨fun ho hx hd hz hf hk' => hk.go ho hx hd hz (fun t x ht => hf t x (wants_ok h t x ht)) hk'⟩
  | c :: cs, σ, h, hk => ⟨fun ho hx hd hz hf hk' => by
    unfold runs at h
    split at h
    · rename_i σ1 h1
      exact wp_seq ((LRun.one hC h1).go ho hx hd hz hf fun p' w' a' hx' hd' hz' hf' => (LRun.seqs hC l cs h hk).go ho hx' hd' hz' hf' hk')
    · cases h⟩

theorem LRun.any {E : Env} {C : FuncId → List Ab → Option Ab} (hC : CallsOk C) {z id : Nat} {ops : Array Oper} {σ : List (Tmp × Ab)} (l : List (Tmp × Ab)) (h : (ops.toList.all (fun o => tlB z [o]) && anyOk C (ops.toList.map (·.dst)) ops l ops.size (Array.replicate ops.size false) σ) = true) : LRun z (.region id ops true) E σ .normal E l := by
  refine ⟨?_⟩
  intro p0 w0 ds Q p w a ho hx hd hz hf hk
  simp only [Bool.and_eq_true] at h
  have hxd : Ext p w p { w with drawn := w.drawn + 1 } := ⟨(But.refl _ _).drew, fun _ _ => rfl⟩
  refine wp_region_any mixed_ok (any_ok hC ho h.1 hk _ _ σ p _ a h.2 (hx.trans hxd) hd hz fun t x ht => ?_)
  obtain ⟨v, h1, h2⟩ := hf t x ht
  exact ⟨v, h1, x.kept _ _ _ _ _ hxd h2⟩

/-- A function, from the run of its body. -/
theorem entry_runs {E : Env} {f : FuncId} {fn : Func} {c : Code} {x : Ab} (xs : List Ab) {r : Res} {σ' : List (Tmp × Ab)} (hf : Try.prog.funcs[f]? = some fn) (hb : fn.body = some c) (hen : ∀ args w, (callFunc f args).run Try.prog w = .ok (.enter f args) w)
    (hr : LRun fn.ntmps c E (idxd 0 xs) r E σ') (hre : r.exit' = .ret ∨ r.exit' = .normal) (hres : resAb σ' fn.results.toList = some x) (hn : (xs.all fun x => !isNew x) = true) (hx : isNew x = false) (hsz : xs.length ≤ fn.ntmps) : @Entry E f xs x := by
  refine @Entry.mk E _ _ _ hen fun p w vs hv => calls_of_wp hf hb ?_
  have hl : vs.length = xs.length := by
    clear hr hn hsz
    induction xs generalizing vs with
    | nil => cases vs with
      | nil => rfl
      | cons _ _ => exact hv.elim
    | cons y ys ih => cases vs with
      | nil => exact hv.elim
      | cons u us => simp [ih us hv.2]
  have ho : Old (older p) := fun b => by unfold older; split <;> simp
  have hv' : @Args E (older p) w xs vs := @Args.free E _ _ _ (fun b _ h => by unfold older; rw [h]) _ _ hn hv
  refine hr.go ho (Ext.refl _ _) rfl (by simp; omega) (fun t y hy => ?_) fun p' w' a' hx' hd hz hfa => ?_
  · obtain ⟨_, u, h3, h4⟩ := idxd_ok hv' t y hy
    refine ⟨u, ?_, h4⟩
    rw [Nat.sub_zero] at h3
    have hlt : t < vs.toArray.size := by simpa using (List.getElem?_eq_some_iff.1 h3).1
    show (vs.toArray ++ _)[t]? = _
    rw [Array.getElem?_append_left hlt]
    simpa using h3
  · obtain ⟨v, h3, h4⟩ := resAb_ok (q := behind p w fun _ => none) hfa (free_pins hx') (own_pins hx') hres
    have hpost : a'.defers = [] ∧ ∃ v, (results fn a'.tmps).run Try.prog w' = .ok v w' ∧ ∃ v' p', (Ending.returned v) = .returned v' ∧ Ext p w p' w' ∧ @Ab.pd E x p' w' v' :=
      ⟨hd, v, h3, v, behind p w fun _ => none, rfl, ⟨hx'.but, fun b hb => by simp [behind, hb]⟩, h4⟩
    rcases hre with he | he <;> rw [he] <;> exact hpost

/-- More facts on the same things. -/
abbrev Env.with (E : Env) (F : List Fact) (ok : AllHold E.T E.I E.L E.R E.S F) : Env := { T := E.T, I := E.I, L := E.L, R := E.R, S := E.S, F := F, ok := ok }

theorem tm_with (E : Env) {F : List Fact} (ok : AllHold E.T E.I E.L E.R E.S F) (x : Ab) : @tmAny (E.with F ok) x = @tmAny E x := by cases x <;> rfl

theorem pd_with (E : Env) {F : List Fact} (ok : AllHold E.T E.I E.L E.R E.S F) (x : Ab) : @Ab.pd (E.with F ok) x = @Ab.pd E x := by
  induction x with
  | pair x y hx hy => unfold Ab.pd; rw [hx, hy]
  | tup3 x y z hx hy hz => unfold Ab.pd; rw [hx, hy, hz]
  | tup4 x y z u hx hy hz hu => unfold Ab.pd; rw [hx, hy, hz, hu]
  | vcell s x hx => unfold Ab.pd; rw [tm_with, hx]
  | _ => rfl

theorem args_with (E : Env) {F : List Fact} (ok : AllHold E.T E.I E.L E.R E.S F) {p : Nat → Option Nat} {w : World} : ∀ {l : List Ab} {vs : List Value}, @Args (E.with F ok) p w l vs → @Args E p w l vs
  | [], [], _ => trivial
  | x :: l, v :: vs, h => ⟨pd_with E ok x ▸ h.1, args_with E ok h.2⟩
  | [], _ :: _, h => h.elim
  | _ :: _, [], h => h.elim

theorem calls_with (E : Env) {F : List Fact} (ok : AllHold E.T E.I E.L E.R E.S F) {C : FuncId → List Ab → Option Ab} (h : @CallsOk E C) : @CallsOk (E.with F ok) C := fun f l x hx =>
  ⟨(h f l x hx).1, fun p w vs hv => ((h f l x hx).2 p w vs (args_with E ok hv)).mono fun e w' ⟨v, p', he, hxx, hp⟩ => ⟨v, p', he, hxx, (pd_with E ok x).symm ▸ hp⟩⟩

theorem facts_with (E : Env) {F : List Fact} (ok : AllHold E.T E.I E.L E.R E.S F) {σ : List (Tmp × Ab)} {p : Nat → Option Nat} {w : World} {a : Act} : @Facts (E.with F ok) σ p w a ↔ @Facts E σ p w a :=
  ⟨fun h t x hx => let ⟨v, h1, h2⟩ := h t x hx; ⟨v, h1, pd_with E ok x ▸ h2⟩, fun h t x hx => let ⟨v, h1, h2⟩ := h t x hx; ⟨v, h1, (pd_with E ok x).symm ▸ h2⟩⟩

theorem entry_eq {E : Env} {f : FuncId} {l : List Ab} {x y : Ab} (h : @Entry E f l x) (he : @Ab.pd E x = @Ab.pd E y) : @Entry E f l y :=
  ⟨h.enter, fun p w vs hv => (h.call p w vs hv).mono fun e w' ⟨v, p', h1, h2, h3⟩ => ⟨v, p', h1, h2, he ▸ h3⟩⟩

theorem entry_imp {E : Env} {f : FuncId} {l : List Ab} {x y : Ab} (h : @Entry E f l x) (he : ∀ p w v, @Ab.pd E x p w v → @Ab.pd E y p w v) : @Entry E f l y :=
  ⟨h.enter, fun p w vs hv => (h.call p w vs hv).mono fun e w' ⟨v, p', h1, h2, h3⟩ => ⟨v, p', h1, h2, he _ _ _ h3⟩⟩

/-- What is known of the arguments, said in another way. -/
def ImpL (E : Env) : List Ab → Env → List Ab → Prop
  | [], _, [] => True
  | x :: l, E', y :: m => (∀ p w v, @Ab.pd E x p w v → @Ab.pd E' y p w v) ∧ ImpL E l E' m
  | _, _, _ => False

theorem ImpL.args {E E' : Env} {p : Nat → Option Nat} {w : World} : ∀ {l m : List Ab} {vs : List Value}, ImpL E l E' m → @Args E p w l vs → @Args E' p w m vs
  | [], [], [], _, _ => trivial
  | x :: l, y :: m, v :: vs, hi, h => ⟨hi.1 _ _ _ h.1, ImpL.args hi.2 h.2⟩
  | [], _ :: _, _, hi, _ => hi.elim
  | _ :: _, [], _, hi, _ => hi.elim
  | [], [], _ :: _, _, h => h.elim
  | _ :: _, _ :: _, [], _, h => h.elim

/-- A contract under other numbers. -/
theorem entry_move {E E' : Env} {f : FuncId} {xs xs' : List Ab} {x x' : Ab} (h : @Entry E f xs x) (ha : ImpL E' xs' E xs) (hx : ∀ p w v, @Ab.pd E x p w v → @Ab.pd E' x' p w v) : @Entry E' f xs' x' :=
  @Entry.mk E' f xs' x' (@Entry.enter E f xs x h) fun p w vs hv => (@Entry.call E f xs x h p w vs (ha.args hv)).mono fun e w' ⟨v, p', h1, h2, h3⟩ => ⟨v, p', h1, h2, hx _ _ _ h3⟩

/-- A row of terms. -/
def RowAt (l : List Tm) (p : Nat → Option Nat) (w : World) (v : Value) : Prop := ∃ A cap, v = .slice A l.length cap ∧ l.length ≤ cap ∧ l.length ≤ 140737488351232 ∧ cap ≤ maxLen ∧ ArgsIn w (Fr p) l A 0

theorem grow_eq {E E' : Env} {s : Tmp} {a b : Nat} (h : E.R a = E'.R b) : @Ab.pd E (.grow s a) = @Ab.pd E' (.grow s b) := by
  show GrowAt s (E.R a) = GrowAt s (E'.R b)
  rw [h]
theorem tok_eq {E E' : Env} {a b : Nat} (h : E.T a = E'.T b) : @Ab.pd E (.tok a) = @Ab.pd E' (.tok b) := by
  show (fun p w v => TmIn w (Fr p) (E.T a) v) = fun p w v => TmIn w (Fr p) (E'.T b) v
  rw [h]
theorem vcell_eq {E E' : Env} {s : Tmp} {a b : Nat} (h : E.T a = E'.T b) : @Ab.pd E (.vcell s (.tok a)) = @Ab.pd E' (.vcell s (.tok b)) := by
  have h2 := tok_eq (E := E) (E' := E') h
  unfold Ab.pd
  rw [h2]
  simp only [tmAny, h]
theorem nil_grow {E E' : Env} {s : Tmp} {a : Nat} (h : E'.R a = []) : ∀ p w v, @Ab.pd E (.val (.slice none 0 0)) p w v → @Ab.pd E' (.grow s a) p w v := fun p w v hv => by
  obtain rfl : v = .slice none 0 0 := hv
  show GrowAt s (E'.R a) p w _
  rw [h]
  refine ⟨[], World.ownsRow_nil _ _ _ _, ?_, ?_, ?_⟩
  · intro g hg; cases hg
  · simp
  · intro i hi; simp at hi
theorem nil_row {E E' : Env} {a : Nat} (h : E'.R a = []) : ∀ p w v, @Ab.pd E (.val (.slice none 0 0)) p w v → @Ab.pd E' (.rtok a) p w v := fun p w v hv => by
  obtain rfl : v = .slice none 0 0 := hv
  show RowAt (E'.R a) p w _
  rw [h]
  exact ⟨none, 0, rfl, by simp, by simp, by unfold maxLen; omega, by unfold ArgsIn; trivial⟩
theorem pair_imp {E E' : Env} {x y x' y' : Ab} (h1 : ∀ p w v, @Ab.pd E x p w v → @Ab.pd E' x' p w v) (h2 : ∀ p w v, @Ab.pd E y p w v → @Ab.pd E' y' p w v) : ∀ p w v, @Ab.pd E (.pair x y) p w v → @Ab.pd E' (.pair x' y') p w v :=
  fun p w v ⟨a, b, e, ha, hb⟩ => ⟨a, b, e, h1 _ _ _ ha, h2 _ _ _ hb⟩
theorem term_tok {E E' : Env} {u : Tm} {a : Nat} (h : E'.T a = u) : @Ab.pd E (.term u) = @Ab.pd E' (.tok a) := by subst h; rfl

theorem pair_eq {E : Env} {a b : Nat} {u : Tm} {k : Int} (h1 : E.T a = u) (h2 : E.I b = k) : @Ab.pd E (.pair (.term u) (.val (.int .i64 k))) = @Ab.pd E (.pair (.tok a) (.vtok b)) := by
  subst h1
  subst h2
  rfl

theorem pair_eq2 {E : Env} {a b : Nat} {k : Int} (h2 : E.I b = k) : @Ab.pd E (.pair (.tok a) (.val (.int .i64 k))) = @Ab.pd E (.pair (.tok a) (.vtok b)) := by
  subst h2
  rfl

theorem entry_with {E : Env} (F : List Fact) (ok : AllHold E.T E.I E.L E.R E.S F) {f : FuncId} {l : List Ab} {x : Ab} (h : @Entry (E.with F ok) f l x) : @Entry E f l x :=
  @Entry.mk E f l x (@Entry.enter (E.with F ok) f l x h) fun p w vs hv => (@Entry.call (E.with F ok) f l x h p w vs (by
    have : ∀ {l : List Ab} {vs : List Value}, @Args E p w l vs → @Args (E.with F ok) p w l vs := by
      intro l
      induction l with
      | nil => intro vs h; cases vs with
        | nil => trivial
        | cons _ _ => exact h.elim
      | cons y l ih => intro vs h; cases vs with
        | nil => exact h.elim
        | cons u us => exact ⟨(pd_with E ok y).symm ▸ h.1, ih h.2⟩
    exact this hv)).mono fun e w' ⟨v, p', he, hxx, hp⟩ => ⟨v, p', he, hxx, pd_with E ok x ▸ hp⟩

/-- A function without loops, with facts. -/
theorem entry_facts {E : Env} (F : List Fact) (ok : AllHold E.T E.I E.L E.R E.S F) {C : FuncId → List Ab → Option Ab} (hC : @CallsOk E C) {f : FuncId} {fn : Func} {c : Code} {x : Ab} (xs : List Ab) (hf : Try.prog.funcs[f]? = some fn) (hb : fn.body = some c) (hen : ∀ args w, (callFunc f args).run Try.prog w = .ok (.enter f args) w)
    (hr : outOf fn.results.toList (@runCode (E.with F ok) C fn.ntmps c (idxd 0 xs)) = some x) (hn : (xs.all fun x => !isNew x) = true) (hx : isNew x = false) (hsz : xs.length ≤ fn.ntmps) : @Entry E f xs x :=
  entry_with F ok (@entry_code (E.with F ok) C (calls_with E ok hC) f fn c x xs hf hb hen mixed_ok hr hn hx hsz)

/-- A part without loops, with facts. -/
theorem LRun.step {E : Env} (F : List Fact) (ok : AllHold E.T E.I E.L E.R E.S F) {C : FuncId → List Ab → Option Ab} (hC : @CallsOk E C) {z : Nat} {c : Code} {σ : List (Tmp × Ab)} {r : Res} (l : List (Tmp × Ab)) (h : @runTo (E.with F ok) C z c σ r l = true) : LRun z c E σ r E l :=
  ⟨fun ho hx hd hz hf hk => (LRun.code (calls_with E ok hC) l h).go ho hx hd hz ((facts_with E ok).2 hf) fun p' w' a' h1 h2 h3 h4 => hk p' w' a' h1 h2 h3 ((facts_with E ok).1 h4)⟩

theorem LRun.parts {E' E : Env} (F : List Fact) (ok : AllHold E.T E.I E.L E.R E.S F) {C : FuncId → List Ab → Option Ab} (hC : @CallsOk E C) {z : Nat} {r : Res} {k : Code} (l : List (Tmp × Ab)) {σ' : List (Tmp × Ab)} (cs : List Code) {σ : List (Tmp × Ab)} (h : @runs (E.with F ok) C z cs σ l = true) (hk : LRun z k E l r E' σ') : LRun z (inRow cs k) E σ r E' σ' :=
  ⟨fun ho hx hd hz hf hk' => (LRun.seqs (E := E.with F ok) (E' := E') (calls_with E ok hC) l cs h ⟨fun ho hx hd hz hf hk' => hk.go ho hx hd hz ((facts_with E ok).1 hf) hk'⟩).go ho hx hd hz ((facts_with E ok).2 hf) hk'⟩

def noCalls : FuncId → List Ab → Option Ab := fun _ _ => none
theorem noCalls_ok {E : Env} : @CallsOk E noCalls := fun _ _ _ h => by cases h


end Go.Proofs.Ytloekfnlidclcaa

