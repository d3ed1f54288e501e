/-
  Lemmas of the walk and plain laws, put together. No condition.
-/
import Derived.BigGuardPart
import Derived.BigRegion
import Derived.Deep.AppendLies
import Derived.Deep.CutBlock
import Derived.Deep.DeepCutAuto
import Derived.Deep.LoopGhost
import Derived.Deep.RegionHeld3
import Derived.Deep.RegionLaw
import Derived.Deep.RegionWith
import Derived.Laws.EntriesVeiled
import Derived.Maps.OwnOps
import Derived.Maps.OwnSet
import Derived.StillTail
import Derived.StillTailTactics
import Derived.Test.YtloekfnlidclcaaRows
import Derived.Test.YtloekfnlidclcaaZb
namespace Go.Proofs.Ytloekfnlidclcaa
open Go.RowKit
set_option linter.unusedVariables false

/-! ### The end of a function -/
abbrev Rs := List (ResultVar × Ty × Bool)
def ownOf (σ : St) : ResultVar → List (Nat × Nat)
  | .tmp s => (match lkA σ.t s with
    | some (.v _ _ own _) => own
    | _ => [])
  | .cell s _ => match lkA σ.t s with
    | some (.ref k _ _ _) => (match lkA σ.m k with
      | some e => e.own
      | none => [])
    | _ => []

def resRen (σ : St) : Rs → Nat → List (Nat × Nat)
  | [], _ => []
  | (rv, t, own) :: l, n => (if own then pairUp (ownOf σ rv) (ownAll n t) else []) ++ resRen σ l (n + 1)
def refRen (σ : St) : List Ar → Nat → List (Nat × Nat)
  | [], _ => []
  | .ref t :: l, i => (match lkA σ.m i with
    | some e => pairUp e.own (ownAll i t)
    | none => []) ++ refRen σ l (i + 1)
  | _ :: l, i => refRen σ l (i + 1)
def refKeys : List Ar → Nat → List Nat
  | [], _ => []
  | .ref _ :: l, i => i * 16 :: refKeys l (i + 1)
  | _ :: l, i => refKeys l (i + 1)

def cellKeys (σ : St) : List ResultVar → List Nat
  | [] => []
  | .cell s _ :: l => (match lkA σ.t s with
    | some (.ref k _ _ _) => k * 16 :: cellKeys σ l
    | _ => cellKeys σ l)
  | _ :: l => cellKeys σ l

def resOneD (σ : St) (n : Nat) (rv : ResultVar) (t : Ty) (own : Bool) : Option X := match rv with
  | .tmp s => itT σ (s, t, if own then ownAll n t else [], [])
  | .cell s T => match lkA σ.t s with
    | some (.ref k [] 0 t') => if tyIs T t && Ty.beq t' t then itM σ (k, t, if own then ownAll n t else [], []) else none
    | _ => none
def resX (σ : St) : Rs → Nat → Option (List X)
  | [], _ => some []
  | (rv, t, own) :: l, n => match resOneD σ n rv t own, resX σ l (n + 1) with
    | some x, some xs => some (x :: xs)
    | _, _ => none
def refX (σ : St) : List Ar → Nat → Option (List X)
  | [], _ => some []
  | .ref t :: l, i => (match lkA σ.t i, itM σ (i, t, ownAll i t, []), refX σ l (i + 1) with
    | some (.ref k [] 0 _), some x, some xs => if Nat.beq k i then some (x :: xs) else none
    | _, _, _ => none)
  | _ :: l, i => refX σ l (i + 1)

/-- Results alone may not read as their own what they give up. -/
def fin (ct : Ct) (results : List ResultVar) (σ : St) : Option (List X) :=
  let z := results.zip ct.rs
  let rr := resRen σ z ct.ar.length ++ refRen σ ct.ar 0
  let keep := rr.map (·.1) ++ (refKeys ct.ar 0 ++ cellKeys σ results)
  let σ2 := (σ.un fun y => !hasN keep y).ren rr
  if reB rr && Nat.beq results.length ct.rs.length then match resX σ2 z ct.ar.length, refX σ2 ct.ar 0 with
    | some a, some b => some (a ++ b)
    | _, _ => none
  else none

def endT (ct : Ct) (results : List ResultVar) : Nat → ResD → St → Tree := fun _ r σ => match r with
  | .exit i => .bad (8000000 + i)
  | _ => match fin ct results σ with
    | some xs => .leaf xs
    | none => .bad 9000000

/-! ### Its beginning -/
def dataN : List Ar → Nat
  | [] => 0
  | .nilp :: l => dataN l
  | _ :: l => dataN l + 1
def begT : List Ar → Nat → Nat → List (Nat × AV)
  | [], _, _ => []
  | .val t :: l, i, j => (i, .v (.tok j) t [] []) :: begT l (i + 1) (j + 1)
  | .ref t :: l, i, j => (i, .ref i [] 0 t) :: begT l (i + 1) (j + 1)
  | .nilp :: l, i, j => (i, .nilP) :: begT l (i + 1) j
def begM : List Ar → Nat → Nat → List (Nat × Ent)
  | [], _, _ => []
  | .val t :: l, i, j => begM l (i + 1) (j + 1)
  | .ref t :: l, i, j => (i, ⟨.tok j, t, ownAll i t, []⟩) :: begM l (i + 1) (j + 1)
  | .nilp :: l, i, j => begM l (i + 1) j

/-- The tree of a function. -/
def treeOf (P : Program) (tbl : Tbl) (ann : Ann) (ct : Ct) (fn : Func) (cd : Code) : Tree :=
  toT P tbl ann ct.ar.length fn.ntmps cd [] (dataN ct.ar) ⟨begT ct.ar 0 0, begM ct.ar 0 0⟩ (endT ct fn.results.toList)

/-- Data of the arguments' types. -/
def WfA : List Ar → List D → Prop
  | [], ds => ds = []
  | .val t :: l, ds => ∃ d r, ds = d :: r ∧ Wf d t ∧ WfA l r
  | .ref t :: l, ds => ∃ d r, ds = d :: r ∧ Wf d t ∧ WfA l r
  | .nilp :: l, ds => WfA l ds

section
variable {A : Nat → Prop} {p : Pins} {w : World}

theorem ArgsOk.wf : ∀ {ar : List Ar} {i : Nat} {vs : List Value} {ds : List D}, ArgsOk A p w ar i vs ds → WfA ar ds ∧ ds.length = dataN ar ∧ vs.length = ar.length
  | [], i, vs, ds, h => by
    obtain ⟨rfl, rfl⟩ := h
    exact ⟨rfl, rfl, rfl⟩
  | .val t :: l, i, vs, ds, h => by
    obtain ⟨v, r, d, ds', rfl, rfl, ⟨cs, hp, hr⟩, h⟩ := h
    obtain ⟨h1, h2, h3⟩ := ArgsOk.wf h
    exact ⟨⟨d, ds', rfl, ⟨w, _, cs, hr⟩, h1⟩, by simp [dataN, h2], by simp [h3]⟩
  | .ref t :: l, i, vs, ds, h => by
    obtain ⟨v, r, d, ds', rfl, rfl, ⟨g, cs, T, -, -, -, hc⟩, h⟩ := h
    obtain ⟨h1, h2, h3⟩ := ArgsOk.wf h
    exact ⟨⟨d, ds', rfl, ⟨w, _, _, hc.rd (dep' := (ownAll i t).map (·.2)) (fun x hx => by cases hx) (fun x hx => hx)⟩, h1⟩, by simp [dataN, h2], by simp [h3]⟩
  | .nilp :: l, i, vs, ds, h => by
    obtain ⟨r, rfl, h⟩ := h
    obtain ⟨h1, h2, h3⟩ := ArgsOk.wf h
    exact ⟨h1, h2, by simp [h3]⟩

theorem beg_ok {n0 : Nat} {c : Cx} (hA : c.A = A) (hAt : c.At = fun k g => k < n0 → p (k * 16) = some g) : ∀ {ar : List Ar} {i j : Nat} {vs : List Value} {ds : List D}, i + ar.length = n0 → ArgsOk A p w ar i vs ds → (∀ k, k < ds.length → c.v.E (j + k) = ds.getD k .u) →
    (∀ t x, lkA (begT ar i j) t = some x → i ≤ t ∧ ∃ v, vs[t - i]? = some v ∧ x.pd c p w v) ∧ ∀ k e, lkA (begM ar i j) k = some e → EntOk c p w k e := by
  intro ar
  induction ar with
  | nil => intro i j vs ds _ _ _; exact ⟨fun t x h => (by cases h), fun k e h => (by cases h)⟩
  | cons r l ih =>
    intro i j vs ds hi h hE
    have step : ∀ {vs' : List Value} {v : Value} {x : AV} {j' : Nat}, vs = v :: vs' → x.pd c p w v →
        (∀ t x, lkA (begT l (i + 1) j') t = some x → i + 1 ≤ t ∧ ∃ v, vs'[t - (i + 1)]? = some v ∧ x.pd c p w v) →
        ∀ t y, lkA ((i, x) :: begT l (i + 1) j') t = some y → i ≤ t ∧ ∃ v, vs[t - i]? = some v ∧ y.pd c p w v := by
      intro vs' v x j' e hx hl t y hy
      subst e
      by_cases hit : i = t
      · subst hit
        rw [lkA_cons_self] at hy
        injection hy with hy
        subst hy
        exact ⟨Nat.le_refl _, v, by simp, hx⟩
      · rw [lkA_cons_ne hit] at hy
        obtain ⟨h1, u, h2, h3⟩ := hl t y hy
        refine ⟨by omega, u, ?_, h3⟩
        rw [show t - i = (t - (i + 1)) + 1 by omega, List.getElem?_cons_succ]
        exact h2
    cases r with
    | val t =>
      obtain ⟨v, r, d, ds', rfl, rfl, ⟨cs, hp, hr⟩, h⟩ := h
      obtain ⟨h1, h2⟩ := ih (i := i + 1) (j := j + 1) (by simp at hi; omega) h fun k hk => by
        rw [show j + 1 + k = j + (k + 1) by omega, hE (k + 1) (by simp; omega)]
        simp
      refine ⟨step rfl ⟨cs, hp, ?_⟩ h1, h2⟩
      have := hE 0 (by simp)
      simp only [Nat.add_zero, List.getD_cons_zero] at this
      show Con c.A p w (c.v.E j) t [] [] cs
      rw [this, hA]
      exact Con.of_rd hr
    | ref t =>
      obtain ⟨v, r, d, ds', rfl, rfl, ⟨g, cs, T, hg, rfl, hh, hc⟩, h⟩ := h
      obtain ⟨h1, h2⟩ := ih (i := i + 1) (j := j + 1) (by simp at hi; omega) h fun k hk => by
        rw [show j + 1 + k = j + (k + 1) by omega, hE (k + 1) (by simp; omega)]
        simp
      refine ⟨step rfl ⟨g, hg, rfl, by rw [hAt]; exact fun _ => hg⟩ h1, fun k e he => ?_⟩
      have he' : lkA ((i, ⟨.tok j, t, ownAll i t, []⟩) :: begM l (i + 1) (j + 1)) k = some e := he
      by_cases hik : i = k
      · subst hik
        rw [lkA_cons_self] at he'
        injection he' with he'
        subst he'
        refine ⟨g, cs, T, hg, hh, ?_⟩
        have := hE 0 (by simp)
        simp only [Nat.add_zero, List.getD_cons_zero] at this
        show Con c.A p w (c.v.E j) t (ownAll i t) [] cs.toList
        rw [this, hA]
        exact hc
      · rw [lkA_cons_ne hik] at he'
        exact h2 k e he'
    | nilp =>
      obtain ⟨r, rfl, h⟩ := h
      obtain ⟨h1, h2⟩ := ih (i := i + 1) (j := j) (by simp at hi; omega) h hE
      exact ⟨step rfl rfl h1, h2⟩
end

/-! ### The results, read -/
def resRead (tmps : Array Value) : ResultVar → Sem Value
  | .tmp t => pure (tmps.getD t undef)
  | .cell a t => do loadVar t (← asAddr (tmps.getD a undef))

theorem results_read (fn : Func) (tmps : Array Value) : results fn tmps = (do let vs ← fn.results.mapM (resRead tmps); pure (if h : vs.size = 1 then vs[0] else .tuple vs)) := by
  unfold results
  congr 1

def Reads (tmps : Array Value) (w : World) : List ResultVar → List Value → Prop
  | [], l => l = []
  | r :: rs, l => ∃ v l', l = v :: l' ∧ (resRead tmps r).run Try.prog w = .ok v w ∧ Reads tmps w rs l'

theorem results_run {fn : Func} {tmps : Array Value} {w : World} {l : List Value} (h : Reads tmps w fn.results.toList l) : (results fn tmps).run Try.prog w = .ok (retV l) w := by
  have key : ∀ (rs : List ResultVar) (l : List Value), Reads tmps w rs l → (rs.mapM (resRead tmps)).run Try.prog w = .ok l w := by
    intro rs
    induction rs with
    | nil =>
      intro l h
      cases h
      simp
    | cons r rs ih =>
      rintro l ⟨v, l', rfl, h1, h2⟩
      simp only [List.mapM_cons, Sem.run_bind, h1, Result.andThen_ok, ih l' h2, Sem.run_pure]
  rw [results_read, Array.mapM_eq_mapM_toList]
  simp only [map_eq_pure_bind, Sem.run_bind, key _ _ h, Result.andThen_ok, Sem.run_pure]
  congr 1
  clear h key
  match l with
  | [] => rfl
  | [v] => rfl
  | _ :: _ :: _ => rfl

section
variable {c : Cx} {p : Pins} {w w0 : World} {S0 : Nat → Prop} {a : Act} {σ σ' : St}

theorem it_T {i : Item} {x : X} (hf : SF c σ p w a) (h : itT σ i = some x) : ∃ v cs, a.tmps[i.1]? = some v ∧ Pack i.2.1 cs v ∧ Con c.A p w (x.ev c.v) i.2.1 i.2.2.1 i.2.2.2 cs := by
  obtain ⟨t, ty, own, dep⟩ := i
  have := its_T hf (l := [(t, ty, own, dep)]) (xs := [x]) (by simp only [its, h])
  obtain ⟨y, r, e, h1, -⟩ := this
  simp only [X.evs, List.cons.injEq] at e
  rw [e.1]
  exact h1
theorem it_M {i : Item} {x : X} (hf : SF c σ p w a) (h : itM σ i = some x) : ∃ g cs T, p (i.1 * 16) = some g ∧ w.heap[g]? = some (.cells cs T (0, 0)) ∧ Con c.A p w (x.ev c.v) i.2.1 i.2.2.1 i.2.2.2 cs.toList := by
  obtain ⟨t, ty, own, dep⟩ := i
  have := its_M hf (l := [(t, ty, own, dep)]) (xs := [x]) (by simp only [its, h])
  obtain ⟨y, r, e, h1, -⟩ := this
  simp only [X.evs, List.cons.injEq] at e
  rw [e.1]
  exact h1

theorem resOne_okD (hf : SF c σ p w a) {n : Nat} {rv : ResultVar} {t : Ty} {own : Bool} {x : X} (h : resOneD σ n rv t own = some x) : ∃ v, (resRead a.tmps rv).run Try.prog w = .ok v w ∧ ∃ cs, Pack t cs v ∧ Con c.A p w (x.ev c.v) t (if own then ownAll n t else []) [] cs := by
  cases rv with
  | tmp s =>
    obtain ⟨v, cs, hv, hp, hc⟩ := it_T (i := (s, t, if own then ownAll n t else [], [])) hf h
    exact ⟨v, by simp [resRead, show a.tmps[s]? = some v from hv], cs, hp, hc⟩
  | cell s T =>
    simp only [resOneD] at h
    split at h
    · rename_i k t' hl
      split at h
      · rename_i hok
        simp only [Bool.and_eq_true] at hok
        obtain ⟨v, hv, g, hg, rfl, -⟩ := hf.t s _ hl
        obtain ⟨g', cs, T', hg', hh, hc⟩ := it_M (i := (k, t, if own then ownAll n t else [], [])) hf h
        obtain rfl := Option.some.inj (hg.symm.trans hg')
        have hr : w.rangeAt g 0 cs.toList := fun j u hj => by
          rw [cell_of_row w g (0 + j) cs T' (0, 0) hh, ← Array.getElem?_toList]
          simpa using hj
        obtain ⟨u, hu, hp⟩ := run_load_of (tyIs_ok hok.1) hr (hc.rd (dep' := (if own then ownAll n t else []).map (·.2)) (fun x hx => by cases hx) (fun x hx => hx))
        refine ⟨u, ?_, cs.toList, hp, hc⟩
        simpa [resRead, show a.tmps[s]? = some _ from hv, asAddr, Instr.loadAt, Instr.sureAddr] using hu
      · cases h
    · cases h

theorem resX_ok (hf : SF c σ p w a) : ∀ {rvs : List ResultVar} {ts : List (Ty × Bool)} {n : Nat} {xs : List X}, rvs.length = ts.length → resX σ (rvs.zip ts) n = some xs →
    ∃ l, Reads a.tmps w rvs l ∧ ResL c.A p w ts n l (X.evs c.v xs) ∧ xs.length = ts.length
  | [], [], n, xs, _, h => by
    simp only [List.zip_nil_left, resX, Option.some.injEq] at h
    subst h
    exact ⟨[], rfl, rfl, rfl⟩
  | rv :: rvs, (t, own) :: ts, n, xs, hl, h => by
    simp only [List.zip_cons_cons, resX] at h
    split at h
    · rename_i x xs' hx hxs
      injection h with h
      subst h
      obtain ⟨l, h1, h2, h3⟩ := resX_ok hf (by simpa using hl) hxs
      obtain ⟨v, hv, hc⟩ := resOne_okD hf hx
      exact ⟨v :: l, ⟨v, l, rfl, hv, h1⟩, ⟨v, l, _, _, rfl, rfl, hc, h2⟩, by simp [h3]⟩
    · cases h
  | [], _ :: _, _, _, hl, _ => by cases hl
  | _ :: _, [], _, _, hl, _ => by cases hl

theorem refX_ok {p0 : Pins} (hf : SF c σ p w a) {n0 : Nat} (hAt : c.At = fun k g => k < n0 → p0 (k * 16) = some g) : ∀ {ar : List Ar} {i : Nat} {xs : List X}, i + ar.length ≤ n0 → refX σ ar i = some xs → RefL c.A p0 p w ar i (X.evs c.v xs)
  | [], i, xs, _, h => by
    simp only [refX, Option.some.injEq] at h
    subst h
    rfl
  | .ref t :: l, i, xs, hi, h => by
    simp only [refX] at h
    split at h
    · rename_i k t' x xs' hl hx hxs
      split at h
      · rename_i hk
        have hki := Nat.eq_of_beq_eq_true hk
        subst hki
        injection h with h
        subst h
        obtain ⟨v, -, g, hg, -, hat⟩ := hf.t k _ hl
        obtain ⟨g', cs, T, hg', hh, hc⟩ := it_M (i := (k, t, ownAll k t, [])) hf hx
        obtain rfl := Option.some.inj (hg.symm.trans hg')
        rw [hAt] at hat
        exact ⟨_, _, rfl, ⟨g, cs, T, hat (by simp at hi; omega), hg, hh, hc⟩, refX_ok hf hAt (by simp at hi; omega) hxs⟩
      · cases h
    · cases h
  | .val t :: l, i, xs, hi, h => refX_ok hf hAt (ar := l) (i := i + 1) (by simp at hi; omega) h
  | .nilp :: l, i, xs, hi, h => refX_ok hf hAt (ar := l) (i := i + 1) (by simp at hi; omega) h
end

/-- A function's contract: what its tree asks, on data of its arguments' types. -/
theorem fok_of {ct : Ct} {g : List D → Option (List D)} {tbl : Tbl} (ann : Ann) (fn : Func) (cd : Code) (htb : TblOk tbl) (hf : Try.prog.funcs[ct.f]? = some fn) (hb : fn.body = some cd)
    (hen : ∀ args w, (callFunc ct.f args).run Try.prog w = .ok (.enter ct.f args) w) (hsz : ct.ar.length ≤ fn.ntmps)
    (h : ∀ ds outs, WfA ct.ar ds → g ds = some outs → (treeOf Try.prog tbl ann ct fn cd).go (tblS tbl) (fun o => o = outs) ds fun _ _ => False) : FOk ct g := by
  refine ⟨hen, fun A p w vs ds outs hg hpre hargs => calls_of_wp hf hb ?_⟩
  obtain ⟨hwf, hdl, hvl⟩ := hargs.wf
  have hgo := h ds outs hwf hg
  let c : Cx := ⟨evl (tblS tbl) ds, A, ct.ar.length, fun k g => k < ct.ar.length → p (k * 16) = some g, fun k g hk h => absurd h (by omega)⟩
  have hb0 : Bs c.A w (pinned p) p w := ⟨hpre.inj, hpre.bd, But.refl _ _, fun x b hx => .inl ⟨x, hx⟩, hpre.new, hpre.pa, hpre.obj⟩
  obtain ⟨hbT, hbM⟩ := beg_ok (c := c) (A := A) (n0 := ct.ar.length) rfl rfl (i := 0) (j := 0) (by simp) hargs (fun k hk => by simp [c, evl])
  have hsf : SF (c.at (tblS tbl) ds) ⟨begT ct.ar 0 0, begM ct.ar 0 0⟩ p w { tmps := vs.toArray ++ Array.replicate (fn.ntmps - vs.toArray.size) undef, defers := [] } := by
    refine ⟨fun t x hx => ?_, hbM⟩
    obtain ⟨-, v, h1, h2⟩ := hbT t x hx
    refine ⟨v, ?_, h2⟩
    have hlt : t < vs.toArray.size := by simpa using (List.getElem?_eq_some_iff.1 h1).1
    show (vs.toArray ++ _)[t]? = _
    rw [Array.getElem?_append_left hlt]
    simpa using h1
  refine (wpIn_wide (n := 0)).1 ?_
  refine toT_ok none 0 (c := c) (S0 := pinned p) (w0 := w) (d := []) (z := fn.ntmps) htb cd hgo hdl hb0 hsf rfl (by simp; omega) fun n' r σ' l' B' p' w' a' hl' hpre' hB hgo' hb' hf' hd' hz' => ?_
  have fin' : ∀ xs, fin ct fn.results.toList σ' = some xs → X.evs (evl (tblS tbl) l') xs = outs → a'.defers = [] ∧ ∃ v, (results fn a'.tmps).run Try.prog w' = .ok v w' ∧ ∃ rs p', (Ending.returned v) = .returned (retV rs) ∧ Bs A w (pinned p) p' w' ∧ ResL A p' w' ct.rs ct.ar.length rs (outs.take ct.rs.length) ∧ RefL A p p' w' ct.ar 0 (outs.drop ct.rs.length) := by
    intro xs hfin hout
    unfold fin at hfin
    simp only at hfin
    split at hfin
    · rename_i hok
      simp only [Bool.and_eq_true] at hok
      split at hfin
      · rename_i xa xb hxa hxb
        injection hfin with hfin
        subst hfin
        have hb1 := hb'.un (fun y => !hasN ((resRen σ' (fn.results.toList.zip ct.rs) ct.ar.length ++ refRen σ' ct.ar 0).map (·.1) ++ (refKeys ct.ar 0 ++ cellKeys σ' fn.results.toList)) y)
        have hf1 := SF.un (c := c.at (tblS tbl) l') (q := fun y => !hasN ((resRen σ' (fn.results.toList.zip ct.rs) ct.ar.length ++ refRen σ' ct.ar 0).map (·.1) ++ (refKeys ct.ar 0 ++ cellKeys σ' fn.results.toList)) y) hb'.inj hb'.pa hf'
        obtain ⟨p2, hb2, hf2⟩ := ren_ok (c := c.at (tblS tbl) l') hok.1 hb1 hf1
        obtain ⟨l, h1, h2, h3⟩ := resX_ok hf2 (Nat.eq_of_beq_eq_true hok.2) hxa
        have h4 := refX_ok (p0 := p) (n0 := ct.ar.length) hf2 rfl (by simp) hxb
        have hev : X.evs (evl (tblS tbl) l') xa ++ X.evs (evl (tblS tbl) l') xb = outs := by rw [← evs_app]; exact hout
        have hla : (X.evs (evl (tblS tbl) l') xa).length = ct.rs.length := by rw [evs_len, h3]
        refine ⟨hd', _, results_run h1, l, p2, rfl, hb2, ?_, ?_⟩
        · rw [← hev, List.take_append_of_le_length (by omega), ← hla, List.take_length]
          exact h2
        · rw [← hev, ← hla, List.drop_left]
          exact h4
      · cases hfin
    · cases hfin
  cases r with
  | exit i => exact hgo'.elim
  | normal =>
    simp only [endT] at hgo'
    split at hgo'
    · rename_i xs hx
      exact fin' xs hx hgo'
    · exact hgo'.elim
  | ret =>
    simp only [endT] at hgo'
    split at hgo'
    · rename_i xs hx
      exact fin' xs hx hgo'
    · exact hgo'.elim

theorem TblOk.nil : TblOk [] := fun e he => by cases he
theorem TblOk.cons {ct : Ct} {g : List D → Option (List D)} {l : Tbl} (h : FOk ct g) (hl : TblOk l) : TblOk ((ct, g) :: l) := fun e he => by
  rcases List.mem_cons.1 he with rfl | he
  · exact h
  · exact hl e he
end Go.Proofs.Ytloekfnlidclcaa

namespace Go.Proofs.Ytloekfnlidclcaa
open Go.RowKit
set_option linter.unusedVariables false

theorem Wf.row {d : D} {E : TypeId} (h : Wf d (.row E)) : ∃ l te, d = .r l ∧ tyOf E = some te ∧ l.length ≤ LIM ∧ ∀ x ∈ l, Wf x te := by
  obtain ⟨w, F, cs, h⟩ := h
  cases d with
  | r l =>
    obtain ⟨E', te, A, cap, e, hte, e3, h1, h2, -, hR⟩ := h
    injection e with e
    subst e
    refine ⟨l, te, rfl, hte, h2, fun x hx => ?_⟩
    obtain ⟨i, hi, rfl⟩ := List.mem_iff_getElem.1 hx
    obtain ⟨b, o, c, -, -, -, hr⟩ := rdE_iff.1 hR i hi
    exact ⟨w, F, c, hr⟩
  | u => exact h.elim
  | i n => obtain ⟨k, e, -⟩ := h; cases e
  | b x => cases h.1
  | s x => cases h.1
  | a l => obtain ⟨T', fs0, e1, -⟩ := h; cases e1

theorem Wf.int {d : D} {k : IntKind} (h : Wf d (.int k)) : ∃ n, d = .i n ∧ rngB k n = true := by
  obtain ⟨w, F, cs, h⟩ := h
  cases d with
  | i n =>
    obtain ⟨k', e, -, hr⟩ := h
    injection e with e
    subst e
    exact ⟨n, rfl, hr⟩
  | u => exact h.elim
  | r l => obtain ⟨E, te, A, cap, e, -⟩ := h; cases e
  | b x => cases h.1
  | s x => cases h.1
  | a l => obtain ⟨T', fs0, e1, -⟩ := h; cases e1

theorem Wf.bool {d : D} (h : Wf d .bool) : ∃ x, d = .b x := by
  obtain ⟨w, F, cs, h⟩ := h
  cases d with
  | b x => exact ⟨x, rfl⟩
  | u => exact h.elim
  | r l => obtain ⟨E, te, A, cap, e, -⟩ := h; cases e
  | i n => obtain ⟨k, e, -⟩ := h; cases e
  | s x => cases h.1
  | a l => obtain ⟨T', fs0, e1, -⟩ := h; cases e1

theorem Wf.str {d : D} (h : Wf d .str) : ∃ x, d = .s x ∧ x.size ≤ LIM := by
  obtain ⟨w, F, cs, h⟩ := h
  cases d with
  | s x => exact ⟨x, rfl, h.2.2⟩
  | u => exact h.elim
  | r l => obtain ⟨E, te, A, cap, e, -⟩ := h; cases e
  | i n => obtain ⟨k, e, -⟩ := h; cases e
  | b x => cases h.1
  | a l => obtain ⟨T', fs0, e1, -⟩ := h; cases e1

def WfL : List D → List Ty → Prop
  | [], fs => fs = []
  | d :: ds, fs => ∃ t ts, fs = t :: ts ∧ Wf d t ∧ WfL ds ts

theorem RdF.wf {w : World} {F : Nat → Prop} : ∀ {ds : List D} {fs : List Ty} {cs : List Value}, RdF w F ds fs cs → WfL ds fs
  | [], fs, cs, h => h.1
  | d :: ds, fs, cs, h => by
    obtain ⟨t, ts, c1, c2, e1, -, h1, h2⟩ := h
    exact ⟨t, ts, e1, ⟨w, F, c1, h1⟩, RdF.wf h2⟩

theorem Wf.st {d : D} {S : TypeId} (h : Wf d (.st S)) : ∃ ds fs, d = .a ds ∧ flds S = some fs ∧ WfL ds fs := by
  obtain ⟨w, F, cs, h⟩ := h
  cases d with
  | a l =>
    obtain ⟨T', fs0, e1, e2, h⟩ := h
    injection e1 with e1
    subst e1
    exact ⟨l, fs0, rfl, e2, RdF.wf h⟩
  | u => exact h.elim
  | r l => obtain ⟨E, te, A, cap, e, -⟩ := h; cases e
  | i n => obtain ⟨k, e, -⟩ := h; cases e
  | b x => cases h.1
  | s x => cases h.1
end Go.Proofs.Ytloekfnlidclcaa

namespace Go.Proofs.Ytloekfnlidclcaa
open Go.RowKit
set_option linter.unusedVariables false

def allB (e : Ev) : List X → Bool
  | [] => true
  | x :: l => (x.ev e).tt && allB e l
theorem allB_ok {e : Ev} : ∀ {l : List X}, allB e l = true → allSay e l
  | [], _ => trivial
  | x :: l, h => by
    simp only [allB, Bool.and_eq_true] at h
    exact ⟨h.1, allB_ok h.2⟩

/-- Rounds of a loop: what ends with a back to the loop goes on. -/
def itf (f : List D → Option (Nat × List D)) (id : Nat) : Nat → List D → Option (Nat × List D)
  | 0, _ => none
  | k + 1, st => match f st with
    | some (j, st') => if Nat.beq j (id + 1) then itf f id k st' else some (j, st')
    | none => none

def sameOut : Nat × List D → Nat × List D → Bool := fun a b => Nat.beq a.1 b.1 && D.beqs a.2 b.2

/-- What a tree computes: 0 with the results, or a back's number and 1 with the values. -/
def Tree.den (S : Nat → List D → Option (List D)) (fuel : Nat) : Tree → List D → Option (Nat × List D)
  | .bad _, _ => none
  | .need ns t, l => if allB (evl S l) ns then t.den S fuel l else none
  | .br x t e, l => if (x.ev (evl S l)).tt then t.den S fuel l else e.den S fuel l
  | .amb x neg t e, l => if (x.ev (evl S l)).rs.isEmpty then (match t.den S fuel l, e.den S fuel l with
      | some a, some b => if sameOut a b then some a else none
      | _, _ => none) else if neg then t.den S fuel l else e.den S fuel l
  | .leaf xs, l => some (0, X.evs (evl S l) xs)
  | .back id xs, l => some (id + 1, X.evs (evl S l) xs)
  | .loop id n init body, l => itf (fun st => body.den S fuel (l.take n ++ st)) id fuel (X.evs (evl S l) init)

def outOk (R : List D → Prop) (B : Nat → List D → Prop) : Nat × List D → Prop
  | (0, xs) => R xs
  | (id + 1, xs) => B id xs

theorem beqs_eq : ∀ {l m : List D}, D.beqs l m = true → l = m
  | [], [], _ => rfl
  | x :: l, y :: m, h => by
    simp only [D.beqs, Bool.and_eq_true] at h
    rw [(D.beq_iff _ _).1 h.1, beqs_eq h.2]
  | [], _ :: _, h => by simp [D.beqs] at h
  | _ :: _, [], h => by simp [D.beqs] at h

theorem sameOut_ok {a b : Nat × List D} (h : sameOut a b = true) : a = b := by
  obtain ⟨i, l⟩ := a
  obtain ⟨j, m⟩ := b
  simp only [sameOut, Bool.and_eq_true] at h
  rw [Nat.eq_of_beq_eq_true h.1, beqs_eq h.2]

theorem least_of {P : Nat → Prop} (h : ∃ k, P k) : ∃ m, P m ∧ ∀ k, P k → m ≤ k := by
  obtain ⟨k, hk⟩ := h
  induction k using Nat.strongRecOn with
  | _ k ih =>
    by_cases hl : ∃ j, j < k ∧ P j
    · obtain ⟨j, hj, hp⟩ := hl
      exact ih j hj hp
    · exact ⟨k, hk, fun j hj => Nat.le_of_not_lt fun hlt => hl ⟨j, hlt, hj⟩⟩
open Classical in
noncomputable def leastN (P : Nat → Prop) : Nat := if h : ∃ k, P k then (least_of h).choose else 0
theorem leastN_ok {P : Nat → Prop} (h : ∃ k, P k) : P (leastN P) ∧ ∀ k, P k → leastN P ≤ k := by
  unfold leastN
  rw [dif_pos h]
  exact (least_of h).choose_spec

theorem go_of_den {S : Nat → List D → Option (List D)} {fuel : Nat} {R : List D → Prop} : ∀ (t : Tree) {l : List D} {B : Nat → List D → Prop} {out : Nat × List D}, t.den S fuel l = some out → outOk R B out → t.go S R l B := by
  intro t
  induction t with
  | bad n => intro l B out h; cases h
  | need ns t ih =>
    intro l B out h ho
    unfold Tree.den at h
    split at h
    · rename_i hs
      exact ⟨allB_ok hs, ih h ho⟩
    · cases h
  | br x t e iht ihe =>
    intro l B out h ho
    unfold Tree.den at h
    refine ⟨fun hx => ?_, fun hx => ?_⟩
    · rw [if_pos hx] at h
      exact iht h ho
    · rw [if_neg (by rw [hx]; decide)] at h
      exact ihe h ho
  | amb x neg t e iht ihe =>
    intro l B out h ho
    unfold Tree.den at h
    split at h
    · split at h
      · rename_i a b ha hb
        split at h
        · rename_i hs
          injection h with h
          subst h
          have := sameOut_ok hs
          subst this
          exact ⟨fun _ => iht ha ho, fun _ => ihe hb ho⟩
        · cases h
      · cases h
    · rename_i hne
      have hne' : ¬ (x.ev (evl S l)).rs = [] := fun e => hne (by rw [e]; rfl)
      split at h
      · rename_i hn
        exact ⟨fun _ => iht h ho, fun hc => absurd (hc hn) hne'⟩
      · rename_i hn
        exact ⟨fun hc => absurd (hc (by simpa using hn)) hne', fun _ => ihe h ho⟩
  | leaf xs =>
    intro l B out h ho
    simp only [Tree.den, Option.some.injEq] at h
    subst h
    exact ho
  | back id xs =>
    intro l B out h ho
    simp only [Tree.den, Option.some.injEq] at h
    subst h
    exact ho
  | loop id n init body ih =>
    intro l B out h ho
    unfold Tree.den at h
    generalize hf : (fun st => body.den S fuel (l.take n ++ st)) = f at h
    have hfe : ∀ st, body.den S fuel (l.take n ++ st) = f st := fun st => by rw [← hf]
    -- more rounds answer alike
    have mono : ∀ k st o, itf f id k st = some o → itf f id (k + 1) st = some o := by
      intro k
      induction k with
      | zero => intro st o h; cases h
      | succ k ihk =>
        intro st o h
        unfold itf at h ⊢
        split at h
        · rename_i j st' hj
          split at h
          · rename_i hb
            rw [if_pos hb]
            exact ihk _ _ h
          · rename_i hb
            rw [if_neg hb]
            exact h
        · cases h
    refine ⟨fun st => ∃ k o, itf f id k st = some o ∧ outOk R B o, fun st => leastN fun k => (itf f id k st).isSome = true, ⟨fuel, out, h, ho⟩, ?_⟩
    rintro st - ⟨k, o, hk, hoo⟩
    have hex : ∃ k, (itf f id k st).isSome = true := ⟨k, by rw [hk]; rfl⟩
    obtain ⟨hmin, -⟩ := leastN_ok hex
    obtain ⟨o', ho'⟩ := Option.isSome_iff_exists.1 hmin
    have up : ∀ a b st o, itf f id a st = some o → itf f id (a + b) st = some o := by
      intro a b
      induction b with
      | zero => intro st o h; exact h
      | succ b ihb => intro st o h; exact mono _ _ _ (ihb st o h)
    have hoo' : o' = o := by
      have h1 := up _ k st o' ho'
      have h2 := up k (leastN fun k => (itf f id k st).isSome = true) st o hk
      rw [Nat.add_comm] at h2
      exact Option.some.inj (h1.symm.trans h2)
    rw [hoo'] at ho'
    cases hm : leastN (fun k => (itf f id k st).isSome = true) with
    | zero => rw [hm] at ho'; cases ho'
    | succ m =>
      rw [hm] at ho'
      unfold itf at ho'
      split at ho'
      · rename_i j st' hj
        refine ih ((hfe st).trans hj) ?_
        split at ho'
        · rename_i hb
          obtain rfl := Nat.eq_of_beq_eq_true hb
          show updB B id _ id st'
          unfold updB
          rw [if_pos rfl]
          refine ⟨⟨m, o, ho', hoo⟩, ?_⟩
          have hex' : ∃ k, (itf f id k st').isSome = true := ⟨m, by rw [ho']; rfl⟩
          show _ < leastN (fun k => (itf f id k st).isSome = true)
          rw [hm]
          exact Nat.lt_succ_of_le ((leastN_ok hex').2 m (by rw [ho']; rfl))
        · rename_i hb
          injection ho' with ho'
          subst ho'
          cases j with
          | zero => exact hoo
          | succ j =>
            show updB B id _ j st'
            unfold updB
            rw [if_neg]
            · exact hoo
            · intro e
              subst e
              exact hb (Nat.beq_refl _)
      · cases ho'

def outs0 : Option (Nat × List D) → Option (List D)
  | some (0, xs) => some xs
  | _ => none
theorem outs0_ok {o : Option (Nat × List D)} {xs : List D} (h : outs0 o = some xs) : o = some (0, xs) := by
  unfold outs0 at h
  split at h
  · injection h with h; rw [h]
  · cases h

/-- What a function computes, by its tree. -/
def denF (tbl : Tbl) (fuel : Nat) (t : Tree) : List D → Option (List D) := fun ds => outs0 (t.den (tblS tbl) fuel ds)
theorem go_denF {tbl : Tbl} {fuel : Nat} {t : Tree} {ds outs : List D} (h : denF tbl fuel t ds = some outs) : t.go (tblS tbl) (fun o => o = outs) ds fun _ _ => False :=
  go_of_den t (outs0_ok h) rfl

/-- A function that calls itself: its contract, as far down as n. -/
def upN (G : (List D → Option (List D)) → List D → Option (List D)) : Nat → List D → Option (List D)
  | 0 => fun _ => none
  | n + 1 => G (upN G n)
theorem FOk.none {ct : Ct} (hen : ∀ args w, (callFunc ct.f args).run Try.prog w = .ok (.enter ct.f args) w) : FOk ct fun _ => Option.none := ⟨hen, fun A p w vs ds outs h => by cases h⟩
theorem fok_up {ct : Ct} {G : (List D → Option (List D)) → List D → Option (List D)} (hen : ∀ args w, (callFunc ct.f args).run Try.prog w = .ok (.enter ct.f args) w) (h : ∀ g, FOk ct g → FOk ct (G g)) : ∀ n, FOk ct (upN G n)
  | 0 => FOk.none hen
  | n + 1 => h _ (fok_up hen h n)
/-- A contract cut at a measure. -/
def cutM (m : List D → Nat) (n : Nat) (g : List D → Option (List D)) : List D → Option (List D) := fun ds => if m ds < n then g ds else none
theorem fok_cut {ct : Ct} {m : List D → Nat} {g : List D → Option (List D)} (hen : ∀ args w, (callFunc ct.f args).run Try.prog w = .ok (.enter ct.f args) w) (h : ∀ n, FOk ct (cutM m n g) → FOk ct (cutM m (n + 1) g)) : FOk ct g := by
  have key : ∀ n, FOk ct (cutM m n g) := by
    intro n
    induction n with
    | zero => exact ⟨hen, fun A p w vs ds outs h => by simp [cutM] at h⟩
    | succ n ih => exact h n ih
  refine ⟨hen, fun A p w vs ds outs hg hp ha => (key (m ds + 1)).call A p w vs ds outs ?_ hp ha⟩
  simp only [cutM, if_pos (Nat.lt_succ_self _)]
  exact hg
/-- A contract may say less. -/
theorem FOk.sub {ct : Ct} {g g' : List D → Option (List D)} (h : FOk ct g) (hs : ∀ ds outs, g' ds = some outs → g ds = some outs) : FOk ct g' := ⟨h.enter, fun A p w vs ds outs hg hp ha => h.call A p w vs ds outs (hs ds outs hg) hp ha⟩
/-- .. and so on data of the arguments' types alone. -/
theorem FOk.subW {ct : Ct} {g g' : List D → Option (List D)} (h : FOk ct g) (hs : ∀ ds outs, WfA ct.ar ds → g' ds = some outs → g ds = some outs) : FOk ct g' := ⟨h.enter, fun A p w vs ds outs hg hp ha => h.call A p w vs ds outs (hs ds outs ha.wf.1 hg) hp ha⟩
end Go.Proofs.Ytloekfnlidclcaa

namespace Go.Proofs.Ytloekfnlidclcaa
open Go.RowKit
set_option linter.unusedVariables false

/-- A term: kind, number, name, arguments. -/
inductive Tm where
  | mk (k n : Int) (s : ByteArray) (args : List Tm)

namespace Tm
def kind : Tm → Int | .mk k _ _ _ => k
def num : Tm → Int | .mk _ n _ _ => n
def name : Tm → ByteArray | .mk _ _ s _ => s
def args : Tm → List Tm | .mk _ _ _ l => l

theorem ind {P : Tm → Prop} (h : ∀ k n s l, (∀ a ∈ l, P a) → P (.mk k n s l)) (t : Tm) : P t :=
  Tm.rec (motive_1 := P) (motive_2 := fun l => ∀ a ∈ l, P a) (fun k n s l ih => h k n s l ih) (by simp)
    (fun t l iht ihl a ha => by
      rcases List.mem_cons.1 ha with rfl | h'
      · exact iht
      · exact ihl a h') t
end Tm

def wf64 (n : Int) : Prop := -9223372036854775808 ≤ n ∧ n ≤ 9223372036854775807

/-- The block number k is a row of terms. -/
def TBlk (w : World) (k : Nat) : Prop := ∃ c f, w.heap[k]? = some (.cells c 24 f)

/-- A row of terms, from B on. -/
def TBk (B : Nat) (w : World) : Nat → Prop := fun k => B ≤ k ∧ TBlk w k

mutual
/-- The value v reads as the term in w; every array of arguments lies in a block of D. -/
def TmIn (w : World) (D : Nat → Prop) : Tm → Value → Prop
  | .mk k n s l, v => ∃ A len cap, v = .agg #[.int .i64 k, .int .i64 n, .string s, .slice A len cap] ∧ wf64 k ∧ wf64 n ∧ s.size ≤ 140737488351232 ∧
      len = l.length ∧ len ≤ cap ∧ len ≤ 140737488351232 ∧ cap ≤ maxLen ∧ ArgsIn w D l A 0
def ArgsIn (w : World) (D : Nat → Prop) : List Tm → Option Addr → Nat → Prop
  | [], _, _ => True
  | t :: l, A, i => (∃ b o c0 c1 c2 c3, A = some ⟨b, o, none⟩ ∧ D b ∧ w.cell? ⟨b, o + i * 4, none⟩ = some c0 ∧ w.cell? ⟨b, o + i * 4 + 1, none⟩ = some c1 ∧
      w.cell? ⟨b, o + i * 4 + 2, none⟩ = some c2 ∧ w.cell? ⟨b, o + i * 4 + 3, none⟩ = some c3 ∧ TmIn w D t (.agg #[c0, c1, c2, c3])) ∧ ArgsIn w D l A (i + 1)
end

/-- The element number i of a slice of terms at A. -/
def ArgIn (w : World) (D : Nat → Prop) (t : Tm) (A : Option Addr) (i : Nat) : Prop :=
  ∃ b o c0 c1 c2 c3, A = some ⟨b, o, none⟩ ∧ D b ∧ w.cell? ⟨b, o + i * 4, none⟩ = some c0 ∧ w.cell? ⟨b, o + i * 4 + 1, none⟩ = some c1 ∧
      w.cell? ⟨b, o + i * 4 + 2, none⟩ = some c2 ∧ w.cell? ⟨b, o + i * 4 + 3, none⟩ = some c3 ∧ TmIn w D t (.agg #[c0, c1, c2, c3])

/-- Every array of arguments lies below B or in a row of terms. -/
abbrev TmAt (w : World) (B : Nat) : Tm → Value → Prop := TmIn w (fun b => b < B ∨ TBlk w b)
abbrev ArgsAt (w : World) (B : Nat) : List Tm → Option Addr → Nat → Prop := ArgsIn w (fun b => b < B ∨ TBlk w b)

/-- Row b of terms is the call's own: it is not frozen. -/
def OBlk (w : World) (b : Nat) : Prop := ∃ c, w.heap[b]? = some (.cells c 24 (0, 0))
/-- Every array of arguments is a row of terms from B on, not frozen. -/
abbrev TmNew (w : World) (B : Nat) : Tm → Value → Prop := TmIn w (fun b => B ≤ b ∧ OBlk w b)

theorem argsIn_iff {w : World} {D : Nat → Prop} {A : Option Addr} : ∀ {l : List Tm} {i : Nat}, ArgsIn w D l A i ↔ ∀ j (h : j < l.length), ArgIn w D l[j] A (i + j)
  | [], i => by simp [ArgsIn]
  | t :: l, i => by
    simp only [ArgsIn]
    constructor
    · rintro ⟨h0, h1⟩ j hj
      rcases j with _ | j
      · exact h0
      · have := (argsIn_iff (l := l) (i := i + 1)).1 h1 j (by simpa using hj)
        simpa [Nat.add_assoc, Nat.add_comm 1 j] using this
    · intro h
      refine ⟨h 0 (by simp), (argsIn_iff (l := l) (i := i + 1)).2 fun j hj => ?_⟩
      have := h (j + 1) (by simpa using hj)
      simpa [Nat.add_assoc, Nat.add_comm 1 j] using this

theorem TmIn.form {w : World} {D : Nat → Prop} {t : Tm} {v : Value} (h : TmIn w D t v) : ∃ A cap, v = .agg #[.int .i64 t.kind, .int .i64 t.num, .string t.name, .slice A t.args.length cap] ∧
    wf64 t.kind ∧ wf64 t.num ∧ t.name.size ≤ 140737488351232 ∧ t.args.length ≤ cap ∧ t.args.length ≤ 140737488351232 ∧ cap ≤ maxLen ∧ ArgsIn w D t.args A 0 := by
  cases t with
  | mk k n s l =>
    unfold TmIn at h
    obtain ⟨A, len, cap, e, h1, h2, h3, rfl, h5, h6, hc, h7⟩ := h
    exact ⟨A, cap, e, h1, h2, h3, h5, h6, hc, h7⟩

theorem ArgIn.form {w : World} {D : Nat → Prop} {t : Tm} {A : Option Addr} {i : Nat} (h : ArgIn w D t A i) : ∃ b o A0 cap0, A = some ⟨b, o, none⟩ ∧ D b ∧
    w.cell? ⟨b, o + i * 4, none⟩ = some (.int .i64 t.kind) ∧ w.cell? ⟨b, o + i * 4 + 1, none⟩ = some (.int .i64 t.num) ∧
    w.cell? ⟨b, o + i * 4 + 2, none⟩ = some (.string t.name) ∧ w.cell? ⟨b, o + i * 4 + 3, none⟩ = some (.slice A0 t.args.length cap0) ∧
    TmIn w D t (.agg #[.int .i64 t.kind, .int .i64 t.num, .string t.name, .slice A0 t.args.length cap0]) := by
  obtain ⟨b, o, c0, c1, c2, c3, rfl, hb, e0, e1, e2, e3, ht⟩ := h
  obtain ⟨A0, cap0, e, _⟩ := ht.form
  injection e with e
  obtain ⟨rfl, rfl, rfl, rfl⟩ : c0 = _ ∧ c1 = _ ∧ c2 = _ ∧ c3 = _ := by simpa using e
  exact ⟨b, o, A0, cap0, rfl, hb, e0, e1, e2, e3, ht⟩

/-- The element number j of a slice of terms. -/
theorem ArgsIn.get {w : World} {D : Nat → Prop} {l : List Tm} {A : Option Addr} (h : ArgsIn w D l A 0) {j : Nat} (hj : j < l.length) : ∃ b o A0 cap0, A = some ⟨b, o, none⟩ ∧ D b ∧
    w.cell? ⟨b, o + j * 4, none⟩ = some (.int .i64 l[j].kind) ∧ w.cell? ⟨b, o + j * 4 + 1, none⟩ = some (.int .i64 l[j].num) ∧
    w.cell? ⟨b, o + j * 4 + 2, none⟩ = some (.string l[j].name) ∧ w.cell? ⟨b, o + j * 4 + 3, none⟩ = some (.slice A0 l[j].args.length cap0) ∧
    TmIn w D l[j] (.agg #[.int .i64 l[j].kind, .int .i64 l[j].num, .string l[j].name, .slice A0 l[j].args.length cap0]) := by
  have := (argsIn_iff.1 h j hj).form
  simpa only [Nat.zero_add] using this

/-- What the world must keep so that terms stay. -/
def KeepsIn (D D' : Nat → Prop) (w w' : World) : Prop := ∀ k o, w.heap[k]? = some o → D k → w'.heap[k]? = some o ∧ D' k

theorem KeepsIn.cell {D D' : Nat → Prop} {w w' : World} (h : KeepsIn D D' w w') {b o : Nat} {v : Value} (hk : D b) (hc : w.cell? ⟨b, o, none⟩ = some v) : w'.cell? ⟨b, o, none⟩ = some v ∧ D' b := by
  have hlt : b < w.heap.size := lt_of_cell hc
  obtain ⟨h1, h2⟩ := h b _ (Array.getElem?_eq_getElem hlt) hk
  exact ⟨(World.cell?_of_block (w := w) (by rw [h1, Array.getElem?_eq_getElem hlt])).trans hc, h2⟩

theorem TmIn.keeps {D D' : Nat → Prop} {w w' : World} (hk : KeepsIn D D' w w') (t : Tm) : ∀ {v : Value}, TmIn w D t v → TmIn w' D' t v := by
  induction t using Tm.ind with
  | h k n s l ih =>
    intro v hv
    unfold TmIn at hv ⊢
    obtain ⟨A, len, cap, e, h1, h2, h3, h4, h5, h6, hc, h7⟩ := hv
    refine ⟨A, len, cap, e, h1, h2, h3, h4, h5, h6, hc, ?_⟩
    rw [argsIn_iff] at h7 ⊢
    intro j hj
    obtain ⟨b, o, c0, c1, c2, c3, rfl, hb, e0, e1, e2, e3, ht⟩ := h7 j hj
    exact ⟨b, o, c0, c1, c2, c3, rfl, (hk.cell hb e0).2, (hk.cell hb e0).1, (hk.cell hb e1).1, (hk.cell hb e2).1, (hk.cell hb e3).1, ih _ (List.getElem_mem hj) ht⟩

theorem ArgIn.keeps {D D' : Nat → Prop} {w w' : World} (hk : KeepsIn D D' w w') {t : Tm} {A : Option Addr} {i : Nat} (h : ArgIn w D t A i) : ArgIn w' D' t A i := by
  obtain ⟨b, o, c0, c1, c2, c3, rfl, hb, e0, e1, e2, e3, ht⟩ := h
  exact ⟨b, o, c0, c1, c2, c3, rfl, (hk.cell hb e0).2, (hk.cell hb e0).1, (hk.cell hb e1).1, (hk.cell hb e2).1, (hk.cell hb e3).1, TmIn.keeps hk t ht⟩

theorem ArgsIn.keeps {D D' : Nat → Prop} {w w' : World} (hk : KeepsIn D D' w w') {l : List Tm} {A : Option Addr} {i : Nat} (h : ArgsIn w D l A i) : ArgsIn w' D' l A i := by
  rw [argsIn_iff] at h ⊢
  exact fun j hj => (h j hj).keeps hk

def Keeps (B : Nat) (w w' : World) : Prop := ∀ k o, w.heap[k]? = some o → (k < B ∨ TBlk w k) → w'.heap[k]? = some o

theorem Keeps.tblk {B : Nat} {w w' : World} (h : Keeps B w w') {k : Nat} (hk : TBlk w k) : TBlk w' k := by
  obtain ⟨c, f, hc⟩ := hk
  exact ⟨c, f, h k _ hc (.inr ⟨c, f, hc⟩)⟩

theorem Keeps.keepsIn {B B' : Nat} {w w' : World} (hB : B ≤ B') (h : Keeps B w w') : KeepsIn (fun b => b < B ∨ TBlk w b) (fun b => b < B' ∨ TBlk w' b) w w' :=
  fun k o hk hd => ⟨h k o hk hd, hd.elim (fun hl => .inl (by omega)) (fun ht => .inr (h.tblk ht))⟩

theorem TmAt.keeps {B B' : Nat} {w w' : World} (hB : B ≤ B') (hk : Keeps B w w') (t : Tm) {v : Value} (h : TmAt w B t v) : TmAt w' B' t v := TmIn.keeps (hk.keepsIn hB) t h
theorem ArgsAt.keeps {B B' : Nat} {w w' : World} (hB : B ≤ B') (hk : Keeps B w w') {l : List Tm} {A : Option Addr} {i : Nat} (h : ArgsAt w B l A i) : ArgsAt w' B' l A i := ArgsIn.keeps (hk.keepsIn hB) h

/-- What may turn: blocks from B on that are no rows of terms. -/
def Off (B : Nat) (w : World) : Nat → Prop := fun k => B ≤ k ∧ ¬ TBlk w k

theorem But.keeps {S : Nat → Prop} {B : Nat} {w w' : World} (h : But S w w') (hS : ∀ k, S k → Off B w k) : Keeps B w w' :=
  fun _ _ hk hd => h.heap (fun hs => hd.elim (fun hlt => by have := (hS _ hs).1; omega) (hS _ hs).2) hk

theorem But.keeps_nil {B : Nat} {w w' : World} (h : But Nil w w') : Keeps B w w' := h.keeps fun _ hs => hs.elim

theorem TmAt.all {B : Nat} {w : World} {t : Tm} {v : Value} (h : TmAt w B t v) (B' : Nat) (hB : B ≤ B') : TmAt w B' t v := TmAt.keeps hB (fun _ _ h _ => h) t h

theorem OBlk.tblk {w : World} {b : Nat} (h : OBlk w b) : TBlk w b := let ⟨c, hc⟩ := h; ⟨c, _, hc⟩

theorem TmNew.at_ {w : World} {B : Nat} {t : Tm} {v : Value} (h : TmNew w B t v) (B' : Nat) : TmAt w B' t v :=
  TmIn.keeps (fun _ _ hk hd => ⟨hk, .inr hd.2.tblk⟩) t h

theorem TmNew.but {S : Nat → Prop} {w w' : World} {B B' : Nat} {t : Tm} {v : Value} (h : TmNew w B t v) (hb : But S w w') (hS : ∀ k, S k → ¬ TBlk w k) (hB : B' ≤ B) : TmNew w' B' t v :=
  TmIn.keeps (fun _ _ hk hd => ⟨hb.heap (fun hs => hS _ hs hd.2.tblk) hk, Nat.le_trans hB hd.1, let ⟨c, hc⟩ := hd.2; ⟨c, hb.heap (fun hs => hS _ hs hd.2.tblk) hc⟩⟩) t h

theorem TmNew.far {S : Nat → Prop} {w w' : World} {B B' : Nat} {t : Tm} {v : Value} (h : TmNew w B t v) (hb : But S w w') (hS : ∀ k, S k → k < B ∨ ¬ TBlk w k) (hB : B' ≤ B) : TmNew w' B' t v :=
  TmIn.keeps (fun k _ hk hd => have hn : ¬ S k := fun hs => (hS _ hs).elim (fun hl => by have := hd.1; omega) (fun hn => hn hd.2.tblk)
    ⟨hb.heap hn hk, Nat.le_trans hB hd.1, let ⟨c, hc⟩ := hd.2; ⟨c, hb.heap hn hc⟩⟩) t h

theorem TBlk.but {S : Nat → Prop} {w w' : World} {k : Nat} (h : TBlk w k) (hb : But S w w') (hS : ¬ S k) : TBlk w' k := let ⟨c, f, hc⟩ := h; ⟨c, f, hb.heap hS hc⟩

theorem Off.back {w w' : World} {B i : Nat} (h : Off B w' i) (hb : But Nil w w') : Off B w i ∨ w.heap.size ≤ i := .inl ⟨h.1, fun ht => h.2 (ht.but hb id)⟩

/-- What a row keeps its kind. -/
theorem But.off_back {S : Nat → Prop} {w w' : World} {B i : Nat} (hb : But S w w') (hS : ∀ k, S k → ¬ TBlk w k) (h : Off B w' i) : Off B w i := ⟨h.1, fun ht => h.2 (ht.but hb (fun hs => hS _ hs ht))⟩

theorem TmIn.lt {w : World} {D : Nat → Prop} {t : Tm} {v : Value} (h : TmIn w D t v) : TmIn w (fun b => b < w.heap.size) t v :=
  TmIn.keeps (fun k o hk hd => ⟨hk, lt_of_heap hk⟩) t h

/-- A term that came in, or that a call gave back, in a later world. -/
theorem TmAt.nil {w w' : World} {t : Tm} {v : Value} (h : TmAt w w.heap.size t v) (hb : But Nil w w') : TmAt w' w'.heap.size t v := TmAt.keeps hb.size hb.keeps_nil t h

/-- The block of a term. -/
abbrev TB (t : Tm) (A : Option Addr) (cap : Nat) : Obj := .cells #[.int .i64 t.kind, .int .i64 t.num, .string t.name, .slice A t.args.length cap] 24

end Go.Proofs.Ytloekfnlidclcaa

namespace Go.Proofs.Ytloekfnlidclcaa
open Go.RowKit
set_option linter.unusedVariables false

def KT : TypeId := match tyOf 24 with
  | some (.st k) => k
  | _ => 0
abbrev TT : Ty := .st KT
abbrev TTs : Ty := .row 24
theorem ty_term : tyOf 24 = some TT := rfl
theorem fld_term : flds KT = some [.int .i64, .int .i64, .str, TTs] := rfl
theorem w_term : TT.w = 4 := rfl

mutual
def encT : Tm → D
  | .mk k n s l => .a [.i k, .i n, .s s, .r (encL l)]
def encL : List Tm → List D
  | [] => []
  | t :: l => encT t :: encL l
end
theorem encL_map : ∀ l, encL l = l.map encT
  | [] => rfl
  | t :: l => by simp [encL, encL_map l]
theorem encL_len (l : List Tm) : (encL l).length = l.length := by rw [encL_map]; simp

mutual
def decT : D → Tm
  | .a [.i k, .i n, .s s, .r l] => .mk k n s (decL l)
  | _ => .mk 0 0 ⟨#[]⟩ []
def decL : List D → List Tm
  | [] => []
  | d :: l => decT d :: decL l
end

mutual
theorem dec_enc : ∀ t, decT (encT t) = t
  | .mk k n s l => by simp only [encT, decT, decL_encL l]
theorem decL_encL : ∀ l, decL (encL l) = l
  | [] => rfl
  | t :: l => by simp only [encL, decL, dec_enc t, decL_encL l]
end
theorem encT_inj {t u : Tm} (h : encT t = encT u) : t = u := by rw [← dec_enc t, h, dec_enc u]

theorem rng_i64 {n : Int} : rngB .i64 n = true ↔ wf64 n := by
  simp [rngB, wf64]

section
variable {w : World} {F : Nat → Prop}

theorem tm_of (d : D) : (∀ cs, Rd w F d TT cs → ∃ t, d = encT t ∧ TmIn w F t (.agg cs.toArray)) ∧
    (∀ cs, Rd w F d TTs cs → ∃ ts A cap, d = .r (encL ts) ∧ cs = [.slice A ts.length cap] ∧ ts.length ≤ cap ∧ ts.length ≤ 140737488351232 ∧ cap ≤ maxLen ∧ ArgsIn w F ts A 0) := by
  induction d using D.ind with
  | hu => exact ⟨fun cs h => h.elim, fun cs h => h.elim⟩
  | hi n => exact ⟨fun cs ⟨k, e, _⟩ => (by cases e), fun cs ⟨k, e, _⟩ => (by cases e)⟩
  | hb x => exact ⟨fun cs ⟨e, _⟩ => (by cases e), fun cs ⟨e, _⟩ => (by cases e)⟩
  | hs x => exact ⟨fun cs ⟨e, _⟩ => (by cases e), fun cs ⟨e, _⟩ => (by cases e)⟩
  | ha l ih =>
    refine ⟨fun cs h => ?_, fun cs ⟨T, fs, e, _⟩ => (by cases e)⟩
    obtain ⟨T, fs, e, hf, h⟩ := h
    injection e with e
    subst e
    rw [fld_term] at hf
    injection hf with hf
    subst hf
    match l, ih, h with
    | [d0, d1, d2, d3], ih, h =>
      obtain ⟨t0, r0, c0, q0, e0, rfl, h0, t1, r1, c1, q1, e1, rfl, h1, t2, r2, c2, q2, e2, rfl, h2, t3, r3, c3, q3, e3, rfl, h3, e4, rfl⟩ := h
      injection e0 with a0 b0; subst a0; subst b0
      injection e1 with a1 b1; subst a1; subst b1
      injection e2 with a2 b2; subst a2; subst b2
      injection e3 with a3 b3; subst a3; subst b3
      obtain ⟨ts, A, cap, rfl, rfl, p1, p2, p3, p4⟩ := (ih d3 (by simp)).2 _ h3
      cases d0 with
      | i k =>
        obtain ⟨k', ek, rfl, rk⟩ := h0
        injection ek with ek; subst ek
        cases d1 with
        | i n =>
          obtain ⟨k', ek, rfl, rn⟩ := h1
          injection ek with ek; subst ek
          cases d2 with
          | s s =>
            obtain ⟨-, rfl, hs⟩ := h2
            refine ⟨.mk k n s ts, by simp [encT], ?_⟩
            unfold TmIn
            exact ⟨A, ts.length, cap, rfl, rng_i64.1 rk, rng_i64.1 rn, hs, rfl, p1, p2, p3, p4⟩
          | u => exact h2.elim
          | i n => obtain ⟨_, e, _⟩ := h2; cases e
          | b n => cases h2.1
          | a n => obtain ⟨_, _, e, _⟩ := h2; cases e
          | r n => obtain ⟨_, _, _, _, e, _⟩ := h2; cases e
        | u => exact h1.elim
        | s n => cases h1.1
        | b n => cases h1.1
        | a n => obtain ⟨_, _, e, _⟩ := h1; cases e
        | r n => obtain ⟨_, _, _, _, e, _⟩ := h1; cases e
      | u => exact h0.elim
      | s n => cases h0.1
      | b n => cases h0.1
      | a n => obtain ⟨_, _, e, _⟩ := h0; cases e
      | r n => obtain ⟨_, _, _, _, e, _⟩ := h0; cases e
    | [], _, h => cases h.1
    | [_], _, ⟨_, _, _, _, e0, _, _, h⟩ => rw [h.1] at e0; cases e0
    | [_, _], _, ⟨_, _, _, _, e0, _, _, _, _, _, _, e1, _, _, h⟩ => rw [e1, h.1] at e0; cases e0
    | [_, _, _], _, ⟨_, _, _, _, e0, _, _, _, _, _, _, e1, _, _, _, _, _, _, e2, _, _, h⟩ => rw [e1, e2, h.1] at e0; cases e0
    | _ :: _ :: _ :: _ :: _ :: _, _, ⟨_, _, _, _, e0, _, _, _, _, _, _, e1, _, _, _, _, _, _, e2, _, _, _, _, _, _, e3, _, _, _, _, _, _, e4, _⟩ => rw [e1, e2, e3, e4] at e0; cases e0
  | hr l ih =>
    refine ⟨fun cs ⟨E, te, A, cap, e, _⟩ => (by cases e), fun cs h => ?_⟩
    obtain ⟨E, te, A, cap, e, hte, rfl, h1, h2, h3, h4⟩ := h
    injection e with e
    subst e
    rw [ty_term] at hte
    injection hte with hte
    subst hte
    rw [rdE_iff] at h4
    have each : ∀ i (hi : i < l.length), ∃ t, l[i] = encT t ∧ ArgIn w F t A i := fun i hi => by
      obtain ⟨b, o, cs, rfl, hb, hr, hd⟩ := h4 i hi
      obtain ⟨t, e, ht⟩ := (ih _ (List.getElem_mem hi)).1 cs hd
      have hl := (Rd.len _ hd).1
      rw [w_term] at hl hr
      match cs, hl with
      | [c0, c1, c2, c3], _ =>
        refine ⟨t, e, b, o, c0, c1, c2, c3, rfl, hb, ?_, ?_, ?_, ?_, ht⟩
        · simpa using hr 0 c0 rfl
        · simpa using hr 1 c1 rfl
        · simpa using hr 2 c2 rfl
        · simpa using hr 3 c3 rfl
    have pick : ∀ n, n ≤ l.length → ∃ ts : List Tm, ts.length = n ∧ l.take n = encL ts ∧ ∀ i (h : i < ts.length), ArgIn w F ts[i] A i := by
      intro n
      induction n with
      | zero => exact fun _ => ⟨[], rfl, rfl, fun i hi => by simp at hi⟩
      | succ n ihn =>
        intro hn
        obtain ⟨ts, hl1, hl2, hl3⟩ := ihn (by omega)
        obtain ⟨t, e, ht⟩ := each n (by omega)
        refine ⟨ts ++ [t], by simp [hl1], ?_, fun i hi => ?_⟩
        · rw [List.take_add_one, List.getElem?_eq_getElem (by omega), hl2, e, encL_map, encL_map]
          simp
        · by_cases hin : i < ts.length
          · rw [List.getElem_append_left hin]; exact hl3 i hin
          · obtain rfl : i = ts.length := by simp at hi; omega
            rw [List.getElem_append_right (by omega)]
            simp [hl1]
            exact ht
    obtain ⟨ts, hl1, hl2, hl3⟩ := pick l.length (Nat.le_refl _)
    rw [List.take_length] at hl2
    exact ⟨ts, A, cap, by rw [hl2], by rw [hl1], by omega, by unfold LIM at h2; omega, h3, argsIn_iff.2 fun j hj => by rw [Nat.zero_add]; exact hl3 j hj⟩

theorem rd_of (t : Tm) : ∀ cs : List Value, TmIn w F t (.agg cs.toArray) → Rd w F (encT t) TT cs := by
  induction t using Tm.ind with
  | h k n s l ih =>
    intro cs h
    unfold TmIn at h
    obtain ⟨A, len, cap, e, h1, h2, h3, rfl, h5, h6, h7, h8⟩ := h
    obtain rfl : cs = [.int .i64 k, .int .i64 n, .string s, .slice A l.length cap] := by
      injection e with e
      simpa using congrArg Array.toList e
    unfold encT
    refine ⟨KT, _, rfl, fld_term, .int .i64, _, [.int .i64 k], _, rfl, rfl, ⟨_, rfl, rfl, rng_i64.2 h1⟩, .int .i64, _, [.int .i64 n], _, rfl, rfl, ⟨_, rfl, rfl, rng_i64.2 h2⟩, .str, _, [.string s], _, rfl, rfl, ⟨rfl, rfl, h3⟩, TTs, [], [.slice A l.length cap], [], rfl, rfl, ?_, rfl, rfl⟩
    refine ⟨24, TT, A, cap, rfl, ty_term, by rw [encL_len], by rw [encL_len]; exact h5, by rw [encL_len]; unfold LIM; omega, h7, rdE_iff.2 fun j hj => ?_⟩
    rw [encL_len] at hj
    obtain ⟨b, o, c0, c1, c2, c3, rfl, hb, e0, e1, e2, e3, ht⟩ := argsIn_iff.1 h8 j hj
    refine ⟨b, o, [c0, c1, c2, c3], rfl, hb, fun m v hm => ?_, ?_⟩
    · rw [w_term, Nat.zero_add]
      rw [Nat.zero_add] at e0 e1 e2 e3
      match m, hm with
      | 0, hm => simp at hm; subst hm; simpa using e0
      | 1, hm => simp at hm; subst hm; simpa using e1
      | 2, hm => simp at hm; subst hm; simpa using e2
      | 3, hm => simp at hm; subst hm; simpa using e3
      | m + 4, hm => simp at hm
    · have : (encL l)[j]'(by rw [encL_len]; exact hj) = encT l[j] := by simp [encL_map]
      rw [this]
      exact ih _ (List.getElem_mem hj) _ ht

theorem rds_of {l : List Tm} {A : Option Addr} {cap : Nat} (h5 : l.length ≤ cap) (h6 : l.length ≤ 140737488351232) (h7 : cap ≤ maxLen) (h8 : ArgsIn w F l A 0) : Rd w F (.r (encL l)) TTs [.slice A l.length cap] := by
  refine ⟨24, TT, A, cap, rfl, ty_term, by rw [encL_len], by rw [encL_len]; exact h5, by rw [encL_len]; unfold LIM; omega, h7, rdE_iff.2 fun j hj => ?_⟩
  rw [encL_len] at hj
  obtain ⟨b, o, c0, c1, c2, c3, rfl, hb, e0, e1, e2, e3, ht⟩ := argsIn_iff.1 h8 j hj
  refine ⟨b, o, [c0, c1, c2, c3], rfl, hb, fun m v hm => ?_, ?_⟩
  · rw [w_term, Nat.zero_add]
    rw [Nat.zero_add] at e0 e1 e2 e3
    match m, hm with
    | 0, hm => simp at hm; subst hm; simpa using e0
    | 1, hm => simp at hm; subst hm; simpa using e1
    | 2, hm => simp at hm; subst hm; simpa using e2
    | 3, hm => simp at hm; subst hm; simpa using e3
    | m + 4, hm => simp at hm
  · have : (encL l)[j]'(by rw [encL_len]; exact hj) = encT l[j] := by simp [encL_map]
    rw [this]
    exact rd_of _ _ ht

/-- A term's value. -/
theorem pack_tm {t : Tm} {v : Value} (h : TmIn w F t v) : ∃ cs, Pack TT cs v ∧ Rd w F (encT t) TT cs := by
  obtain ⟨A, cap, e, -⟩ := h.form
  subst e
  exact ⟨[_, _, _, _], rfl, rd_of t _ h⟩
end

/-- Data of the type is a term's. -/
theorem wf_term {d : D} (h : Wf d TT) : ∃ t, d = encT t := by
  obtain ⟨w, F, cs, h⟩ := h
  obtain ⟨t, e, -⟩ := (tm_of d).1 cs h
  exact ⟨t, e⟩
theorem wf_terms {d : D} (h : Wf d TTs) : ∃ ts, d = .r (encL ts) ∧ ts.length ≤ LIM := by
  obtain ⟨w, F, cs, h⟩ := h
  obtain ⟨ts, A, cap, e, -, -, h2, -⟩ := (tm_of d).2 cs h
  exact ⟨ts, e, by unfold LIM; omega⟩

/-! ### Contracts of functions that change nothing -/
def ArgV (w : World) (F : Nat → Prop) : List Ar → List Value → List D → Prop
  | [], vs, ds => vs = [] ∧ ds = []
  | .val t :: l, vs, ds => ∃ v r d ds', vs = v :: r ∧ ds = d :: ds' ∧ (∃ cs, Pack t cs v ∧ Rd w F d t cs) ∧ ArgV w F l r ds'
  | _ :: _, _, _ => False
def ResV (w : World) (F : Nat → Prop) : List (Ty × Bool) → List Value → List D → Prop
  | [], vs, ds => vs = []
  | (t, own) :: l, vs, ds => own = false ∧ ∃ v r d ds', vs = v :: r ∧ ds = d :: ds' ∧ (∃ cs, Pack t cs v ∧ Rd w F d t cs) ∧ ResV w F l r ds'

theorem fok_still {ct : Ct} {g : List D → Option (List D)} (hen : ∀ args w, (callFunc ct.f args).run Try.prog w = .ok (.enter ct.f args) w) (hv : ∀ x ∈ ct.ar, ∃ t, x = .val t)
    (h : ∀ (F : Nat → Prop) w vs ds outs, g ds = some outs → ArgV w F ct.ar vs ds → Calls Try.prog ct.f vs.toArray w fun e w' => ∃ rs, e = .returned (retV rs) ∧ But Nil w w' ∧ ResV w' (fun b => F b ∨ w.heap.size ≤ b) ct.rs rs outs ∧ outs.length = ct.rs.length) : FOk ct g := by
  refine ⟨hen, fun A p w vs ds outs hg hpre hargs => ?_⟩
  have ha : ArgV w (FFD A p []) ct.ar vs ds := by
    have key : ∀ {ar : List Ar} {i : Nat} {vs : List Value} {ds : List D}, (∀ x ∈ ar, ∃ t, x = Ar.val t) → ArgsOk A p w ar i vs ds → ArgV w (FFD A p []) ar vs ds := by
      intro ar
      induction ar with
      | nil => intro i vs ds _ h; exact h
      | cons x l ih =>
        intro i vs ds hx h
        obtain ⟨t, rfl⟩ := hx x (by simp)
        obtain ⟨v, r, d, ds', e1, e2, h1, h2⟩ := h
        exact ⟨v, r, d, ds', e1, e2, h1, ih (fun y hy => hx y (by simp [hy])) h2⟩
    exact key hv hargs
  refine (h _ w vs ds outs hg ha).mono ?_
  rintro e w' ⟨rs, rfl, hb, hr, hlen⟩
  refine ⟨rs, p, rfl, ⟨hpre.inj, fun x b hx => Nat.lt_of_lt_of_le (hpre.bd x b hx) hb.size, hb.of_nil, fun x b hx => .inl ⟨x, hx⟩, hpre.new, hpre.pa, fun x b hx => ?_⟩, ?_, ?_⟩
  · obtain ⟨cs, T, ho⟩ := hpre.obj x b hx
    exact ⟨cs, T, hb.heap id ho⟩
  · rw [← hlen, List.take_length]
    have key : ∀ {rs : List (Ty × Bool)} {k : Nat} {vs : List Value} {ds : List D}, ResV w' (fun b => FFD A p [] b ∨ w.heap.size ≤ b) rs vs ds → ResL A p w' rs k vs ds := by
      intro rs
      induction rs with
      | nil => intro k vs ds h; exact h
      | cons x l ih =>
        obtain ⟨t, own⟩ := x
        rintro k vs ds ⟨rfl, v, r, d, ds', e1, e2, ⟨cs, hp, hr⟩, h2⟩
        refine ⟨v, r, d, ds', e1, e2, ⟨cs, hp, Con.of_rd (Rd.mono (fun b _ hb => ?_) hr)⟩, ih h2⟩
        rcases hb with hb | hb
        · exact hb
        · exact .inl ⟨hpre.new b hb, fun x hx => by have := hpre.bd x b hx; omega⟩
    exact key hr
  · have key : ∀ {ar : List Ar} {i : Nat}, (∀ x ∈ ar, ∃ t, x = Ar.val t) → RefL A p p w' ar i [] := by
      intro ar
      induction ar with
      | nil => intro i _; rfl
      | cons x l ih =>
        intro i hx
        obtain ⟨t, rfl⟩ := hx x (by simp)
        exact ih fun y hy => hx y (by simp [hy])
    rw [← hlen, List.drop_length]
    exact key hv
end Go.Proofs.Ytloekfnlidclcaa

namespace Go.Proofs.Ytloekfnlidclcaa
open Go.RowKit
set_option linter.unusedVariables false

/-- What is known of a value: it hangs on the pins (the new variables' blocks, by slot) and on the world. -/
abbrev Pd := (Nat → Option Nat) → World → Value → Prop

structure Ext (p : Nat → Option Nat) (w : World) (p' : Nat → Option Nat) (w' : World) : Prop where
  but : But Nil w w'
  pin : ∀ b, b < w.heap.size → p' b = p b

theorem Ext.refl (p : Nat → Option Nat) (w : World) : Ext p w p w := ⟨But.refl _ _, fun _ _ => rfl⟩
theorem Ext.trans {p p' p'' : Nat → Option Nat} {w w' w'' : World} (h : Ext p w p' w') (k : Ext p' w' p'' w'') : Ext p w p'' w'' :=
  ⟨h.but.trans_nil k.but, fun b hb => (k.pin b (Nat.lt_of_lt_of_le hb h.but.size)).trans (h.pin b hb)⟩

def Kept (f : Pd) : Prop := ∀ p w p' w' v, Ext p w p' w' → f p w v → f p' w' v

def opTmps (o : Oper) : List Tmp := o.op.operands.toList.filterMap fun | .tmp t => some t | _ => none

/-- What an operation leaves. -/
def Leaves (f : Pd) (o : Oper) (a : Act) (p : Nat → Option Nat) (w : World) (a' : Act) (w' : World) : Prop :=
  ∃ v p', a' = a.put o.dst v ∧ Ext p w p' w' ∧ f p' w' v

/-- An operation runs well wherever its operands' facts hold. -/
def Runs (P : Program) (Q : Exit → Act → World → Prop) (F : Tmp → Pd) (o : Oper) (f : Pd) : Prop :=
  ∀ (a : Act) (p : Nat → Option Nat) (w : World), (∀ t ∈ opTmps o, ∃ v, a.tmps[t]? = some v ∧ F t p w v) → o.wp P a w (Leaves f o a p w) Q

def OpOk (P : Program) (Q : Exit → Act → World → Prop) (ops : List Oper) (F : Tmp → Pd) (o : Oper) : Prop :=
  ∃ t, o.dst = some t ∧ match o.guard with
  | none => Runs P Q F o (F t)
  | some (g, b) => ∃ og tg, ops[g]? = some og ∧ og.dst = some tg ∧ ((∃ c, (∀ p w v, F tg p w v → v = .bool c) ∧ if c = b then Runs P Q F o (F t) else ∀ p w, F t p w undef) ∨ ((∀ p w v, F tg p w v → v = undef) ∧ ∀ p w, F t p w undef))

def readsB (ds : List (Option Tmp)) (n : Nat) (K : List Tmp) (after : Array Edge) (t : Tmp) : Bool :=
  K.contains t || after.any fun e => Region.binds .any e && decide (e.on < n) && ((ds[e.on]?).join == some t)

def opB (ds : List (Option Tmp)) (n T : Nat) (K : List Tmp) (i : Nat) (o : Oper) : Bool :=
  o.after.all (fun e => !Region.binds .any e || decide (e.on < i)) &&
  (match o.dst with
   | some t => decide (t < T) && !K.contains t && (ds.take i).all (· != some t)
   | none => false) &&
  (opTmps o).all (readsB ds n K o.after) &&
  (match o.guard with
   | none => true
   | some (g, _) => match (ds[g]?).join with
     | some t => readsB ds n K o.after t
     | none => false)

def opsB (ds : List (Option Tmp)) (n T : Nat) (K : List Tmp) : Nat → List Oper → Bool
  | _, [] => true
  | i, o :: l => opB ds n T K i o && opsB ds n T K (i + 1) l

def listedN (n m : Nat) : Array Bool := (List.replicate n true ++ List.replicate (m - n) false).toArray

def rgB (l : List Oper) (n T : Nat) (K : List Tmp) : Bool :=
  decide (n ≤ l.length) && opsB (l.map (·.dst)) n T K 0 (l.take n) &&
  (decide (n = l.length) || (Region.sinkB .any l.toArray n && Region.chainB .any l.toArray n)) && Region.seqB .any l.toArray (l.length - n) n (listedN n l.length)

section
variable {P : Program} {Q : Exit → Act → World → Prop}

theorem opsB_get {ds : List (Option Tmp)} {n T : Nat} {K : List Tmp} : ∀ {l : List Oper} {k i : Nat} {o : Oper}, opsB ds n T K k l = true → l[i]? = some o → opB ds n T K (k + i) o = true
  | [], _, _, _, _, h => by simp at h
  | o' :: l, k, 0, o, hB, h => by
    simp only [opsB, Bool.and_eq_true] at hB
    simp at h
    rw [← h]
    exact hB.1
  | o' :: l, k, i + 1, o, hB, h => by
    simp only [opsB, Bool.and_eq_true] at hB
    have := opsB_get hB.2 (by simpa using h) (i := i)
    rwa [show k + 1 + i = k + (i + 1) by omega] at this

theorem wpAny_more {md : Region.Mode} {ops : Array Oper} : ∀ (f : Nat) (listed : Array Bool) (a : Act) (w : World), wpAny P md ops Q f listed a w → wpAny P md ops Q (f + 1) listed a w
  | 0, listed, a, w, h => ⟨fun _ => h.2, fun i hi => by rw [h.1] at hi; cases hi⟩
  | f + 1, listed, a, w, h => ⟨h.1, fun i hi => wpOp_mono (fun a' w' h' => wpAny_more f _ a' w' h') (h.2 i hi)⟩

theorem wpAny_ge {md : Region.Mode} {ops : Array Oper} {f g : Nat} {listed : Array Bool} {a : Act} {w : World} (hfg : f ≤ g) (h : wpAny P md ops Q f listed a w) : wpAny P md ops Q g listed a w := by
  obtain ⟨d, rfl⟩ := Nat.le.dest hfg
  clear hfg
  induction d with
  | zero => exact h
  | succ d ih => exact wpAny_more _ _ _ _ ih

def cnt (n : Nat) (listed : Array Bool) : Nat := (List.range n).countP fun i => listed.getD i true == false

theorem countP_lt {p q : Nat → Bool} {x : Nat} : ∀ {l : List Nat}, (∀ y ∈ l, q y = true → p y = true) → x ∈ l → p x = true → q x = false → l.countP q < l.countP p
  | [], _, hx, _, _ => by cases hx
  | y :: l, h, hx, hp, hq => by
    have hle : l.countP q ≤ l.countP p := List.countP_mono_left fun z hz => h z (List.mem_cons_of_mem _ hz)
    rw [List.countP_cons, List.countP_cons]
    by_cases hyx : y = x
    · subst hyx
      simp only [hp, hq, if_true]
      simp
      omega
    · have hx' : x ∈ l := by
        rcases List.mem_cons.1 hx with h1 | h1
        · exact absurd h1.symm hyx
        · exact h1
      have := countP_lt (fun z hz => h z (List.mem_cons_of_mem _ hz)) hx' hp hq
      have hy := h y (List.mem_cons_self)
      by_cases h1 : q y = true
      · simp only [h1, hy h1, if_true]; omega
      · rw [if_neg h1]; split <;> omega

theorem cnt_set {n i : Nat} {listed : Array Bool} (hi : i < n) (hu : listed.getD i true = false) : cnt n (listed.setIfInBounds i true) < cnt n listed := by
  refine countP_lt (x := i) (fun y hy h => ?_) (List.mem_range.2 hi) (by simp only [hu]; rfl) ?_
  · by_cases hyi : i = y
    · subst hyi
      simp only [hu]; rfl
    · rw [getD_set_ne true hyi] at h; exact h
  · have hlt : i < listed.size := by
      rcases Nat.lt_or_ge i listed.size with h | h
      · exact h
      · simp [Array.getElem?_eq_none h] at hu
    simp [hlt]

theorem cnt_zero {n : Nat} {listed : Array Bool} (h : cnt n listed = 0) : ∀ i, i < n → listed.getD i true = true := fun i hi => by
  have := List.countP_eq_zero.1 h i (List.mem_range.2 hi)
  simpa using this

structure FInv (l : List Oper) (n : Nat) (K : List Tmp) (F : Tmp → Pd) (a0 : Act) (p0 : Nat → Option Nat) (w0 : World) (listed : Array Bool) (a : Act) (p : Nat → Option Nat) (w : World) : Prop where
  head : HeadInv .any l.toArray n listed
  ext : Ext p0 w0 p w
  dfr : a.defers = a0.defers
  size : a.tmps.size = a0.tmps.size
  rest : ∀ t, (∀ i o, i < n → l[i]? = some o → o.dst ≠ some t) → a.tmps[t]? = a0.tmps[t]?
  old : ∀ t ∈ K, ∃ v, a.tmps[t]? = some v ∧ F t p w v
  new : ∀ i o t, i < n → l[i]? = some o → o.dst = some t → listed.getD i false = true → ∃ v, a.tmps[t]? = some v ∧ F t p w v

theorem FInv.reads {l : List Oper} {n : Nat} {K : List Tmp} {F : Tmp → Pd} {a0 a : Act} {w0 w : World} {listed : Array Bool} {p0 p : Nat → Option Nat} (h : FInv l n K F a0 p0 w0 listed a p w) {after : Array Edge} {t : Tmp}
    (hB : readsB (l.map (·.dst)) n K after t = true) (hl : ∀ e ∈ after, Region.binds .any e = true → listed.getD e.on false = true) : ∃ v, a.tmps[t]? = some v ∧ F t p w v := by
  unfold readsB at hB
  rcases Bool.or_eq_true_iff.1 hB with h1 | h1
  · exact h.old t (by simpa using h1)
  · obtain ⟨e, he, h2⟩ := Array.any_eq_true'.1 h1
    simp only [Bool.and_eq_true, decide_eq_true_eq, beq_iff_eq] at h2
    obtain ⟨⟨hb, hn⟩, hd⟩ := h2
    rw [List.getElem?_map] at hd
    cases ho : l[e.on]? with
    | none => rw [ho] at hd; cases hd
    | some o =>
      rw [ho] at hd
      exact h.new e.on o t hn ho (by simpa using hd) (hl e he hb)

theorem FInv.step {l : List Oper} {n T : Nat} {K : List Tmp} {F : Tmp → Pd} {a0 a : Act} {w0 w : World} {listed : Array Bool} {p0 p : Nat → Option Nat} (hF : ∀ t, Kept (F t)) (hT : T ≤ a0.tmps.size) (hB : opsB (l.map (·.dst)) n T K 0 (l.take n) = true)
    (h : FInv l n K F a0 p0 w0 listed a p w) {i : Nat} {o : Oper} (hin : i < n) (ho : l[i]? = some o) (hr : i ∈ Region.ready .any l.toArray listed) {t : Tmp} (hd : o.dst = some t) {v : Value} {p' : Nat → Option Nat} {w' : World} (hx : Ext p w p' w') (hv : F t p' w' v) :
    FInv l n K F a0 p0 w0 (listed.setIfInBounds i true) (a.put o.dst v) p' w' := by
  have hget : ∀ j oj, j < n → l[j]? = some oj → opB (l.map (·.dst)) n T K j oj = true := fun j oj hj hoj => by
    have := opsB_get hB (i := j) (o := oj) (by rw [List.getElem?_take_of_lt hj]; exact hoj)
    rwa [Nat.zero_add] at this
  have hdst : ∀ j oj tj, j < n → l[j]? = some oj → oj.dst = some tj → tj < T ∧ tj ∉ K ∧ ∀ k, k < j → (l[k]?).bind (·.dst) ≠ some tj := fun j oj tj hj hoj hdj => by
    have := hget j oj hj hoj
    unfold opB at this
    simp only [hdj, Bool.and_eq_true, decide_eq_true_eq, Bool.not_eq_true', List.all_eq_true] at this
    obtain ⟨⟨⟨_, ⟨h1, h2⟩, h3⟩, _⟩, _⟩ := this
    refine ⟨h1, by simpa using h2, fun k hk he => ?_⟩
    have hkl : k < l.length := by
      rcases Nat.lt_or_ge k l.length with h' | h'
      · exact h'
      · rw [List.getElem?_eq_none h'] at he; cases he
    have hm : (l[k]).dst ∈ List.take j (l.map (·.dst)) := by
      rw [List.mem_take_iff_getElem]
      exact ⟨k, by simp; omega, by simp⟩
    have h5 := h3 _ hm
    rw [List.getElem?_eq_getElem hkl] at he
    simp at he h5
    exact h5 he
  obtain ⟨ht1, ht2, ht3⟩ := hdst i o t hin ho hd
  have hne : ∀ j oj tj, j < n → l[j]? = some oj → oj.dst = some tj → j ≠ i → tj ≠ t := fun j oj tj hj hoj hdj hji he => by
    subst he
    rcases Nat.lt_or_gt_of_ne hji with h1 | h1
    · exact ht3 j h1 (by rw [hoj]; exact hdj)
    · exact (hdst j oj tj hj hoj hdj).2.2 i h1 (by rw [ho]; exact hd)
  have hput : ∀ s, s ≠ t → (a.put o.dst v).tmps[s]? = a.tmps[s]? := fun s hs => by
    rw [hd]
    exact Array.getElem?_setIfInBounds_ne (Ne.symm hs)
  have hself : (a.put o.dst v).tmps[t]? = some v := by
    rw [hd]
    exact Array.getElem?_setIfInBounds_self_of_lt (by rw [h.size]; exact Nat.lt_of_lt_of_le ht1 hT)
  refine ⟨h.head.set hr hin, h.ext.trans hx, ?_, ?_, fun s hs => ?_, fun s hs => ?_, fun j oj tj hj hoj hdj hl => ?_⟩
  · rw [hd]; exact h.dfr
  · rw [hd]; simp only [Act.put, Array.size_setIfInBounds]; exact h.size
  · rw [hput s (fun e => hs i o hin ho (by rw [hd, e]))]
    exact h.rest s hs
  · obtain ⟨u, h1, h2⟩ := h.old s hs
    exact ⟨u, by rw [hput s (fun e => ht2 (e ▸ hs))]; exact h1, hF s _ _ _ _ _ hx h2⟩
  · by_cases hji : j = i
    · subst hji
      obtain rfl : oj = o := Option.some.inj (hoj.symm.trans ho)
      obtain rfl : tj = t := Option.some.inj (hdj.symm.trans hd)
      exact ⟨v, hself, hv⟩
    · rw [getD_set_ne false (Ne.symm hji)] at hl
      obtain ⟨u, h1, h2⟩ := h.new j oj tj hj hoj hdj hl
      exact ⟨u, by rw [hput tj (hne j oj tj hj hoj hdj hji)]; exact h1, hF tj _ _ _ _ _ hx h2⟩

theorem wpAny_facts {l : List Oper} {a0 : Act} {p0 : Nat → Option Nat} {w0 : World} (n T : Nat) (K : List Tmp) (F : Tmp → Pd)
    (hB : rgB l n T K = true) (hT : T ≤ a0.tmps.size) (hF : ∀ t, Kept (F t)) (hops : ∀ i (o : Oper), i < n → l[i]? = some o → OpOk P Q l F o)
    (hend : ∀ a p w, Ext p0 w0 p w → a.defers = a0.defers → a.tmps.size = a0.tmps.size → (∀ t, (∀ i o, i < n → l[i]? = some o → o.dst ≠ some t) → a.tmps[t]? = a0.tmps[t]?) →
      (∀ t ∈ K, ∃ v, a.tmps[t]? = some v ∧ F t p w v) → (∀ i o t, i < n → l[i]? = some o → o.dst = some t → ∃ v, a.tmps[t]? = some v ∧ F t p w v) → wpList P l.toArray Q (l.drop n) a w) :
    ∀ (f : Nat) (listed : Array Bool) (a : Act) (p : Nat → Option Nat) (w : World), cnt n listed + (l.length - n) ≤ f → FInv l n K F a0 p0 w0 listed a p w → wpAny P .any l.toArray Q f listed a w := by
  have hB0 := hB
  unfold rgB at hB
  simp only [Bool.and_eq_true, Bool.or_eq_true, decide_eq_true_eq] at hB
  obtain ⟨⟨⟨hnl, hB1⟩, hB2⟩, hB3⟩ := hB
  have hget : ∀ j oj, j < n → l[j]? = some oj → opB (l.map (·.dst)) n T K j oj = true := fun j oj hj hoj => by
    have := opsB_get hB1 (i := j) (o := oj) (by rw [List.getElem?_take_of_lt hj]; exact hoj)
    rwa [Nat.zero_add] at this
  intro f
  induction f with
  | zero =>
    intro listed a p w hc inv
    have h0 : cnt n listed = 0 := by omega
    have hn : n = l.length := by omega
    have hall := cnt_zero h0
    have hr : Region.ready .any l.toArray listed = [] := by
      rw [List.eq_nil_iff_forall_not_mem]
      intro i hi
      obtain ⟨h1, o, ho, _⟩ := mem_ready.1 hi
      have hil : i < n := by rw [hn]; simpa using (Array.getElem?_eq_some_iff.1 ho).1
      rw [hall i hil] at h1
      cases h1
    refine ⟨hr, ?_⟩
    have := hend a p w inv.ext inv.dfr inv.size inv.rest inv.old (fun i o t hi ho hd => inv.new i o t hi ho hd (by
      have h1 := hall i hi
      have hs : i < listed.size := by rw [inv.head.size]; simp; omega
      simpa [hs] using h1))
    rwa [List.drop_eq_nil_of_le (by omega)] at this
  | succ f ih =>
    intro listed a p w hc inv
    by_cases h0 : cnt n listed = 0
    · have hall := cnt_zero h0
      have hall' : ∀ i, i < n → listed.getD i false = true := fun i hi => by
        have h1 := hall i hi
        have hs : i < listed.size := by rw [inv.head.size]; simp; omega
        simpa [hs] using h1
      have hlist : listed = listedN n l.length := by
        apply Array.ext_getElem?
        intro i
        have hsz := inv.head.size
        simp only [List.size_toArray] at hsz
        unfold listedN
        simp only [List.getElem?_toArray]
        by_cases hi : i < n
        · rw [List.getElem?_append_left (by simpa using hi), List.getElem?_replicate, if_pos hi]
          have := hall i hi
          have hs : i < listed.size := by omega
          simp [hs] at this
          simp [hs, this]
        · rw [List.getElem?_append_right (by simp; omega), List.getElem?_replicate]
          by_cases hil : i < l.length
          · have := inv.head.tail i (by omega) (by simpa using hil)
            have hs : i < listed.size := by omega
            simp [hs] at this
            rw [if_pos (by simp; omega)]
            simp [hs, this]
          · rw [if_neg (by simp; omega), Array.getElem?_eq_none (by omega)]
      have hwl := hend a p w inv.ext inv.dfr inv.size inv.rest inv.old (fun i o t hi ho hd => inv.new i o t hi ho hd (hall' i hi))
      refine wpAny_ge (f := (l.drop n).length) (by simp; omega) (wpAny_of_seq (l.drop n) n listed a w (fun j => by simp [List.getElem?_drop]) ?_ hwl)
      rw [hlist, List.length_drop]
      exact hB3
    · have hex : ∃ i, i < n ∧ listed.getD i true = false := by
        rcases Classical.em (∃ i, i < n ∧ listed.getD i true = false) with h | h
        · exact h
        · refine absurd (List.countP_eq_zero.2 fun i hi => ?_) h0
          cases hv : listed.getD i true with
          | true => simp
          | false => exact absurd ⟨i, List.mem_range.1 hi, hv⟩ h
      have hprog : ∀ i, i < n → listed.getD i true = false → ∃ j, j ∈ Region.ready .any l.toArray listed := by
        intro i
        induction i using Nat.strongRecOn with
        | _ i ihi =>
          intro hi hu
          rcases Classical.em (∃ j, j < i ∧ listed.getD j true = false) with ⟨j, hj, hju⟩ | hno
          · exact ihi j hj (by omega) hju
          · have hil : i < l.length := by omega
            refine ⟨i, mem_ready.2 ⟨hu, l[i], by simp [hil], fun e he hb => ?_⟩⟩
            have h1 := hget i l[i] hi (by simp [hil])
            unfold opB at h1
            simp only [Bool.and_eq_true] at h1
            have h2 := Array.all_eq_true_iff_forall_mem.1 h1.1.1.1 e he
            simp only [Bool.or_eq_true, Bool.not_eq_true', decide_eq_true_eq] at h2
            rcases h2 with h2 | h2
            · rw [hb] at h2; cases h2
            · cases hv : listed.getD e.on true with
              | true =>
                have hs : e.on < listed.size := by rw [inv.head.size]; simp; omega
                simpa [hs] using hv
              | false => exact absurd ⟨e.on, h2, hv⟩ hno
      refine ⟨fun hr => ?_, fun i hi => ?_⟩
      · obtain ⟨i, hi, hu⟩ := hex
        obtain ⟨j, hj⟩ := hprog i hi hu
        rw [hr] at hj
        cases hj
      · obtain ⟨hu, o, ho, hall⟩ := mem_ready.1 hi
        have ho' : l[i]? = some o := by simpa using ho
        have hil : i < l.length := by simpa using (Array.getElem?_eq_some_iff.1 ho).1
        have hin : i < n := by
          rcases Nat.lt_or_ge i n with h | h
          · exact h
          · rcases hB2 with h2 | h2
            · omega
            · obtain ⟨k, hk, hku⟩ := hex
              exact absurd hi (tail_waits h2.1 h2.2 (by simp; omega) inv.head _ k rfl hk hku i h)
        have h1 := hget i o hin ho'
        unfold opB at h1
        simp only [Bool.and_eq_true, List.all_eq_true] at h1
        have hreads : ∀ t ∈ opTmps o, ∃ v, a.tmps[t]? = some v ∧ F t p w v := fun t ht => inv.reads (h1.1.2 t ht) hall
        obtain ⟨t, hd, hok⟩ := hops i o hin ho'
        have hstep : ∀ v p' w', Ext p w p' w' → F t p' w' v → wpAny P .any l.toArray Q f (listed.setIfInBounds i true) (a.put o.dst v) w' := fun v p' w' hx hv =>
          ih _ _ p' w' (by have := cnt_set hin hu; omega) (inv.step hF hT hB1 hin ho' hi hd hx hv)
        have hrun : Runs P Q F o (F t) → o.wp P a w (wpAny P .any l.toArray Q f (listed.setIfInBounds i true)) Q := fun hR =>
          Oper.wp_mono (fun a' w' ⟨v, p', ha, hx, hv⟩ => by rw [ha]; exact hstep v p' w' hx hv) (hR a p w hreads)
        unfold wpOp
        simp only [ho]
        cases hg : o.guard with
        | none =>
          rw [hg] at hok
          rw [if_pos (by unfold Region.wanted; simp only [hg])]
          exact .inl (hrun hok)
        | some gb =>
          obtain ⟨g, b⟩ := gb
          rw [hg] at hok
          obtain ⟨og, tg, hog, hdg, hcases⟩ := hok
          have h3 := h1.2
          rw [hg] at h3
          simp only [List.getElem?_map, hog, Option.map_some, Option.join_some, hdg] at h3
          obtain ⟨vg, hvg, hfg⟩ := inv.reads h3 hall
          rcases hcases with ⟨c, hc', hif⟩ | ⟨hc', hif⟩
          · have hvb := hc' _ _ _ hfg
            subst hvb
            have hy : yielded l.toArray a.tmps g = some c := by
              unfold yielded
              simp [hog, hdg, hvg]
            by_cases hcb : c = b
            · rw [if_pos hcb] at hif
              rw [if_pos (by unfold Region.wanted; simp only [hg, hy, hcb]; simp)]
              exact .inl (hrun hif)
            · rw [if_neg hcb] at hif
              rw [if_neg (by unfold Region.wanted; simp only [hg, hy]; simpa using hcb)]
              exact hstep undef p w (Ext.refl _ _) (hif _ _)
          · have hvb := hc' _ _ _ hfg
            subst hvb
            have hy : yielded l.toArray a.tmps g = none := by
              unfold yielded
              simp [hog, hdg, hvg, undef]
            rw [if_neg (by unfold Region.wanted; simp only [hg, hy]; simp)]
            exact hstep undef p w (Ext.refl _ _) (hif _ _)

/-- The region, by its facts. -/
theorem wp_region_facts {id : Nat} {l : List Oper} {a0 : Act} {p0 : Nat → Option Nat} {w0 : World} (n T : Nat) (K : List Tmp) (F : Tmp → Pd) (hm : P.follows .mixedOrders = true)
    (hB : rgB l n T K = true) (hT : T ≤ a0.tmps.size) (hF : ∀ t, Kept (F t)) (h0 : ∀ t ∈ K, ∃ v, a0.tmps[t]? = some v ∧ F t p0 w0 v)
    (hops : ∀ i (o : Oper), i < n → l[i]? = some o → OpOk P Q l F o)
    (hend : ∀ a p w, Ext p0 w0 p w → a.defers = a0.defers → a.tmps.size = a0.tmps.size → (∀ t, (∀ i o, i < n → l[i]? = some o → o.dst ≠ some t) → a.tmps[t]? = a0.tmps[t]?) →
      (∀ t ∈ K, ∃ v, a.tmps[t]? = some v ∧ F t p w v) → (∀ i o t, i < n → l[i]? = some o → o.dst = some t → ∃ v, a.tmps[t]? = some v ∧ F t p w v) → wpList P l.toArray Q (l.drop n) a w) :
    (Code.region id l.toArray true).wp P Q a0 w0 := by
  have hx : Ext p0 w0 p0 w0.drew := ⟨(But.refl _ _).drew, fun _ _ => rfl⟩
  have hnl : n ≤ l.length := by
    have hB0 := hB
    unfold rgB at hB0
    simp only [Bool.and_eq_true, decide_eq_true_eq] at hB0
    exact hB0.1.1.1
  refine wp_region_any hm ?_
  refine wpAny_facts (w0 := w0.drew) (a0 := a0) n T K F hB hT hF hops (fun a p w hxx => hend a p w (hx.trans hxx)) _ _ a0 p0 w0.drew ?_ ?_
  · have : cnt n (Array.replicate l.toArray.size false) ≤ n := by
      unfold cnt
      exact Nat.le_trans List.countP_le_length (by simp)
    simp
    simp at this
    omega
  · refine ⟨⟨by simp, fun j oj _ hl => (by rw [getD_replicate_false] at hl; cases hl), fun t _ ht => getD_in (by simpa using ht) (getD_replicate_false _ _)⟩, Ext.refl _ _, rfl, rfl, fun _ _ => rfl, fun t ht => ?_, fun i o t _ _ _ hl => (by rw [getD_replicate_false] at hl; cases hl)⟩
    obtain ⟨v, h1, h2⟩ := h0 t ht
    exact ⟨v, h1, hF t _ _ _ _ _ hx h2⟩
end
end Go.Proofs.Ytloekfnlidclcaa

namespace Go.Proofs.Ytloekfnlidclcaa
open Go.RowKit
set_option linter.unusedVariables false

mutual
/-- What is left of a budget behind a term. -/
def leftT : Tm → Int → Int
  | .mk _ _ _ l, x => leftL l (x - 1)
def leftL : List Tm → Int → Int
  | [], x => x
  | t :: l, x => if 0 < x then leftL l (leftT t x) else x
end

theorem left_bd (t : Tm) : ∀ x, 0 < x → 0 ≤ leftT t x ∧ leftT t x < x := by
  induction t using Tm.ind with
  | h k n s l ih =>
    intro x hx
    have : ∀ (l : List Tm), (∀ a ∈ l, ∀ x, 0 < x → 0 ≤ leftT a x ∧ leftT a x < x) → ∀ x, 0 ≤ x → 0 ≤ leftL l x ∧ leftL l x ≤ x := by
      intro l
      induction l with
      | nil => intro _ x hx; simp [leftL]; omega
      | cons t l ihl =>
        intro h x hx
        simp only [leftL]
        split
        · have h1 := h t (by simp) x (by omega)
          have h2 := ihl (fun a ha => h a (by simp [ha])) (leftT t x) (by omega)
          omega
        · omega
    simp only [leftT]
    have := this l ih (x - 1) (by omega)
    omega

theorem leftL_drop {l : List Tm} {j : Nat} (hj : j < l.length) {y : Int} (hy : 0 < y) : leftL (l.drop j) y = leftL (l.drop (j + 1)) (leftT l[j] y) := by
  rw [List.drop_eq_getElem_cons hj]
  simp [leftL, hy]

theorem leftL_stop (l : List Tm) {y : Int} (hy : ¬ 0 < y) : leftL l y = y := by
  cases l <;> simp [leftL, hy]

set_option maxHeartbeats 400000 in
theorem size1_any (t : Tm) : ∀ (w : World) (B : Nat) (v : Value) (x : Int) (L K : Nat), TmAt w B t v → 0 < x → x ≤ 2001 → B ≤ L → ¬ TBlk w L → L ≠ K →
    w.heap[L]? = some (.cells #[.int .i64 x] 3 (0, 0)) → w.cell? ⟨K, 0, none⟩ = some (.func (.func 88) #[] #[.pointer (some ⟨L, 0, none⟩), .pointer (some ⟨K, 0, none⟩)]) →
    Calls Try.prog 88 #[v, .pointer (some ⟨L, 0, none⟩), .pointer (some ⟨K, 0, none⟩)] w fun e w' => e = .returned (.tuple #[]) ∧
      w'.heap[L]? = some (.cells #[.int .i64 (leftT t x)] 3 (0, 0)) ∧ But (· = L) w w' := by
  induction t using Tm.ind with
  | h k n s l ih =>
  intro w B v x L K hv hx hx2 hBL hLT hLK hL hK
  unfold TmAt TmIn at hv
  obtain ⟨A, len, cap, rfl, h1, h2, h3, rfl, h5, h6, -, h7⟩ := hv
  have hLc := cell_of_one hL
  have hLf := free_of_one hL
  have hLl := lt_of_heap hL
  have hKl : K < w.heap.size := lt_of_cell hK
  have IH := Lib.hid ih
  clear ih
  go_enter Try.func88, Try.ntmps88
  go_wp2_with fail
  go_loopw [4] (fun i wr => ∃ (j : Nat) (y : Int), j ≤ l.length ∧ i = .int .i64 j ∧ 0 ≤ y ∧ y ≤ 2000 ∧ wr.heap[L]? = some (.cells #[.int .i64 y] 3 (0, 0)) ∧ leftL (l.drop j) y = leftL l (x - 1) ∧ But (· = L) w wr ∧
      wr.cell? ⟨w.heap.size, 3, none⟩ = some (.slice A l.length cap)) (fun i _ => l.length - (intOf i).toNat)
  case atStart =>
    refine ⟨0, x - 1, by omega, rfl, by omega, by omega, ?_, by simp, ?_, ?_⟩
    · exact (Below.heap_alloc _ _ _ (by simpa [World.setCell] using hLl)).trans (one_setCell hL)
    · exact ((But.refl (· = L) w).setCell (p := ⟨L, 0, none⟩) (.inl rfl) _).alloc _
    · rw [show w.heap.size = (w.setCell ⟨L, 0, none⟩ (Value.int IntKind.i64 (x - 1))).heap.size from by simp [World.setCell]]
      exact cell_of_row _ _ 3 _ _ (0, 0) (heap_alloc_new _ _)
  case round =>
    obtain ⟨j, y, hj, rfl, hy0, hy2, hLr, hleft, hbut, hpar⟩ := hrel
    have hLc' := cell_of_one hLr
    have hLl' := lt_of_heap hLr
    have hKr := hbut.cell (fun e => hLK e.symm) hK
    have Hleft := Lib.hid hleft
    clear hLc hLf hL hleft
    by_cases hjl : j < l.length
    · by_cases hy : 0 < y
      · have ha := argsIn_iff.1 h7 j hjl
        obtain ⟨b, o, c0, c1, c2, c3, rfl, hb, e0, e1, e2, e3, ht⟩ := ha
        simp only [Nat.zero_add] at e0 e1 e2 e3
        have hbL : ¬ (b = L) := fun e => hb.elim (fun h => by omega) (fun h => hLT (e ▸ h))
        have g0 := hbut.cell hbL e0
        have g1 := hbut.cell hbL e1
        have g2 := hbut.cell hbL e2
        have g3 := hbut.cell hbL e3
        have HLT := Lib.hid hLT
        clear e0 e1 e2 e3 hbL hLT
        go_wp2_with fail
        go_still_tail 6, (by kernel_rfl)
        change wpList _ _ _ _ _ wr.drew
        go_wp2_with fail
        have hkp : Keeps B w wr.drew := hbut.drew.keeps fun k hk => by subst hk; exact ⟨hBL, HLT.out⟩
        have hnT : ¬ TBlk wr.drew L := by rintro ⟨c, f, h⟩; rw [show wr.drew.heap[L]? = _ from hLr] at h; cases h
        refine (IH.out _ (List.getElem_mem hjl) wr.drew B _ y L K (TmAt.keeps (Nat.le_refl _) hkp _ ht) hy (by omega) hBL hnT hLK hLr hKr).mono ?_
        rintro e w1 ⟨rfl, hL1, hb1⟩
        have hbut1 := hbut.drew.trans_same hb1
        have hpar1 := hb1.cell (by show ¬ (_ = L); simp; omega) (v := .slice (some ⟨b, o, none⟩) l.length cap) hpar
        have hbd := left_bd l[j] y hy
        have HL1 := Lib.hid hL1
        clear hL1
        go_wp2_with fail
        go_roundw
        case rel => exact ⟨j + 1, leftT l[j] y, by omega, by go_num, by omega, by omega, HL1.out, by rw [← leftL_drop hjl hy]; exact Hleft.out, hbut1, hpar1⟩
        case measure => simp [intOf]; omega
      · go_wp2_with fail
        go_end0
        refine ⟨rfl, ?_, hbut⟩
        rw [hLr]
        have := Hleft.out
        rw [leftL_stop _ (by omega)] at this
        simp only [leftT, this]
    · go_wp2_with fail
      go_end0
      refine ⟨rfl, ?_, hbut⟩
      rw [hLr]
      have := Hleft.out
      rw [List.drop_eq_nil_of_le (by omega)] at this
      simp only [leftL] at this
      simp only [leftT, this]

/-- The size of a term, at most 2001. -/
def sizeT (t : Tm) : Int := 2001 - leftT t 2001

set_option maxHeartbeats 400000 in
theorem size_any (t : Tm) (w : World) (v : Value) (h : TmAt w w.heap.size t v) :
    Calls Try.prog 79 #[v] w fun e w' => e = .returned (.int .i64 (sizeT t)) ∧ But Nil w w' := by
  have h' := h
  cases t with
  | mk k n s l =>
  unfold TmAt TmIn at h'
  obtain ⟨A, len, cap, rfl, h1, h2, h3, rfl, h5, h6, -, h7⟩ := h'
  go_enter Try.func79, Try.ntmps79
  go_wp2_with fail
  have hkp : Keeps w.heap.size w (((w.alloc (.cells #[.int .i64 k, .int .i64 n, .string s, .slice A l.length cap] 24)).alloc (.cells #[.int .i64 2001] 3)).alloc
    (.cells #[.func (.func 88) #[] #[.pointer (some ⟨w.heap.size + 1, 0, none⟩), .pointer (some ⟨w.heap.size + 1 + 1, 0, none⟩)]] 67)) :=
    fun _ _ hk _ => heap_old (heap_old (heap_old hk))
  refine (size1_any (.mk k n s l) _ w.heap.size _ 2001 _ _ (TmAt.keeps (Nat.le_refl _) hkp _ h) (by omega) (by omega) (by omega) ?_ (by omega) (heap_old (heap_new (by simp))) (cell_of_one (heap_new (by simp)))).mono ?_
  · rintro ⟨c, f, hc⟩
    rw [heap_old (heap_new (by simp))] at hc
    cases hc
  rintro e w1 ⟨rfl, hL, hb⟩
  have hLc := cell_of_one hL
  have hbd := left_bd (.mk k n s l) 2001 (by omega)
  clear hL
  go_wp2_with fail
  go_ret
  exact ⟨rfl, ((((But.refl _ _).alloc _).alloc _).alloc _).trans hb fun i hi _ => .inr (by omega)⟩

end Go.Proofs.Ytloekfnlidclcaa

namespace Go.Proofs.Ytloekfnlidclcaa
open Go.RowKit
set_option linter.unusedVariables false

/-- A node is valid, apart from its arguments. -/
def nodeB : Tm → Bool
  | .mk k n s l => (k == 0 && (decide (0 ≤ n) && decide (n ≤ 1099511627776) && s.toList.isEmpty && ((l.length : Int) == 0))) || (k == 1 && (s.toList.isEmpty && ((l.length : Int) == 0))) ||
      (k == 2 && (n == 0 && decide ((s.size : Int) ≤ 100) && ((l.length : Int) == 0))) || (k == 3 && (n == 0 && decide ((s.size : Int) ≤ 100) && decide (0 < l.length) && decide ((l.length : Int) ≤ 8)))

mutual
def fitsT : Tm → Bool
  | .mk k n s l => nodeB (.mk k n s l) && fitsL l
def fitsL : List Tm → Bool
  | [] => true
  | t :: l => fitsT t && fitsL l
end

set_option maxRecDepth 100000 in
set_option maxHeartbeats 400000 in
theorem fits_any (t : Tm) : ∀ (w : World) (v : Value), TmAt w w.heap.size t v →
    Calls Try.prog 80 #[v] w fun e w' => e = .returned (.bool (fitsT t)) ∧ But Nil w w' := by
  induction t using Tm.ind with
  | h k n s l ih =>
  intro w v hv
  unfold TmAt TmIn at hv
  obtain ⟨A, len, cap, rfl, h1, h2, h3, rfl, h5, h6, -, h7⟩ := hv
  have IH := Lib.hid ih
  clear ih
  go_enter Try.func80, Try.ntmps80
  go_upto_block 0 with fail
  go_cut [3] (fun b wc => b = .bool (nodeB (.mk k n s l)) ∧ wc = w.alloc (.cells #[.int .i64 k, .int .i64 n, .string s, .slice A l.length cap] 24))
  case first =>
    clear IH h7 h1 h2 h5
    by_cases hn : n = 0
    · subst hn
      go_wp2_with fail
      all_goals go_meet
      all_goals first | (simp_all [nodeB]; done) | (simp_all [nodeB]; omega)
    · have hn' : (n == 0) = false := by simpa using hn
      clear hn
      go_wp2_with fail
      all_goals go_meet
      all_goals first | (simp_all [nodeB]; done) | (simp_all [nodeB]; omega)
  case rest =>
    obtain ⟨rfl, rfl⟩ := hcut
    go_wp2_with fail
    go_loopw [3, 4] (fun b i wr => ∃ (j : Nat) (c : Bool), j ≤ l.length ∧ i = .int .i64 j ∧ b = .bool c ∧ (c && fitsL (l.drop j)) = fitsT (.mk k n s l) ∧ But Nil w wr ∧
        wr.cell? ⟨w.heap.size, 3, none⟩ = some (.slice A l.length cap)) (fun _ i _ => l.length - (intOf i).toNat)
    case atStart =>
      refine ⟨0, nodeB (.mk k n s l), by omega, rfl, rfl, by simp [fitsT], (But.refl _ _).alloc _, cell_of_row _ _ 3 _ _ (0, 0) (heap_alloc_new _ _)⟩
    case round =>
      obtain ⟨j, c, hj, rfl, rfl, hfit, hbut, hpar⟩ := hrel
      have Hfit := Lib.hid hfit
      clear hfit
      by_cases hjl : j < l.length
      · cases c
        · go_wp2_with fail
          go_ret
          exact ⟨by simp [← Hfit.out], hbut⟩
        · obtain ⟨b, o, c0, c1, c2, c3, rfl, hb, e0, e1, e2, e3, ht⟩ := argsIn_iff.1 h7 j hjl
          simp only [Nat.zero_add] at e0 e1 e2 e3
          have g0 := hbut.cell id e0
          have g1 := hbut.cell id e1
          have g2 := hbut.cell id e2
          have g3 := hbut.cell id e3
          clear e0 e1 e2 e3
          go_wp2_with fail
          refine (IH.out _ (List.getElem_mem hjl) wr _ (TmAt.keeps hbut.size hbut.keeps_nil _ ht)).mono ?_
          rintro e w1 ⟨rfl, hb1⟩
          have hbut1 := hbut.trans_nil hb1
          have hpar1 := hb1.cell id hpar
          go_wp2_with fail
          go_roundw
          case rel => exact ⟨j + 1, _, by omega, by go_num, rfl, by rw [← Hfit.out, List.drop_eq_getElem_cons hjl]; simp [fitsL], hbut1, hpar1⟩
          case measure => simp [intOf]; omega
      · go_wp2_with fail
        go_ret
        exact ⟨by rw [← Hfit.out, List.drop_eq_nil_of_le (by omega)]; simp [fitsL], hbut⟩
end Go.Proofs.Ytloekfnlidclcaa

namespace Go.Proofs.Ytloekfnlidclcaa
open Go.RowKit
set_option linter.unusedVariables false

/-- A term is valid. -/
def validT (t : Tm) : Bool := decide (sizeT t ≤ 2000) && fitsT t

mutual
def cntT : Tm → Int → Int
  | .mk _ _ _ l, m => cntL l 1 m
def cntL : List Tm → Int → Int → Int
  | [], n, _ => n
  | t :: l, n, m => if n < m then cntL l (n + cntT t (m - n)) m else n
end

theorem left_cnt (t : Tm) : ∀ x, 0 < x → leftT t x = x - cntT t x := by
  induction t using Tm.ind with
  | h k n s l ih =>
    intro x hx
    have : ∀ (l : List Tm), (∀ a ∈ l, ∀ x, 0 < x → leftT a x = x - cntT a x) → ∀ n m, leftL l (m - n) = m - cntL l n m := by
      intro l
      induction l with
      | nil => intro _ n m; simp [leftL, cntL]
      | cons t l ihl =>
        intro h n m
        simp only [leftL, cntL]
        by_cases hlt : n < m
        · rw [if_pos (by omega), if_pos hlt, h t (by simp) _ (by omega), ← ihl (fun a ha => h a (by simp [ha])) _ m]
          congr 1
          omega
        · rw [if_neg (by omega), if_neg hlt]
    simp only [leftT, cntT]
    exact this l ih 1 x

theorem size_cnt (t : Tm) : cntT t 2001 = sizeT t := by
  have := left_cnt t 2001 (by omega)
  unfold sizeT
  omega

theorem cnt_bd (t : Tm) (m : Int) (hm : 0 < m) : 1 ≤ cntT t m ∧ cntT t m ≤ m := by
  have h1 := left_cnt t m hm
  have h2 := left_bd t m hm
  omega

theorem cntL_drop {l : List Tm} {j : Nat} (hj : j < l.length) {n m : Int} (hn : n < m) : cntL (l.drop j) n m = cntL (l.drop (j + 1)) (n + cntT l[j] (m - n)) m := by
  rw [List.drop_eq_getElem_cons hj]
  simp [cntL, hn]

theorem cntL_stop (l : List Tm) {n m : Int} (hn : ¬ n < m) : cntL l n m = n := by
  cases l <;> simp [cntL, hn]

set_option maxHeartbeats 400000 in
theorem valid_any (t : Tm) (w : World) (v : Value) (h : TmAt w w.heap.size t v) :
    Calls Try.prog 61 #[v] w fun e w' => e = .returned (.bool (validT t)) ∧ But Nil w w' := by
  have h' := h
  cases t with
  | mk k n s l =>
  unfold TmAt TmIn at h'
  obtain ⟨A, len, cap, rfl, h1, h2, h3, rfl, h5, h6, -, h7⟩ := h'
  have hk1 : But Nil w (w.alloc (.cells #[.int .i64 k, .int .i64 n, .string s, .slice A l.length cap] 24)) := (But.refl _ _).alloc _
  go_enter Try.func61, Try.ntmps61
  go_wp2_with fail
  refine (size_any (.mk k n s l) _ _ (TmAt.keeps hk1.size hk1.keeps_nil _ h)).mono ?_
  rintro e w1 ⟨rfl, hb1⟩
  have hk2 := hk1.trans_nil hb1
  obtain ⟨p0, p1, p2, p3⟩ := new4 hb1 id
  by_cases hs : sizeT (.mk k n s l) ≤ 2000
  · go_wp2_with fail
    refine (fits_any (.mk k n s l) _ _ (TmAt.keeps hk2.size hk2.keeps_nil _ h)).mono ?_
    rintro e w2 ⟨rfl, hb2⟩
    have hk3 := hk2.trans_nil hb2
    go_wp2_with fail
    go_ret
    exact ⟨by simp [validT, hs], hk3⟩
  · have hd : decide (sizeT (.mk k n s l) ≤ 2000) = false := by simpa using hs
    go_wp2_with fail
    go_ret
    exact ⟨by simp [validT]; omega, hk2⟩

set_option maxHeartbeats 400000 in
theorem count_any (t : Tm) : ∀ (w : World) (v : Value) (m : Int), TmAt w w.heap.size t v → 0 < m → m ≤ 2001 →
    Calls Try.prog 65 #[v, .int .i64 m] w fun e w' => e = .returned (.int .i64 (cntT t m)) ∧ But Nil w w' := by
  induction t using Tm.ind with
  | h k n s l ih =>
  intro w v m hv hm hm2
  unfold TmAt TmIn at hv
  obtain ⟨A, len, cap, rfl, h1, h2, h3, rfl, h5, h6, -, h7⟩ := hv
  have IH := Lib.hid ih
  clear ih
  go_enter Try.func65, Try.ntmps65
  go_wp2_with fail
  go_loopw [5, 6] (fun c i wr => ∃ (j : Nat) (y : Int), j ≤ l.length ∧ i = .int .i64 j ∧ c = .int .i64 y ∧ 1 ≤ y ∧ y ≤ m ∧ cntL (l.drop j) y m = cntL l 1 m ∧ But Nil w wr ∧
      wr.cell? ⟨w.heap.size, 3, none⟩ = some (.slice A l.length cap)) (fun _ i _ => l.length - (intOf i).toNat)
  case atStart => exact ⟨0, 1, by omega, rfl, rfl, by omega, by omega, by simp, (But.refl _ _).alloc _, cell_of_row _ _ 3 _ _ (0, 0) (heap_alloc_new _ _)⟩
  case round =>
    obtain ⟨j, y, hj, rfl, rfl, hy1, hy2, hcnt, hbut, hpar⟩ := hrel
    have Hcnt := Lib.hid hcnt
    clear hcnt
    by_cases hjl : j < l.length
    · by_cases hy : y < m
      · obtain ⟨b, o, c0, c1, c2, c3, rfl, hb, e0, e1, e2, e3, ht⟩ := argsIn_iff.1 h7 j hjl
        simp only [Nat.zero_add] at e0 e1 e2 e3
        have g0 := hbut.cell id e0
        have g1 := hbut.cell id e1
        have g2 := hbut.cell id e2
        have g3 := hbut.cell id e3
        clear e0 e1 e2 e3
        go_wp2_with fail
        refine (IH.out _ (List.getElem_mem hjl) wr _ _ (TmAt.keeps hbut.size hbut.keeps_nil _ ht) (by omega) (by omega)).mono ?_
        rintro e w1 ⟨rfl, hb1⟩
        have hbut1 := hbut.trans_nil hb1
        have hpar1 := hb1.cell id hpar
        have hbd := cnt_bd l[j] (m - y) (by omega)
        go_wp2_with fail
        go_roundw
        case rel => exact ⟨j + 1, _, by omega, by go_num, rfl, by omega, by omega, by rw [← cntL_drop hjl hy]; exact Hcnt.out, hbut1, hpar1⟩
        case measure => simp [intOf]; omega
      · go_wp2_with fail
        go_ret
        exact ⟨ret_int (by simp only [cntT, ← Hcnt.out]; rw [cntL_stop _ (by omega)]), hbut⟩
    · go_wp2_with fail
      go_ret
      exact ⟨ret_int (by simp only [cntT, ← Hcnt.out]; rw [List.drop_eq_nil_of_le (by omega)]; simp [cntL]), hbut⟩

set_option maxHeartbeats 400000 in
theorem rsize_any (t : Tm) (w : World) (v : Value) (h : TmAt w w.heap.size t v) :
    Calls Try.prog 21 #[v] w fun e w' => e = .returned (.int .i64 (sizeT t)) ∧ But Nil w w' := by
  have h' := h
  cases t with
  | mk k n s l =>
  unfold TmAt TmIn at h'
  obtain ⟨A, len, cap, rfl, h1, h2, h3, rfl, h5, h6, -, h7⟩ := h'
  have hk1 : But Nil w (w.alloc (.cells #[.int .i64 k, .int .i64 n, .string s, .slice A l.length cap] 24)) := (But.refl _ _).alloc _
  go_enter Try.func21, Try.ntmps21
  go_wp2_with fail
  refine (count_any (.mk k n s l) _ _ _ (TmAt.keeps hk1.size hk1.keeps_nil _ h) (by omega) (by omega)).mono ?_
  rintro e w1 ⟨rfl, hb1⟩
  have hk2 := hk1.trans_nil hb1
  go_wp2_with fail
  go_ret
  exact ⟨ret_int (by rw [size_cnt]), hk2⟩

set_option maxRecDepth 100000 in
set_option maxHeartbeats 400000 in
theorem node_any (t : Tm) (w : World) (v : Value) (h : TmAt w w.heap.size t v) :
    Calls Try.prog 84 #[v] w fun e w' => e = .returned (.bool (nodeB t)) ∧ But Nil w w' := by
  cases t with
  | mk k n s l =>
  unfold TmAt TmIn at h
  obtain ⟨A, len, cap, rfl, h1, h2, h3, rfl, h5, h6, -, h7⟩ := h
  clear h7 h1 h2 h5
  have hk1 : But Nil w (w.alloc (.cells #[.int .i64 k, .int .i64 n, .string s, .slice A l.length cap] 24)) := (But.refl _ _).alloc _
  by_cases hn : n = 0
  · subst hn
    go_enter Try.func84, Try.ntmps84
    go_wp2_with fail
    all_goals go_ret
    all_goals refine ⟨?_, hk1⟩
    all_goals first | (simp_all [nodeB]; done) | (simp_all [nodeB]; omega)
  · have hn' : (n == 0) = false := by simpa using hn
    clear hn
    go_enter Try.func84, Try.ntmps84
    go_wp2_with fail
    all_goals go_ret
    all_goals refine ⟨?_, hk1⟩
    all_goals first | (simp_all [nodeB]; done) | (simp_all [nodeB]; omega)

set_option maxHeartbeats 400000 in
theorem nodes_any (t : Tm) : ∀ (w : World) (v : Value), TmAt w w.heap.size t v →
    Calls Try.prog 66 #[v] w fun e w' => e = .returned (.bool (fitsT t)) ∧ But Nil w w' := by
  induction t using Tm.ind with
  | h k n s l ih =>
  intro w v hv
  have hv' := hv
  unfold TmAt TmIn at hv
  obtain ⟨A, len, cap, rfl, h1, h2, h3, rfl, h5, h6, -, h7⟩ := hv
  have IH := Lib.hid ih
  clear ih
  have hk1 : But Nil w (w.alloc (.cells #[.int .i64 k, .int .i64 n, .string s, .slice A l.length cap] 24)) := (But.refl _ _).alloc _
  go_enter Try.func66, Try.ntmps66
  go_wp2_with fail
  refine (node_any (.mk k n s l) _ _ (TmAt.keeps hk1.size hk1.keeps_nil _ hv')).mono ?_
  rintro e w1 ⟨rfl, hb1⟩
  have hk2 := hk1.trans_nil hb1
  have p3 := hb1.cell id (cell_of_row _ _ 3 _ _ (0, 0) (heap_alloc_new w (.cells #[.int .i64 k, .int .i64 n, .string s, .slice A l.length cap] 24)))
  cases hnode : nodeB (.mk k n s l)
  · have Hn := Lib.hid hnode
    clear hnode
    go_wp2_with fail
    go_ret
    exact ⟨by simp [fitsT, Hn.out], hk2⟩
  · have Hn := Lib.hid hnode
    clear hnode
    go_wp2_with fail
    go_loopw [3] (fun i wr => ∃ (j : Nat), j ≤ l.length ∧ i = .int .i64 j ∧ fitsL (l.drop j) = fitsT (.mk k n s l) ∧ But Nil w wr ∧
        wr.cell? ⟨w.heap.size, 3, none⟩ = some (.slice A l.length cap)) (fun i _ => l.length - (intOf i).toNat)
    case atStart => exact ⟨0, by omega, rfl, by simp [fitsT, Hn.out], hk2, p3⟩
    case round =>
      obtain ⟨j, hj, rfl, hfit, hbut, hpar⟩ := hrel
      have Hfit := Lib.hid hfit
      clear hfit
      by_cases hjl : j < l.length
      · obtain ⟨b, o, c0, c1, c2, c3, rfl, hb, e0, e1, e2, e3, ht⟩ := argsIn_iff.1 h7 j hjl
        simp only [Nat.zero_add] at e0 e1 e2 e3
        have g0 := hbut.cell id e0
        have g1 := hbut.cell id e1
        have g2 := hbut.cell id e2
        have g3 := hbut.cell id e3
        clear e0 e1 e2 e3
        go_wp2_with fail
        refine (IH.out _ (List.getElem_mem hjl) wr _ (TmAt.keeps hbut.size hbut.keeps_nil _ ht)).mono ?_
        rintro e w1 ⟨rfl, hb1⟩
        have hbut1 := hbut.trans_nil hb1
        have hpar1 := hb1.cell id hpar
        cases hf : fitsT l[j]
        · have Hf := Lib.hid hf
          clear hf
          go_wp2_with fail
          go_ret
          exact ⟨by rw [← Hfit.out, List.drop_eq_getElem_cons hjl]; simp [fitsL, Hf.out], hbut1⟩
        · have Hf := Lib.hid hf
          clear hf
          go_wp2_with fail
          go_roundw
          case rel => exact ⟨j + 1, by omega, by go_num, by rw [← Hfit.out, List.drop_eq_getElem_cons hjl]; simp [fitsL, Hf.out], hbut1, hpar1⟩
          case measure => simp [intOf]; omega
      · go_wp2_with fail
        go_ret
        exact ⟨by rw [← Hfit.out, List.drop_eq_nil_of_le (by omega)]; simp [fitsL], hbut⟩

set_option maxHeartbeats 400000 in
theorem rvalid_any (t : Tm) (w : World) (v : Value) (h : TmAt w w.heap.size t v) :
    Calls Try.prog 23 #[v] w fun e w' => e = .returned (.bool (validT t)) ∧ But Nil w w' := by
  have h' := h
  cases t with
  | mk k n s l =>
  unfold TmAt TmIn at h'
  obtain ⟨A, len, cap, rfl, h1, h2, h3, rfl, h5, h6, -, h7⟩ := h'
  have hk1 : But Nil w (w.alloc (.cells #[.int .i64 k, .int .i64 n, .string s, .slice A l.length cap] 24)) := (But.refl _ _).alloc _
  go_enter Try.func23, Try.ntmps23
  go_wp2_with fail
  refine (rsize_any (.mk k n s l) _ _ (TmAt.keeps hk1.size hk1.keeps_nil _ h)).mono ?_
  rintro e w1 ⟨rfl, hb1⟩
  have hk2 := hk1.trans_nil hb1
  obtain ⟨p0, p1, p2, p3⟩ := new4 hb1 id
  by_cases hs : sizeT (.mk k n s l) ≤ 2000
  · go_wp2_with fail
    refine (nodes_any (.mk k n s l) _ _ (TmAt.keeps hk2.size hk2.keeps_nil _ h)).mono ?_
    rintro e w2 ⟨rfl, hb2⟩
    have hk3 := hk2.trans_nil hb2
    go_wp2_with fail
    go_ret
    exact ⟨by simp [validT, hs], hk3⟩
  · have hd : decide (sizeT (.mk k n s l) ≤ 2000) = false := by simpa using hs
    go_wp2_with fail
    go_ret
    exact ⟨by simp [validT]; omega, hk2⟩

end Go.Proofs.Ytloekfnlidclcaa

namespace Go.Proofs.Ytloekfnlidclcaa
open Go.RowKit
set_option linter.unusedVariables false

mutual
def eqT : Tm → Tm → Bool
  | .mk k n s l, .mk k' n' s' l' => k == k' && n == n' && decide (s = s') && l.length == l'.length && eqL l l'
def eqL : List Tm → List Tm → Bool
  | [], _ => true
  | _ :: _, [] => false
  | t :: l, t' :: l' => eqT t t' && eqL l l'
end

set_option maxRecDepth 100000 in
set_option maxHeartbeats 400000 in
theorem rident_any (t : Tm) : ∀ (u : Tm) (w : World) (v v' : Value), TmAt w w.heap.size t v → TmAt w w.heap.size u v' →
    Calls Try.prog 83 #[v, v'] w fun e w' => e = .returned (.bool (eqT t u)) ∧ But Nil w w' := by
  induction t using Tm.ind with
  | h k n s l ih =>
  intro u w v v' hv hv'
  cases u with
  | mk k' n' s' l' =>
  unfold TmAt TmIn at hv hv'
  obtain ⟨A, len, cap, rfl, h1, h2, h3, rfl, h5, h6, -, h7⟩ := hv
  obtain ⟨A', len', cap', rfl, g1, g2, g3, rfl, g5, g6, -, g7⟩ := hv'
  have IH := Lib.hid ih
  clear ih
  by_cases hk : k = k'
  · by_cases hn : n = n'
    · by_cases hs : s = s'
      · by_cases hl : l.length = l'.length
        · subst hk hn hs
          have hl2 : ((l.length : Int) != (l'.length : Int)) = false := by simp; omega
          have Hl := Lib.hid hl
          clear hl
          go_enter Try.func83, Try.ntmps83
          go_wp2_with fail
          go_loopw [5] (fun i wr => ∃ (j : Nat), j ≤ l.length ∧ i = .int .i64 j ∧ eqL (l.drop j) (l'.drop j) = eqT (.mk k n s l) (.mk k n s l') ∧ But Nil w wr ∧
              wr.cell? ⟨w.heap.size, 3, none⟩ = some (.slice A l.length cap) ∧ wr.cell? ⟨w.heap.size + 1, 3, none⟩ = some (.slice A' l'.length cap')) (fun i _ => l.length - (intOf i).toNat)
          case atStart => exact ⟨0, by omega, rfl, by simp [eqT, Hl.out], ((But.refl _ _).alloc _).alloc _, cell_old (cell_of_row _ _ 3 _ _ (0, 0) (heap_alloc_new _ _)), cell_of_row _ _ 3 _ _ (0, 0) (heap_new (by simp))⟩
          case round =>
            obtain ⟨j, hj, rfl, heq, hbut, hpar, hpar'⟩ := hrel
            have Heq := Lib.hid heq
            clear heq
            by_cases hjl : j < l.length
            · have hjl' : j < l'.length := by have := Hl.out; omega
              obtain ⟨b, o, A0, cap0, rfl, hb, e0, e1, e2, e3, ht⟩ := h7.get hjl
              obtain ⟨b', o', A1, cap1, rfl, hb', f0, f1, f2, f3, ht'⟩ := g7.get hjl'
              have e0' := hbut.cell id e0
              have e1' := hbut.cell id e1
              have e2' := hbut.cell id e2
              have e3' := hbut.cell id e3
              have f0' := hbut.cell id f0
              have f1' := hbut.cell id f1
              have f2' := hbut.cell id f2
              have f3' := hbut.cell id f3
              clear e0 e1 e2 e3 f0 f1 f2 f3
              go_wp2_with fail
              have hbw := hbut
              go_still_tail 10, (by kernel_rfl)
              change wpList _ _ _ _ _ wr.drew
              go_wp2_with fail
              refine (IH.out _ (List.getElem_mem hjl) _ wr.drew _ _ (TmAt.keeps hbw.size hbw.drew.keeps_nil _ ht) (TmAt.keeps hbw.size hbw.drew.keeps_nil _ ht')).mono ?_
              rintro e w1 ⟨rfl, hb1⟩
              have hbut1 := hbw.drew.trans_nil hb1
              have hpar1 := hb1.cell id hpar
              have hpar1' := hb1.cell id hpar'
              cases hf : eqT l[j] l'[j]
              · have Hf := Lib.hid hf
                clear hf
                go_wp2_with fail
                go_ret
                exact ⟨ret_bool (by rw [← Heq.out, List.drop_eq_getElem_cons hjl, List.drop_eq_getElem_cons hjl']; simp [eqL, Hf.out]), hbut1⟩
              · have Hf := Lib.hid hf
                clear hf
                go_wp2_with fail
                go_roundw
                case rel => exact ⟨j + 1, by omega, by go_num, by rw [← Heq.out, List.drop_eq_getElem_cons hjl, List.drop_eq_getElem_cons hjl']; simp [eqL, Hf.out], hbut1, hpar1, hpar1'⟩
                case measure => simp [intOf]; omega
            · go_wp2_with fail
              go_ret
              exact ⟨ret_bool (by rw [← Heq.out, List.drop_eq_nil_of_le (by omega)]; simp [eqL]), hbut⟩
        · have hl2 : ((l.length : Int) != (l'.length : Int)) = true := by simp; omega
          subst hk hn hs
          go_enter Try.func83, Try.ntmps83
          go_wp2_with fail
          go_ret
          exact ⟨ret_bool (by simp [eqT, hl]), ((But.refl _ _).alloc _).alloc _⟩
      · have hs2 := str_ne hs
        subst hk hn
        go_enter Try.func83, Try.ntmps83
        go_wp2_with fail
        go_ret
        exact ⟨ret_bool (by simp [eqT, hs]), ((But.refl _ _).alloc _).alloc _⟩
    · have hn2 : (n != n') = true := by simpa using hn
      subst hk
      go_enter Try.func83, Try.ntmps83
      go_wp2_with fail
      go_ret
      exact ⟨ret_bool (by simp [eqT, hn]), ((But.refl _ _).alloc _).alloc _⟩
  · have hk2 : (k != k') = true := by simpa using hk
    go_enter Try.func83, Try.ntmps83
    go_wp2_with fail
    go_ret
    exact ⟨ret_bool (by simp [eqT, hk]), ((But.refl _ _).alloc _).alloc _⟩
end Go.Proofs.Ytloekfnlidclcaa

namespace Go.Proofs.Ytloekfnlidclcaa
open Go.RowKit
set_option linter.unusedVariables false

theorem eqL_refl_of : ∀ {l : List Tm}, (∀ a ∈ l, eqT a a = true) → eqL l l = true
  | [], _ => rfl
  | a :: l, h => by
    simp only [eqL, Bool.and_eq_true]
    exact ⟨h a List.mem_cons_self, eqL_refl_of fun b hb => h b (List.mem_cons_of_mem _ hb)⟩

theorem eqT_refl (t : Tm) : eqT t t = true := by
  induction t using Tm.ind with
  | h k n s l ih => simp [eqT, eqL_refl_of ih]

theorem eqL_of : ∀ {l l' : List Tm}, (∀ a ∈ l, ∀ u, eqT a u = true → a = u) → l.length = l'.length → eqL l l' = true → l = l'
  | [], [], _, _, _ => rfl
  | [], _ :: _, _, h, _ => by simp at h
  | _ :: _, [], _, h, _ => by simp at h
  | a :: l, b :: l', h, hl, he => by
    simp only [eqL, Bool.and_eq_true] at he
    rw [h a List.mem_cons_self b he.1, eqL_of (fun c hc => h c (List.mem_cons_of_mem _ hc)) (by simpa using hl) he.2]

theorem eqT_eq (t : Tm) : ∀ {u : Tm}, eqT t u = true → t = u := by
  induction t using Tm.ind with
  | h k n s l ih =>
    intro u h
    cases u with
    | mk k' n' s' l' =>
      simp only [eqT, Bool.and_eq_true, beq_iff_eq, decide_eq_true_eq] at h
      obtain ⟨⟨⟨⟨rfl, rfl⟩, rfl⟩, h4⟩, h5⟩ := h
      rw [eqL_of (fun a ha u => ih a ha) h4 h5]

theorem eqT_iff {t u : Tm} : eqT t u = true ↔ t = u := ⟨eqT_eq t, fun h => h ▸ eqT_refl t⟩

def sameT (t u : Tm) : Bool := validT t && validT u && eqT t u

end Go.Proofs.Ytloekfnlidclcaa

namespace Go.Proofs.Ytloekfnlidclcaa
open Go.RowKit
set_option linter.unusedVariables false

def RowT (w : World) (B : Nat) (va : Value) (ts : List Tm) : Prop :=
  ∃ xs, w.ownsRow B 24 4 va ts.length xs ∧ ∀ i (h : i < ts.length), ∃ A0 cap0, xs[i * 4]? = some (.int .i64 ts[i].kind) ∧ xs[i * 4 + 1]? = some (.int .i64 ts[i].num) ∧
    xs[i * 4 + 2]? = some (.string ts[i].name) ∧ xs[i * 4 + 3]? = some (.slice A0 ts[i].args.length cap0) ∧
    TmIn w (fun b => B ≤ b ∧ OBlk w b ∧ va.ownBlock ≠ some b) ts[i] (.agg #[.int .i64 ts[i].kind, .int .i64 ts[i].num, .string ts[i].name, .slice A0 ts[i].args.length cap0])

theorem RowT.nil (w : World) (B : Nat) : RowT w B (.slice none 0 0) [] := ⟨[], World.ownsRow_nil _ _ _ _, fun i h => by simp at h⟩

theorem own_but {S : Nat → Prop} {w w' : World} {base e size n : Nat} {v : Value} {xs : List Value} (h : w.ownsRow base e size v n xs) (hb : But S w w') (hS : ∀ g, v.ownBlock = some g → ¬ S g) : w'.ownsRow base e size v n xs := by
  obtain ⟨h1, h2⟩ := h
  refine ⟨h1, ?_⟩
  rcases h2 with h2 | ⟨g, cap, cur, rfl, hg, hh, r⟩
  · exact .inl h2
  · exact .inr ⟨g, cap, cur, rfl, hg, hb.heap (hS g rfl) hh, r⟩

theorem own_tblk {w : World} {base size n : Nat} {v : Value} {xs : List Value} (h : w.ownsRow base 24 size v n xs) {g : Nat} (hg : v.ownBlock = some g) : OBlk w g ∧ base ≤ g := by
  rcases h.2 with ⟨rfl, _⟩ | ⟨g', cap, cur, rfl, hg', hh, r⟩
  · cases hg
  · obtain rfl : g' = g := by simpa [Value.ownBlock] using hg
    exact ⟨⟨_, hh⟩, hg'⟩

theorem OBlk.but {S : Nat → Prop} {w w' : World} {b : Nat} (h : OBlk w b) (hb : But S w w') (hS : ¬ S b) : OBlk w' b := let ⟨c, hc⟩ := h; ⟨c, hb.heap hS hc⟩

theorem RowT.but {S : Nat → Prop} {w w' : World} {B : Nat} {va : Value} {ts : List Tm} (h : RowT w B va ts) (hb : But S w w') (hS : ∀ k, S k → k < B ∨ ¬ TBlk w k) : RowT w' B va ts := by
  obtain ⟨xs, ho, hx⟩ := h
  have hn : ∀ k, B ≤ k → TBlk w k → ¬ S k := fun k hk ht hs => (hS k hs).elim (fun hl => by omega) (fun hn => hn ht)
  refine ⟨xs, own_but ho hb fun g hg => hn g (own_tblk ho hg).2 (own_tblk ho hg).1.tblk, fun i hi => ?_⟩
  obtain ⟨A0, cap0, e0, e1, e2, e3, ht⟩ := hx i hi
  exact ⟨A0, cap0, e0, e1, e2, e3, TmIn.keeps (fun k o hk hd => ⟨hb.heap (hn _ hd.1 hd.2.1.tblk) hk, hd.1, hd.2.1.but hb (hn _ hd.1 hd.2.1.tblk), hd.2.2⟩) _ ht⟩

theorem OBlk.grown {w w' : World} {row : Option Nat} {b : Nat} (h : OBlk w b) (hg : w.grownBy w' row) (hne : row ≠ some b) : OBlk w' b := by
  obtain ⟨c, hc⟩ := h
  exact ⟨c, (hg.block b (lt_of_heap hc) (fun e => hne e.symm)).trans hc⟩

/-- What a row's elements are, apart from who owns it. -/
def RowE (w : World) (B : Nat) (va : Value) (ts : List Tm) (xs : List Value) : Prop := ∀ i (h : i < ts.length), ∃ A0 cap0, xs[i * 4]? = some (.int .i64 ts[i].kind) ∧ xs[i * 4 + 1]? = some (.int .i64 ts[i].num) ∧
    xs[i * 4 + 2]? = some (.string ts[i].name) ∧ xs[i * 4 + 3]? = some (.slice A0 ts[i].args.length cap0) ∧
    TmIn w (fun b => B ≤ b ∧ OBlk w b ∧ va.ownBlock ≠ some b) ts[i] (.agg #[.int .i64 ts[i].kind, .int .i64 ts[i].num, .string ts[i].name, .slice A0 ts[i].args.length cap0])

theorem RowE.but {S : Nat → Prop} {w w' : World} {B : Nat} {va : Value} {ts : List Tm} {xs : List Value} (hx : RowE w B va ts xs) (hb : But S w w') (hS : ∀ k, S k → k < B ∨ ¬ TBlk w k) : RowE w' B va ts xs := by
  have hn : ∀ k, B ≤ k → TBlk w k → ¬ S k := fun k hk ht hs => (hS k hs).elim (fun hl => by omega) (fun hn => hn ht)
  intro i hi
  obtain ⟨A0, cap0, e0, e1, e2, e3, ht⟩ := hx i hi
  exact ⟨A0, cap0, e0, e1, e2, e3, TmIn.keeps (fun k o hk hd => ⟨hb.heap (hn _ hd.1 hd.2.1.tblk) hk, hd.1, hd.2.1.but hb (hn _ hd.1 hd.2.1.tblk), hd.2.2⟩) _ ht⟩

/-- One more element. -/
theorem RowT.push {w w' : World} {B B1 g cap : Nat} {va u : Value} {ts : List Tm} {t : Tm} {xs : List Value} {A0 : Option Addr} {cap0 : Nat}
    (ho : w.ownsRow B 24 4 va ts.length xs) (hx : RowE w B va ts xs)
    (hu : u = .agg #[.int .i64 t.kind, .int .i64 t.num, .string t.name, .slice A0 t.args.length cap0]) (ht : TmNew w B1 t u) (hB : B ≤ B1) (hva : ∀ k, va.ownBlock = some k → k < B1)
    (ho' : w'.ownsRow B 24 4 (.slice (some ⟨g, 0, none⟩) (ts.length + 1) cap) (ts.length + 1) (xs ++ [.int .i64 t.kind, .int .i64 t.num, .string t.name, .slice A0 t.args.length cap0]))
    (hg : w.grownBy w' va.ownBlock) (hat : va.ownBlock = some g ∨ w.heap.size ≤ g) : RowT w' B (.slice (some ⟨g, 0, none⟩) (ts.length + 1) cap) (ts ++ [t]) := by
  have hl : xs.length = ts.length * 4 := ho.1
  refine ⟨xs ++ [.int .i64 t.kind, .int .i64 t.num, .string t.name, .slice A0 t.args.length cap0], by simpa using ho', fun i hi => ?_⟩
  by_cases hlt : i < ts.length
  · obtain ⟨A1, cap1, e0, e1, e2, e3, h4⟩ := hx i hlt
    have hti : (ts ++ [t])[i] = ts[i] := List.getElem_append_left hlt
    rw [hti]
    refine ⟨A1, cap1, ?_, ?_, ?_, ?_, TmIn.keeps (fun k o hk hd => ⟨(hg.block k (lt_of_heap hk) (fun e => hd.2.2 e.symm)).trans hk, hd.1, hd.2.1.grown hg hd.2.2, fun e => ?_⟩) _ h4⟩
    · rw [List.getElem?_append_left (by omega)]; exact e0
    · rw [List.getElem?_append_left (by omega)]; exact e1
    · rw [List.getElem?_append_left (by omega)]; exact e2
    · rw [List.getElem?_append_left (by omega)]; exact e3
    · have : g = k := by simpa [Value.ownBlock] using e
      subst this
      rcases hat with h | h
      · exact hd.2.2 h
      · have := lt_of_heap hk; omega
  · obtain rfl : i = ts.length := by simp at hi; omega
    have hti : (ts ++ [t])[ts.length] = t := by simp
    rw [hti]
    refine ⟨A0, cap0, ?_, ?_, ?_, ?_, ?_⟩
    · rw [List.getElem?_append_right (by omega), hl]; simp
    · rw [List.getElem?_append_right (by omega), hl]; simp
    · rw [List.getElem?_append_right (by omega), hl]; simp
    · rw [List.getElem?_append_right (by omega), hl]; simp
    · rw [← hu]
      refine TmIn.keeps (fun k o hk hd => ?_) _ ht
      have hne : va.ownBlock ≠ some k := fun e => by have := hva k e; omega
      refine ⟨(hg.block k (lt_of_heap hk) (fun e => hne e.symm)).trans hk, by omega, hd.2.grown hg hne, fun e => ?_⟩
      have : g = k := by simpa [Value.ownBlock] using e
      subst this
      rcases hat with h | h
      · exact hne h
      · have := lt_of_heap hk; omega

/-- The row as a slice of terms. -/
theorem RowT.args {w : World} {B : Nat} {va : Value} {ts : List Tm} (h : RowT w B va ts) : ∃ A cap, va = .slice A ts.length cap ∧ ts.length ≤ cap ∧ cap ≤ maxLen ∧ ArgsIn w (fun b => B ≤ b ∧ OBlk w b) ts A 0 := by
  obtain ⟨xs, ho, hx⟩ := h
  have h2 := ho.2
  rcases h2 with ⟨rfl, h0⟩ | ⟨g, cap, cur, rfl, hg, hh, hc1, hc2, hc3, hc4⟩
  · have : ts = [] := List.eq_nil_of_length_eq_zero h0
    subst this
    exact ⟨none, 0, rfl, by simp, by unfold maxLen; omega, by unfold ArgsIn; trivial⟩
  · refine ⟨some ⟨g, 0, none⟩, cap, rfl, hc1, hc2, argsIn_iff.2 fun j hj => ?_⟩
    obtain ⟨A0, cap0, e0, e1, e2, e3, ht⟩ := hx j hj
    refine ⟨g, 0, _, _, _, _, rfl, ⟨hg, ⟨_, hh⟩⟩, ?_, ?_, ?_, ?_, TmIn.keeps (fun k o hk hd => ⟨hk, hd.1, hd.2.1⟩) _ ht⟩
    · rw [ho.cellAt _ (by omega)]; simpa using e0
    · rw [ho.cellAt _ (by omega)]; simpa using e1
    · rw [ho.cellAt _ (by omega)]; simpa using e2
    · rw [ho.cellAt _ (by omega)]; simpa using e3

end Go.Proofs.Ytloekfnlidclcaa

namespace Go.Proofs.Ytloekfnlidclcaa
open Go.RowKit
set_option linter.unusedVariables false

theorem Try.infoTerm : (Try.prog.info? 24).map (fun i => (i.zero, i.size, i.bytes)) = some (some (.agg #[.int .i64 0, .int .i64 0, .string ⟨#[]⟩, .slice none 0 0]), 4, 56) := by kernel_rfl

/-- What apply may ask of its function: g on the state s; the state's memory lies from B on, in no row of terms. -/
structure Clo {σ : Type} (F : Nat) (cp : Array Value) (g : σ → Tm → σ × Tm) (Inv : σ → World → Prop) (B : Nat) : Prop where
  call : ∀ s t w v, t.kind = 0 → nodeB t = true → B ≤ w.heap.size → TmAt w B t v → Inv s w → Calls Try.prog F (#[v] ++ cp) w fun e w' => ∃ u, e = .returned u ∧ TmNew w' w.heap.size (g s t).2 u ∧ Inv (g s t).1 w' ∧ But (Off B w) w w'
  enter : ∀ args w, (callFunc F args).run Try.prog w = .ok (.enter F args) w
  keep : ∀ s w w', Inv s w → But (TBk B w) w w' → Inv s w'

mutual
def appT {σ : Type} (g : σ → Tm → σ × Tm) (s : σ) : Tm → σ × Tm
  | .mk k n nm l => if k = 0 then g s (.mk k n nm l) else ((appL g s l).1, .mk k n nm (appL g s l).2)
def appL {σ : Type} (g : σ → Tm → σ × Tm) (s : σ) : List Tm → σ × List Tm
  | [] => (s, [])
  | t :: l => ((appL g (appT g s t).1 l).1, (appT g s t).2 :: (appL g (appT g s t).1 l).2)
end

theorem fitsL_get {l : List Tm} (h : fitsL l = true) : ∀ j (hj : j < l.length), fitsT l[j] = true := by
  induction l with
  | nil => intro j hj; simp at hj
  | cons t l ih =>
    intro j hj
    simp only [fitsL, Bool.and_eq_true] at h
    rcases j with _ | j
    · exact h.1
    · exact ih h.2 j (by simpa using hj)

theorem node_args {k n : Int} {nm : ByteArray} {l : List Tm} (h : nodeB (.mk k n nm l) = true) : l.length ≤ 8 := by
  simp only [nodeB, Bool.or_eq_true, Bool.and_eq_true, decide_eq_true_eq, beq_iff_eq] at h
  omega

/-- What one more argument does to the relation of apply's loop. -/
theorem apply_step {w d w1 w2 : World} {B g cap2 cap1 : Nat} {k n : Int} {nm : ByteArray} {va : Value} {ts : List Tm} {t : Tm} {xs : List Value} {A1 : Option Addr}
    (hown : d.ownsRow (w.heap.size + 3) 24 4 va ts.length xs) (hx : RowE d (w.heap.size + 3) va ts xs) (hbw : But (Off B w) w d) (hb1 : But (Off B d) d w1) (hB : B ≤ w.heap.size)
    (hnew : TmNew w1 d.heap.size t (.agg #[.int .i64 t.kind, .int .i64 t.num, .string t.name, .slice A1 t.args.length cap1]))
    (hown2 : w2.ownsRow (w.heap.size + 3) 24 4 (.slice (some ⟨g, 0, none⟩) (ts.length + 1) cap2) (ts.length + 1) (xs ++ [.int .i64 t.kind, .int .i64 t.num, .string t.name, .slice A1 t.args.length cap1]))
    (hgrow : (w1.alloc (TB t A1 cap1)).grownBy w2 va.ownBlock) (hat : va.ownBlock = some g ∨ g = w1.heap.size + 1)
    (h1 : w1.heap[w.heap.size + 1]? = some (.cells #[.int .i64 0, .int .i64 0, .string ⟨#[]⟩, .slice none 0 0] 24 (0, 0)))
    (h2 : w1.heap[w.heap.size + 1 + 1]? = some (.cells #[.int .i64 k, .int .i64 n, .string nm, va] 24 (0, 0)))
    (hd : w.heap.size + 1 + 1 < d.heap.size) (hgl : ∀ g, va.ownBlock = some g → g < d.heap.size) :
    (w2.setCell ⟨w.heap.size + 1 + 1, 3, none⟩ (.slice (some ⟨g, 0, none⟩) (ts.length + 1) cap2)).heap[w.heap.size + 1]? = some (.cells #[.int .i64 0, .int .i64 0, .string ⟨#[]⟩, .slice none 0 0] 24 (0, 0)) ∧
    (w2.setCell ⟨w.heap.size + 1 + 1, 3, none⟩ (.slice (some ⟨g, 0, none⟩) (ts.length + 1) cap2)).heap[w.heap.size + 1 + 1]? = some (.cells #[.int .i64 k, .int .i64 n, .string nm, .slice (some ⟨g, 0, none⟩) (ts.length + 1) cap2] 24 (0, 0)) ∧
    RowT (w2.setCell ⟨w.heap.size + 1 + 1, 3, none⟩ (.slice (some ⟨g, 0, none⟩) (ts.length + 1) cap2)) (w.heap.size + 3) (.slice (some ⟨g, 0, none⟩) (ts.length + 1) cap2) (ts ++ [t]) ∧
    But (TBk B w1) w1 (w2.setCell ⟨w.heap.size + 1 + 1, 3, none⟩ (.slice (some ⟨g, 0, none⟩) (ts.length + 1) cap2)) ∧
    But (Off B w) w (w2.setCell ⟨w.heap.size + 1 + 1, 3, none⟩ (.slice (some ⟨g, 0, none⟩) (ts.length + 1) cap2)) := by
  have hown1 : w1.ownsRow (w.heap.size + 3) 24 4 va ts.length xs := own_but hown hb1 (fun g hg hs => hs.2 (own_tblk hown hg).1.tblk)
  have hn2 : ∀ k, k < w.heap.size + 3 → ¬ va.ownBlock = some k := fun k hk e => by have := (own_tblk hown1 e).2; omega
  have hba : But Nil w1 (w1.alloc (TB t A1 cap1)) := (But.refl _ _).alloc _
  have hb2 : But (fun k => va.ownBlock = some k) (w1.alloc (TB t A1 cap1)) w2 := (But.refl _ _).grown hgrow (fun k hk => .inl hk)
  have hb3 : But (· = w.heap.size + 1 + 1) w2 (w2.setCell ⟨w.heap.size + 1 + 1, 3, none⟩ (.slice (some ⟨g, 0, none⟩) (ts.length + 1) cap2)) := (But.refl (· = w.heap.size + 1 + 1) w2).setCell (p := ⟨w.heap.size + 1 + 1, 3, none⟩) (.inl rfl) _
  have hx1 : RowE (w1.alloc (TB t A1 cap1)) (w.heap.size + 3) va ts xs := (hx.but hb1 fun k hk => .inr hk.2).but hba fun k hk => hk.elim
  have hT2 : TBlk w1 (w.heap.size + 1 + 1) := ⟨_, _, h2⟩
  have hrow2 : RowT w2 (w.heap.size + 3) (.slice (some ⟨g, 0, none⟩) (ts.length + 1) cap2) (ts ++ [t]) :=
    RowT.push (hown1.alloc _) hx1 rfl (hnew.but hba (fun k hk => hk.elim) (Nat.le_refl _)) (by omega) hgl hown2 hgrow (hat.imp id (fun e => by simp; omega))
  refine ⟨hb3.heap (by simp) (hb2.heap (hn2 _ (by omega)) (heap_old h1)), ?_, hrow2.but hb3 (fun k hk => .inl (by subst hk; omega)), ?_, ?_⟩
  · have := set_blk (i := 3) (hb2.heap (hn2 _ (by omega)) (heap_old h2)) (.slice (some ⟨g, 0, none⟩) (ts.length + 1) cap2)
    simpa using this
  · refine ((hba.of_nil (S := TBk B w1)).trans hb2 fun i hi _ => .inl ⟨by have := (own_tblk hown1 hi).2; omega, (own_tblk hown1 hi).1.tblk⟩).trans hb3 fun i hi _ => .inl (by subst hi; exact ⟨by omega, hT2⟩)
  · refine (((hbw.trans hb1 fun i hi _ => .inl (hbw.off_back (fun k hk => hk.2) hi)).trans_nil hba).trans hb2 fun i hi _ => .inr ?_).trans hb3 fun i hi _ => .inr (by subst hi; omega)
    have := (own_tblk hown1 hi).2
    omega

theorem appL_drop {σ : Type} (g : σ → Tm → σ × Tm) (s : σ) {l : List Tm} {j : Nat} (hj : j < l.length) : appL g s (l.drop j) = ((appL g (appT g s l[j]).1 (l.drop (j + 1))).1, (appT g s l[j]).2 :: (appL g (appT g s l[j]).1 (l.drop (j + 1))).2) := by
  rw [List.drop_eq_getElem_cons hj]
  rfl

set_option maxHeartbeats 1000000 in
theorem apply_any {σ : Type} {F : Nat} {cp : Array Value} {g : σ → Tm → σ × Tm} {Inv : σ → World → Prop} {B : Nat} (hc : Clo F cp g Inv B) (t : Tm) : ∀ (s : σ) (w : World) (v : Value),
    TmAt w B t v → fitsT t = true → B ≤ w.heap.size → Inv s w →
    Calls Try.prog 81 #[v, .func (.func F) #[] cp] w fun e w' => ∃ u, e = .returned u ∧ TmNew w' w.heap.size (appT g s t).2 u ∧ Inv (appT g s t).1 w' ∧ But (Off B w) w w' := by
  induction t using Tm.ind with
  | h k n nm l ih =>
  intro s w v hv hfit hB hinv
  have hv' := hv
  unfold TmAt TmIn at hv
  obtain ⟨A, len, cap, rfl, h1, h2, h3, rfl, h5, h6, -, h7⟩ := hv
  have IH := Lib.hid ih
  have hent := hc.enter
  have HC := Lib.hid hc
  have HI := Lib.hid hinv
  clear ih hc hinv
  by_cases hk : k = 0
  · subst hk
    go_enter Try.func81, Try.ntmps81
    go_wp2_with fail
    have hb2 : But (TBk B w) w ((w.alloc (.cells #[.int .i64 0, .int .i64 n, .string nm, .slice A l.length cap] 24)).alloc (.cells #[.int .i64 0, .int .i64 0, .string ⟨#[]⟩, .slice none 0 0] 24)) := ((But.refl _ _).alloc _).alloc _
    have hb2' : But Nil w ((w.alloc (.cells #[.int .i64 0, .int .i64 n, .string nm, .slice A l.length cap] 24)).alloc (.cells #[.int .i64 0, .int .i64 0, .string ⟨#[]⟩, .slice none 0 0] 24)) := ((But.refl _ _).alloc _).alloc _
    have hfit' : nodeB (.mk 0 n nm l) = true := by
      unfold fitsT at hfit
      simp only [Bool.and_eq_true] at hfit
      exact hfit.1
    refine (HC.out.call s (.mk 0 n nm l) _ _ rfl hfit' (by simp; omega) (TmAt.keeps (Nat.le_refl _) hb2'.keeps_nil _ hv') (HC.out.keep _ _ _ HI.out hb2)).mono ?_
    rintro e w1 ⟨u, rfl, hnew, hinv, hb⟩
    obtain ⟨A1, cap1, hu, -⟩ := hnew.form
    have hp := hb.heap (k := w.heap.size + 1) (fun hs => hs.2 ⟨_, _, heap_new (by simp)⟩) (heap_new (by simp))
    obtain ⟨q0, q1, q2, q3⟩ := blk4 hp
    have f0 := frz hp
    have hp' := Lib.hid hp
    have HU := Lib.hid hu
    have hset := set4 (a' := .int .i64 (g s (.mk 0 n nm l)).2.kind) (b' := .int .i64 (g s (.mk 0 n nm l)).2.num) (c' := .string (g s (.mk 0 n nm l)).2.name) (d' := .slice A1 (g s (.mk 0 n nm l)).2.args.length cap1) hp
    clear hp
    rw [hu]
    clear hu
    go_wp2_with fail
    obtain ⟨r0, r1, r2, r3⟩ := blk4 hset
    refine bodyPost_ret (v := .agg #[.int .i64 (g s (.mk 0 n nm l)).2.kind, .int .i64 (g s (.mk 0 n nm l)).2.num, .string (g s (.mk 0 n nm l)).2.name, .slice A1 (g s (.mk 0 n nm l)).2.args.length cap1])
      (by simp [results, Try.results81, go_sem, r0, r1, r2, r3]) rfl ?_
    rw [← HU.out]
    have hT1 : TBlk w1 (w.heap.size + 1) := ⟨_, _, hp'.out⟩
    have hb3 := (But.refl (· = w.heap.size + 1) w1).set4 (.inl rfl) (.int .i64 (g s (.mk 0 n nm l)).2.kind) (.int .i64 (g s (.mk 0 n nm l)).2.num) (.string (g s (.mk 0 n nm l)).2.name) (.slice A1 (g s (.mk 0 n nm l)).2.args.length cap1)
    simp only [appT, if_pos]
    refine ⟨u, rfl, hnew.far hb3 (fun k hk => .inl (by subst hk; simp)) (by simp; omega), HC.out.keep _ _ _ hinv (hb3.mono fun i hi _ => by subst hi; exact ⟨by omega, hT1⟩), ?_⟩
    exact ((hb2'.of_nil (S := Off B w)).trans hb fun i hi _ => hi.back hb2').trans hb3 fun i hi _ => .inr (by subst hi; omega)
  · have hk' : (k == 0) = false := by simpa using hk
    have Hk := Lib.hid hk
    obtain ⟨i0, hi0, hz0, hz1, hz2⟩ := info_parts Try.infoTerm
    have hfl : fitsL l = true := by
      unfold fitsT at hfit
      simp only [Bool.and_eq_true] at hfit
      exact hfit.2
    have hl8 : l.length ≤ 8 := by
      unfold fitsT at hfit
      simp only [Bool.and_eq_true] at hfit
      exact node_args hfit.1
    have hwf1 := h1
    have hwf2 := h2
    clear hk hfit h1 h2
    have hb3 : But Nil w (((w.alloc (.cells #[.int .i64 k, .int .i64 n, .string nm, .slice A l.length cap] 24)).alloc (.cells #[.int .i64 0, .int .i64 0, .string ⟨#[]⟩, .slice none 0 0] 24)).alloc
      (.cells #[.int .i64 k, .int .i64 n, .string nm, .slice none 0 0] 24)) := (((But.refl _ _).alloc _).alloc _).alloc _
    have hb3' : But (TBk B w) w (((w.alloc (.cells #[.int .i64 k, .int .i64 n, .string nm, .slice A l.length cap] 24)).alloc (.cells #[.int .i64 0, .int .i64 0, .string ⟨#[]⟩, .slice none 0 0] 24)).alloc
      (.cells #[.int .i64 k, .int .i64 n, .string nm, .slice none 0 0] 24)) := hb3.of_nil
    go_enter Try.func81, Try.ntmps81
    go_wp2_with fail
    go_loopw [24] (fun i wr => ∃ (j : Nat) (s' : σ) (va : Value) (ts : List Tm), j ≤ l.length ∧ i = .int .i64 j ∧
        wr.heap[w.heap.size + 1]? = some (.cells #[.int .i64 0, .int .i64 0, .string ⟨#[]⟩, .slice none 0 0] 24 (0, 0)) ∧
        wr.heap[w.heap.size + 1 + 1]? = some (.cells #[.int .i64 k, .int .i64 n, .string nm, va] 24 (0, 0)) ∧ RowT wr (w.heap.size + 3) va ts ∧ ts.length = j ∧
        (appL g s' (l.drop j)).1 = (appL g s l).1 ∧ ts ++ (appL g s' (l.drop j)).2 = (appL g s l).2 ∧ Inv s' wr ∧ But (Off B w) w wr) (fun i _ => l.length - (intOf i).toNat)
    case atStart =>
      exact ⟨0, s, _, [], by omega, rfl, heap_old (heap_new (by simp)), heap_new (by simp), RowT.nil _ _, rfl, by simp, by simp, HC.out.keep _ _ _ HI.out hb3', hb3.of_nil⟩
    case round =>
      obtain ⟨j, s', va, ts, hj, rfl, hblk1, hblk2, hrow, htl, hs1, hs2, hinv, hbut⟩ := hrel
      have HI' := Lib.hid hinv
      have Hs1 := Lib.hid hs1
      have Hs2 := Lib.hid hs2
      have Htl := Lib.hid htl
      clear hinv hs1 hs2 htl
      by_cases hjl : j < l.length
      · obtain ⟨b, o, A0, cap0, rfl, hb, e0, e1, e2, e3, ht⟩ := h7.get hjl
        have hkp : Keeps B w wr := hbut.keeps fun k hk => hk
        have hbo : ¬ Off B w b := fun h => hb.elim (fun hl => by have := h.1; omega) h.2
        have g0 := hbut.cell hbo e0
        have g1 := hbut.cell hbo e1
        have g2 := hbut.cell hbo e2
        have g3 := hbut.cell hbo e3
        have ht' := TmAt.keeps (Nat.le_refl _) hkp _ ht
        clear e0 e1 e2 e3 ht hkp hbo
        go_wp2_with fail
        have hbx : But Nil wr (wr.alloc (TB l[j] A0 cap0)).drew := ((But.refl _ _).alloc _).drew
        have hblk1' := hbx.heap id hblk1
        have hblk2' := hbx.heap id hblk2
        obtain ⟨-, -, -, q3⟩ := blk4 (heap_old (o := TB l[j] A0 cap0) hblk2)
        obtain ⟨p0, p1, p2, p3⟩ := blk4 (heap_new (w := wr) (o := TB l[j] A0 cap0) rfl)
        have hblk3' : (wr.alloc (TB l[j] A0 cap0)).drew.heap[wr.heap.size]? = _ := heap_new (w := wr) (o := TB l[j] A0 cap0) rfl
        have hbw := hbut.trans_nil hbx
        have ht'' := TmAt.keeps (Nat.le_refl _) hbx.keeps_nil _ ht'
        have HIx : Hid (Inv s' (wr.alloc (TB l[j] A0 cap0)).drew) := HC.out.keep _ _ _ HI'.out hbx.of_nil
        have hrow' := hrow.but hbx fun k hk => .inl hk.elim
        have hsz : (wr.alloc (TB l[j] A0 cap0)).heap.size = wr.heap.size + 1 := by simp
        have hlt2 := lt_of_heap hblk2
        generalize wr.alloc (TB l[j] A0 cap0) = wx at *
        obtain ⟨xs, hown, hxs⟩ := hrow'
        have hgl : ∀ g, va.ownBlock = some g → g < wr.heap.size := fun g hg => by obtain ⟨_, h, _⟩ := hrow; exact (h.lt g hg).2
        have Hxs := Lib.hid hxs
        clear hxs hblk1 hblk2 HI' hrow ht' hbx
        have hfj := fitsL_get hfl j hjl
        have Hfj := Lib.hid hfj
        have hts : ts.length + 1 ≤ 9 := by have := Htl.out; omega
        clear hfj
        go_region_law (first
            | (refine step_append_lies _ (by rfl) _ _ _ (by rfl) (w.heap.size + 3) 24 i0 _ 4 56 Try.underlying22 hi0 hz0 hz1 hz2 rfl (by omega) va ts.length xs (by rfl) (hown1.alloc _) ⟨w1.heap.size, 0, none⟩ 1 1
                 [.int .i64 (appT g s' l[j]).2.kind, .int .i64 (appT g s' l[j]).2.num, .string (appT g s' l[j]).2.name, .slice A1 (appT g s' l[j]).2.args.length cap1] (by rfl) (by rfl)
                 (World.news_of_block (cs := #[.int .i64 (appT g s' l[j]).2.kind, .int .i64 (appT g s' l[j]).2.num, .string (appT g s' l[j]).2.name, .slice A1 (appT g s' l[j]).2.args.length cap1]) (t := 24) (fr := (0, 0)) (heap_alloc_new w1 _))
                 (by simp [Value.oneCell']) (by omega) (by unfold maxLen; omega) (by omega) (by simp; omega) (w1.heap.size + 1) (by simp) ?_
               intro gg cap2 w2 hown2 hgrow hat hlt
               have hb2 : But (fun k => va.ownBlock = some k) (w1.alloc (TB (appT g s' l[j]).2 A1 cap1)) w2 := (But.refl _ _).grown hgrow (fun k hk => .inl hk)
               have hn2 : ∀ k, k < w.heap.size + 3 → ¬ va.ownBlock = some k := fun k hk e => by have := (own_tblk hown1 e).2; omega
               have hblk1_2 := hb2.heap (hn2 _ (by omega)) (heap_old hblk1'')
               have hblk2_2 := hb2.heap (hn2 _ (by omega)) (heap_old hblk2'')
               have c3'' := (blk4 hblk2_2).2.2.2
               have hfz := frz hblk2_2
               obtain ⟨d0'', d1'', d2'', d3''⟩ := blk4 (hb2.heap (fun e => by have := hgl _ e; omega) (heap_old hblk3'')))
            | (go_simp; go_at_call 81; refine (IH.out l[j] (List.getElem_mem hjl) s' _ _ ht'' Hfj.out (by show _ ≤ wx.heap.size; omega) HIx.out).mono ?_; rintro e w1 ⟨u, rfl, hnew, hinv1, hb1⟩; obtain ⟨A1, cap1, rfl, -⟩ := hnew.form
               have hnB : ∀ k, Off B wx.drew k → ¬ TBlk wx.drew k := fun k hk => hk.2
               have hblk1'' := hb1.heap (fun hs => hs.2 ⟨_, _, hblk1'⟩) hblk1'
               have hblk2'' := hb1.heap (fun hs => hs.2 ⟨_, _, hblk2'⟩) hblk2'
               have hblk3'' := hb1.heap (fun hs => hs.2 ⟨_, _, hblk3'⟩) hblk3'
               have c3' := (blk4 hblk2'').2.2.2
               obtain ⟨d0', d1', d2', d3'⟩ := blk4 hblk3''
               have hown1 := own_but hown hb1 (fun g hg hs => hs.2 (own_tblk hown hg).1.tblk)
               have hw1 : wr.heap.size + 1 ≤ w1.heap.size := by have h : wx.heap.size ≤ w1.heap.size := hb1.size; omega
               have hlq : w.heap.size + 1 + 1 < w1.heap.size := by omega))
        all_goals
          have R := apply_step (va := va) hown Hxs.out hbw hb1 hB hnew hown2 hgrow hat hblk1'' hblk2'' (by show _ < wx.heap.size; omega) (fun g hg => by show _ < wx.heap.size; have := hgl g hg; omega)
          have HIn := Lib.hid hinv1
          have Happ := Lib.hid (appL_drop g s' hjl)
          clear hinv1 hown2 hgrow hat hblk1'' hblk2'' hown1 hnew hb1 hb2
          go_wp2_with fail
          go_roundw
          case rel => exact ⟨j + 1, (appT g s' l[j]).1, _, _, by omega, by go_num, R.1, R.2.1, R.2.2.1, by simp [Htl.out], by rw [← Hs1.out, Happ.out], by rw [← Hs2.out, Happ.out]; simp, HC.out.keep _ _ _ HIn.out R.2.2.2.1, R.2.2.2.2⟩
          case measure => simp [intOf]; omega
      · obtain ⟨A', cap', rfl, hc1, hc2, hargs⟩ := hrow.args
        obtain ⟨p0, p1, p2, p3⟩ := blk4 hblk2
        obtain ⟨q0, q1, q2, q3⟩ := blk4 hblk1
        have f0 := frz hblk1
        have hlt1 := lt_of_heap hblk1
        have hset := set4 (a' := .int .i64 k) (b' := .int .i64 n) (c' := .string nm) (d' := .slice A' ts.length cap') hblk1
        have Hset := Lib.hid hset
        have Hb1 := Lib.hid hblk1
        clear hblk1 hblk2 hset
        go_wp2_with fail
        obtain ⟨r0, r1, r2, r3⟩ := blk4 Hset.out
        refine bodyPost_ret (v := .agg #[.int .i64 k, .int .i64 n, .string nm, .slice A' ts.length cap'])
          (by simp [results, Try.results81, go_sem, r0, r1, r2, r3]) rfl ?_
        have hT1 : TBlk wr (w.heap.size + 1) := ⟨_, _, Hb1.out⟩
        have hb4 := (But.refl (· = w.heap.size + 1) wr).set4 (.inl rfl) (.int .i64 k) (.int .i64 n) (.string nm) (.slice A' ts.length cap')
        have e1 := Hs1.out
        have e2 := Hs2.out
        rw [List.drop_eq_nil_of_le (by omega)] at e1 e2
        simp only [appL, List.append_nil] at e1 e2
        have hk0 := Hk.out
        unfold appT
        rw [if_neg hk0, ← e1, ← e2]
        refine ⟨_, rfl, ?_, HC.out.keep _ _ _ HI'.out (hb4.mono fun i hi _ => by subst hi; exact ⟨by omega, hT1⟩), hbut.trans hb4 fun i hi _ => .inr (by subst hi; omega)⟩
        unfold TmNew TmIn
        exact ⟨A', ts.length, cap', rfl, hwf1, hwf2, h3, rfl, hc1, by have := Htl.out; omega, hc2, ArgsIn.keeps (fun k _ hk hd => ⟨hb4.heap (fun e => by have := hd.1; omega) hk, by have := hd.1; omega, hd.2.but hb4 (fun e => by have := hd.1; omega)⟩) hargs⟩

end Go.Proofs.Ytloekfnlidclcaa

namespace Go.Proofs.Ytloekfnlidclcaa
open Go.RowKit
set_option linter.unusedVariables false

def zeroT : Tm := .mk 0 0 ⟨#[]⟩ []

theorem var_args {t : Tm} (hk : t.kind = 0) (h : nodeB t = true) : t.args = [] := by
  cases t with
  | mk k n s l =>
    simp only [Tm.kind] at hk
    subst hk
    simp [nodeB] at h
    show l = []
    exact h.2

theorem TmNew.flat {w : World} {B : Nat} {t : Tm} {A : Option Addr} {cap : Nat} (h0 : t.args = []) (h1 : wf64 t.kind) (h2 : wf64 t.num) (h3 : t.name.size ≤ 140737488351232) (hc : t.args.length ≤ cap) (hm : cap ≤ maxLen) :
    TmNew w B t (.agg #[.int .i64 t.kind, .int .i64 t.num, .string t.name, .slice A t.args.length cap]) := by
  cases t with
  | mk k n s l =>
    simp only [Tm.args] at h0 ⊢
    subst h0
    unfold TmNew TmIn
    exact ⟨A, 0, cap, rfl, h1, h2, h3, rfl, by simp, by simp, hm, by unfold ArgsIn; trivial⟩

theorem zero_new (w : World) (B : Nat) : TmNew w B zeroT (.agg #[.int .i64 0, .int .i64 0, .string ⟨#[]⟩, .slice none 0 0]) := by
  unfold TmNew TmIn zeroT
  exact ⟨none, 0, 0, rfl, by unfold wf64; omega, by unfold wf64; omega, by decide, rfl, by simp, by simp, by unfold maxLen; omega, by unfold ArgsIn; trivial⟩

set_option maxHeartbeats 400000 in
theorem clone1_any (t : Tm) (w : World) (v : Value) (B : Nat) (hk : t.kind = 0) (hn : nodeB t = true) (h : TmAt w B t v) :
    Calls Try.prog 82 #[v] w fun e w' => ∃ u, e = .returned u ∧ TmNew w' w.heap.size t u ∧ But Nil w w' := by
  have h0 := var_args hk hn
  obtain ⟨A, cap, rfl, h1, h2, h3, h5, h6, hm, h7⟩ := h.form
  have Hk := Lib.hid hk
  have H0 := Lib.hid h0
  clear hk h0
  have hb2 : But Nil w ((w.alloc (TB t A cap)).alloc (TB zeroT none 0)) := ((But.refl _ _).alloc _).alloc _
  go_enter Try.func82, Try.ntmps82
  go_wp2_with fail
  exact bodyPost_ret (v := .agg #[.int .i64 t.kind, .int .i64 t.num, .string t.name, .slice A t.args.length cap]) (by simp [results, Try.results82, go_sem]) rfl
    ⟨_, rfl, TmNew.flat H0.out h1 h2 h3 h5 hm, ((But.refl _ _).alloc _).alloc _⟩

theorem clone1_enter (args : Array Value) (w : World) : (callFunc 82 args).run Try.prog w = .ok (.enter 82 args) w := by kernel_rfl

def idG : Unit → Tm → Unit × Tm := fun _ t => ((), t)

theorem appT_id (t : Tm) : appT idG () t = ((), t) := by
  induction t using Tm.ind with
  | h k n s l ih =>
    have : ∀ l : List Tm, (∀ a ∈ l, appT idG () a = ((), a)) → appL idG () l = ((), l) := by
      intro l
      induction l with
      | nil => intro _; rfl
      | cons t l ihl =>
        intro h
        simp only [appL]
        rw [h t (by simp), ihl (fun a ha => h a (by simp [ha]))]
    unfold appT
    split
    · rfl
    · rw [this l ih]

theorem clone1_clo (B : Nat) : Clo 82 #[] idG (fun _ _ => True) B where
  call s t w v hk hn hB ht _ := (clone1_any t w v B hk hn ht).mono fun e w' ⟨u, he, hu, hb⟩ => ⟨u, he, hu, trivial, hb.of_nil⟩
  enter := clone1_enter
  keep _ _ _ _ _ := trivial

def cloneT (t : Tm) : Tm := if validT t then t else zeroT

theorem valid_fits {t : Tm} (h : validT t = true) : fitsT t = true := by
  simp only [validT, Bool.and_eq_true] at h
  exact h.2

set_option maxHeartbeats 400000 in
theorem clone_any (t : Tm) (w : World) (v : Value) (h : TmAt w w.heap.size t v) :
    Calls Try.prog 62 #[v] w fun e w' => ∃ u, e = .returned u ∧ TmNew w' w.heap.size (cloneT t) u ∧ But Nil w w' := by
  obtain ⟨A, cap, rfl, -⟩ := h.form
  have hk1 : But Nil w ((w.alloc (TB t A cap)).alloc (TB zeroT none 0)) := ((But.refl _ _).alloc _).alloc _
  go_enter Try.func62, Try.ntmps62
  go_wp2_with fail
  refine (valid_any t _ _ (h.nil hk1)).mono ?_
  rintro e w1 ⟨rfl, hb1⟩
  have hk2 := hk1.trans_nil hb1
  obtain ⟨q0, q1, q2, q3⟩ := new4 (((But.refl Nil _).alloc _).trans_nil hb1) (w := w) id
  have hz := hb1.heap id (heap_new (w := w.alloc (TB t A cap)) (o := TB zeroT none 0) (k := w.heap.size + 1) (by simp))
  cases hv : validT t
  · have Hv := Lib.hid hv
    obtain ⟨p0, p1, p2, p3⟩ := blk4 hz
    have f0 := frz hz
    have hset := set4 (a' := .int .i64 0) (b' := .int .i64 0) (c' := .string ⟨#[]⟩) (d' := .slice none 0 0) hz
    have Hset := Lib.hid hset
    clear hset hz hv
    go_wp2_with fail
    obtain ⟨r0, r1, r2, r3⟩ := blk4 Hset.out
    have hb4 := (But.refl (· = w.heap.size + 1) w1).set4 (.inl rfl) (.int .i64 0) (.int .i64 0) (.string ⟨#[]⟩) (.slice none 0 0)
    refine bodyPost_ret (v := .agg #[.int .i64 0, .int .i64 0, .string ⟨#[]⟩, .slice none 0 0]) (by simp [results, Try.results62, go_sem, r0, r1, r2, r3]) rfl
      ⟨_, rfl, by simp only [cloneT, Hv.out]; exact zero_new _ _, hk2.trans hb4 fun i hi _ => .inr (by subst hi; omega)⟩
  · have Hv := Lib.hid hv
    have Hz := Lib.hid hz
    clear hv hz
    go_wp2_with fail
    refine (apply_any (clone1_clo w1.heap.size) t () _ _ (h.nil hk2) (valid_fits Hv.out) (Nat.le_refl _) trivial).mono ?_
    rw [appT_id]
    rintro e w2 ⟨u, rfl, hnew, -, hb2⟩
    obtain ⟨A1, cap1, hu, -⟩ := hnew.form
    have hS : ∀ k, Off w1.heap.size w1 k → ¬ k < w1.heap.size := fun k hk hl => by have := hk.1; omega
    have hz2 := hb2.heap (fun hs => hs.2 ⟨_, _, Hz.out⟩) Hz.out
    obtain ⟨p0, p1, p2, p3⟩ := blk4 hz2
    have f0 := frz hz2
    have hset := set4 (a' := .int .i64 t.kind) (b' := .int .i64 t.num) (c' := .string t.name) (d' := .slice A1 t.args.length cap1) hz2
    have Hset := Lib.hid hset
    have Hu := Lib.hid hu
    have hlt := lt_of_heap Hz.out
    have hbn : But Nil w1 w2 := hb2.mono fun i hi hlt => hS i hi hlt
    rw [hu]
    clear hset hz2 hu
    go_wp2_with fail
    obtain ⟨r0, r1, r2, r3⟩ := blk4 Hset.out
    have hb4 := (But.refl (· = w.heap.size + 1) w2).set4 (.inl rfl) (.int .i64 t.kind) (.int .i64 t.num) (.string t.name) (.slice A1 t.args.length cap1)
    refine bodyPost_ret (v := .agg #[.int .i64 t.kind, .int .i64 t.num, .string t.name, .slice A1 t.args.length cap1]) (by simp [results, Try.results62, go_sem, r0, r1, r2, r3]) rfl ?_
    rw [← Hu.out]
    exact ⟨_, rfl, by simp only [cloneT, Hv.out]; exact hnew.far hb4 (fun k hk => .inl (by subst hk; exact hlt)) hk2.size, (hk2.trans_nil hbn).trans hb4 fun i hi _ => .inr (by subst hi; omega)⟩

end Go.Proofs.Ytloekfnlidclcaa

namespace Go.Proofs.Ytloekfnlidclcaa
open Go.RowKit Go.Maps
set_option linter.unusedVariables false

theorem lawI : Keyed Try.prog 2 := int_keyed Try.underlying2

/-- Block b is a map with the keys ks, and the value f n at n. -/
def MapI (E : TypeId) (w : World) (b : Nat) (ks : List Int) (f : Int → Int) : Prop :=
  ∃ D : DataW Unit, w.ownsMap Try.prog 2 (plainElem Try.prog E) b ks.length D ∧ (∀ n, D.atKey (.int .i64 n) (.lit (.int .i64 0)) = .lit (.int .i64 (if n ∈ ks then f n else 0))) ∧
    (∀ n, Maps.has D (.int .i64 n) = decide (n ∈ ks)) ∧ Maps.size D = ks.length

theorem MapI.made (E : TypeId) (w : World) (f : Int → Int) : MapI E (w.alloc (.map #[] 0)) w.heap.size [] f :=
  ⟨.map [], World.ownsMap_made _ _ _ _, fun n => by simp [DataW.atKey], fun n => by simp [Maps.has], by simp [Maps.size]⟩

theorem MapI.but {E : TypeId} {S : Nat → Prop} {w w' : World} {b : Nat} {ks : List Int} {f : Int → Int} (h : MapI E w b ks f) (hb : But S w w') (hS : ¬ S b) : MapI E w' b ks f := by
  obtain ⟨D, ⟨es, clock, h1, h2⟩, r⟩ := h
  exact ⟨D, ⟨es, clock, hb.heap hS h1, h2⟩, r⟩

theorem MapI.isMap {E : TypeId} {w : World} {b : Nat} {ks : List Int} {f : Int → Int} (h : MapI E w b ks f) : ∃ es clock, w.heap[b]? = some (.map es clock) := by
  obtain ⟨D, ⟨es, clock, h1, h2⟩, r⟩ := h
  exact ⟨es, clock, h1⟩

theorem lit_ne {n m : Int} (h : ¬ n = m) : (Lit.int .i64 n) ≠ Lit.int .i64 m := by
  intro e
  injection e with _ e
  exact h e

/-- A new key. -/
theorem MapI.put {E : TypeId} {w' : World} {b : Nat} {D : DataW Unit} {ks : List Int} {f g : Int → Int} {x c : Int} (hown : w'.ownsMap Try.prog 2 (plainElem Try.prog E) b (ks.length + 1) (D.put (.int .i64 x) (.lit (.int .i64 c))))
    (hD : IsMap D) (hT : Tidy D) (hat : ∀ n, D.atKey (.int .i64 n) (.lit (.int .i64 0)) = .lit (.int .i64 (if n ∈ ks then f n else 0)))
    (hh : ∀ n, Maps.has D (.int .i64 n) = decide (n ∈ ks)) (hs : Maps.size D = ks.length) (hx : ¬ x ∈ ks) (hgx : g x = c) (hg : ∀ n ∈ ks, g n = f n) : MapI E w' b (ks ++ [x]) g := by
  refine ⟨_, by simpa using hown, fun n => ?_, fun n => ?_, ?_⟩
  · by_cases hn : n = x
    · subst hn
      rw [atKey_put_same hD (show WideAt.IsKeyLit (Lit.int .i64 n) from trivial)]
      simp [hgx]
    · rw [atKey_put_other (lit_ne hn), hat n]
      by_cases hk : n ∈ ks
      · simp [hk, hg n hk]
      · simp [hk, hn]
  · by_cases hn : n = x
    · subst hn
      rw [has_put_same hD (show WideAt.IsKeyLit (Lit.int .i64 n) from trivial)]
      simp
    · rw [has_put_other (lit_ne hn), hh n]
      simp [hn]
  · rw [size_put hT, hh x, hs]
    simp [hx]

/-- Distinct integers from 0 to m are m + 1 at most. -/
theorem nodup_le : ∀ (m : Nat) (l : List Int), l.Nodup → (∀ x ∈ l, 0 ≤ x ∧ x < m) → l.length ≤ m
  | 0, l, _, h => by
    cases l with
    | nil => simp
    | cons x l => have := h x (by simp); omega
  | m + 1, l, hn, h => by
    have h1 := nodup_le m (l.erase (m : Int)) (hn.erase _) (fun x hx => by
      have hx' := (List.Nodup.mem_erase_iff hn).1 hx
      have := h x hx'.2
      have hne := hx'.1
      omega)
    have h2 := List.length_erase (a := (m : Int)) (l := l)
    split at h2 <;> omega

end Go.Proofs.Ytloekfnlidclcaa

namespace Go.Proofs.Ytloekfnlidclcaa
open Go.RowKit Go.Maps
set_option linter.unusedVariables false

def addV (l : List Int) (n : Int) : List Int := if n ∈ l then l else l ++ [n]
/-- The canonical form: l are the variables that were met before. -/
def canG (l : List Int) (t : Tm) : List Int × Tm := (addV l t.num, .mk 0 ((addV l t.num).idxOf t.num) ⟨#[]⟩ [])

structure InvV (l : List Int) : Prop where
  nodup : l.Nodup
  bd : ∀ x ∈ l, 0 ≤ x ∧ x ≤ 1099511627776

theorem InvV.len {l : List Int} (h : InvV l) : l.length ≤ 1099511627777 := nodup_le 1099511627777 l h.nodup fun x hx => by have := h.bd x hx; omega

theorem InvV.add {l : List Int} (h : InvV l) {n : Int} (h0 : 0 ≤ n) (h1 : n ≤ 1099511627776) : InvV (addV l n) := by
  unfold addV
  split
  · exact h
  · rename_i hn
    refine ⟨?_, fun x hx => ?_⟩
    · rw [List.nodup_append]
      exact ⟨h.nodup, by simp, fun a ha b hb => by simp at hb; subst hb; intro e; subst e; exact hn ha⟩
    · rcases List.mem_append.1 hx with hx | hx
      · exact h.bd x hx
      · simp at hx; omega

theorem var_bd {t : Tm} (hk : t.kind = 0) (h : nodeB t = true) : 0 ≤ t.num ∧ t.num ≤ 1099511627776 := by
  cases t with
  | mk k n s l =>
    simp only [Tm.kind] at hk
    subst hk
    simp [nodeB] at h
    exact h.1.1

theorem zeroE64 (w : World) : (zeroValue 2).run Try.prog w = .ok (.int .i64 0) w := by kernel_rfl

/-- The canonical form. -/
def canonT (t : Tm) : Tm := if validT t then (appT canG [] t).2 else zeroT

end Go.Proofs.Ytloekfnlidclcaa

namespace Go.Proofs.Ytloekfnlidclcaa
open Go.RowKit Go.Maps
set_option linter.unusedVariables false

/-- A slice of integers at A reads as l; its cells lie in blocks of D. -/
def IntsIn (w : World) (D : Nat → Prop) (A : Option Addr) (l : List Int) : Prop :=
  ∀ j (h : j < l.length), ∃ b o, A = some ⟨b, o, none⟩ ∧ D b ∧ w.cell? ⟨b, o + j, none⟩ = some (.int .i64 l[j])

theorem IntsIn.but {S D D' : Nat → Prop} {w w' : World} {A : Option Addr} {l : List Int} (h : IntsIn w D A l) (hb : But S w w') (hS : ∀ k, D k → ¬ S k ∧ D' k) : IntsIn w' D' A l := fun j hj => by
  obtain ⟨b, o, rfl, hd, hc⟩ := h j hj
  exact ⟨b, o, rfl, (hS b hd).2, hb.cell (hS b hd).1 hc⟩

theorem IntsIn.nil {D : Nat → Prop} {w w' : World} {A : Option Addr} {l : List Int} (h : IntsIn w D A l) (hb : But Nil w w') : IntsIn w' D A l := h.but hb fun k hk => ⟨id, hk⟩

theorem IntsIn.of_row {w : World} {base e : Nat} {v : Value} {l : List Int} (h : w.ownsRow base e 1 v l.length (l.map (.int .i64))) : ∃ A cap, v = .slice A l.length cap ∧ l.length ≤ cap ∧ cap ≤ maxLen ∧ IntsIn w (fun b => base ≤ b) A l := by
  rcases h.2 with ⟨rfl, h0⟩ | ⟨g, cap, cur, rfl, hg, hh, hc1, hc2, hc3, hc4⟩
  · have : l = [] := List.eq_nil_of_length_eq_zero h0
    subst this
    exact ⟨none, 0, rfl, by simp, by unfold maxLen; omega, fun j hj => by simp at hj⟩
  · refine ⟨some ⟨g, 0, none⟩, cap, rfl, hc1, hc2, fun j hj => ⟨g, 0, rfl, hg, ?_⟩⟩
    rw [h.cellAt _ (by omega)]
    simp [hj]

def varG (l : List Int) (t : Tm) : List Int × Tm := (addV l t.num, t)

theorem Try.infoI64 : (Try.prog.info? 2).map (fun i => (i.zero, i.size, i.bytes)) = some (some (.int .i64 0), 1, 8) := by kernel_rfl

theorem zeroEint (w : World) : (zeroValue 3).run Try.prog w = .ok (.int .i64 0) w := by kernel_rfl

theorem own_far {w : World} {base e size n k : Nat} {v : Value} {xs : List Value} {o : Obj} (h : w.ownsRow base e size v n xs) (hk : w.heap[k]? = some o) (hne : ∀ cs f, o ≠ .cells cs e f) : v.ownBlock ≠ some k := by
  rcases h.2 with ⟨rfl, _⟩ | ⟨g', cap, cur, rfl, hg', hh, r⟩
  · simp [Value.ownBlock]
  · intro e
    obtain rfl : g' = k := by simpa [Value.ownBlock] using e
    rw [hk] at hh
    injection hh with hh
    exact hne _ _ hh

theorem own_ntblk {w : World} {base e size n k : Nat} {v : Value} {xs : List Value} (h : w.ownsRow base e size v n xs) (he : e ≠ 24) (hk : v.ownBlock = some k) : ¬ TBlk w k := fun ⟨c, f, hc⟩ => own_far h hc (by intro cs f e'; injection e' with _ e'; exact he e'.symm) hk

/-- The variables. -/
def varsT (t : Tm) : List Int := if validT t then (appT varG [] t).1 else []

end Go.Proofs.Ytloekfnlidclcaa

namespace Go.Proofs.Ytloekfnlidclcaa
open Go.RowKit Go.Maps
set_option linter.unusedVariables false

def numB (n : Int) : Bool := decide (0 ≤ n) && decide (n ≤ 1099511627776)

def renG (from_ : Int) : Unit → Tm → Unit × Tm := fun _ t => ((), .mk 0 (t.num + from_) ⟨#[]⟩ [])

def renameT (t : Tm) (n : Int) : Tm × Int :=
  if validT t && numB n then if (varsT t).any (fun v => decide (1099511627776 - n < v)) then (zeroT, 2) else ((appT (renG n) () t).2, 0) else (zeroT, 1)

end Go.Proofs.Ytloekfnlidclcaa

namespace Go.Proofs.Ytloekfnlidclcaa
open Go.RowKit Go.Maps
set_option linter.unusedVariables false

/-- The first function of Replace counts. -/
def repS (v d : Int) : Int → Tm → Int × Tm := fun s t => (if t.num = v then wrap64 (s + d) else s, t)
/-- The second puts the term in. -/
def repG (v : Int) (by_ : Tm) : Unit → Tm → Unit × Tm := fun _ t => ((), if t.num = v then cloneT by_ else t)

def InvS (pv ps pe : Nat) (v d s : Int) (w : World) : Prop :=
  w.heap[pv]? = some (.cells #[.int .i64 v] 2 (0, 0)) ∧ w.heap[ps]? = some (.cells #[.int .i64 s] 3 (0, 0)) ∧ w.heap[pe]? = some (.cells #[.int .i64 d] 3 (0, 0)) ∧ pe ≠ ps

/-- The term that is put in lies below B. -/
def InvB (B pv pb : Nat) (v : Int) (by_ : Tm) (w : World) : Prop :=
  w.heap[pv]? = some (.cells #[.int .i64 v] 2 (0, 0)) ∧ pb < B ∧ B ≤ w.heap.size ∧ ∃ A cap, w.heap[pb]? = some (TB by_ A cap) ∧ TmIn w (fun b => b < B) by_ (.agg #[.int .i64 by_.kind, .int .i64 by_.num, .string by_.name, .slice A by_.args.length cap])

theorem InvB.but {S : Nat → Prop} {B pv pb : Nat} {v : Int} {by_ : Tm} {w w' : World} (h : InvB B pv pb v by_ w) (hb : But S w w') (hv : ¬ S pv) (hS : ∀ k, S k → B ≤ k) : InvB B pv pb v by_ w' := by
  obtain ⟨h1, h2, h3, A, cap, h4, h5⟩ := h
  exact ⟨hb.heap hv h1, h2, by have := hb.size; omega, A, cap, hb.heap (fun hs => by have := hS _ hs; omega) h4, TmIn.keeps (fun k o hk hd => ⟨hb.heap (fun hs => by have := hS _ hs; omega) hk, hd⟩) _ h5⟩

theorem But.setNew {a w : World} (h : But Nil a w) {k i : Nat} (hk : a.heap.size ≤ k) {u : Value} : But Nil a (w.setCell ⟨k, i, none⟩ u) := h.setCell (p := ⟨k, i, none⟩) (.inr hk) u

theorem size_bd (t : Tm) : 1 ≤ sizeT t ∧ sizeT t ≤ 2001 := by
  have := left_bd t 2001 (by omega)
  unfold sizeT
  omega

def replaceT (t : Tm) (v : Int) (by_ : Tm) : Tm × Int :=
  if validT t && numB v && validT by_ then if 2000 < (appT (repS v (sizeT by_ - 1)) (sizeT t) t).1 then (zeroT, 2) else ((appT (repG v by_) () t).2, 0) else (zeroT, 1)

end Go.Proofs.Ytloekfnlidclcaa

namespace Go.Proofs.Ytloekfnlidclcaa
open Go.RowKit Go.Maps
set_option linter.unusedVariables false

/-- The four cells of a term. -/
abbrev C4 (t : Tm) (A : Option Addr) (cap : Nat) : List Value := [.int .i64 t.kind, .int .i64 t.num, .string t.name, .slice A t.args.length cap]
abbrev VT (t : Tm) (A : Option Addr) (cap : Nat) : Value := .agg #[.int .i64 t.kind, .int .i64 t.num, .string t.name, .slice A t.args.length cap]

/-- A row of one, two, three terms. -/
theorem args1 {w : World} {B b : Nat} {cs : Array Value} {f : Nat × Nat} {t : Tm} {A : Option Addr} {cap : Nat} (hb : w.heap[b]? = some (.cells cs 24 f)) (hc : cs.toList = C4 t A cap) (ht : TmAt w B t (VT t A cap)) :
    ArgsAt w B [t] (some ⟨b, 0, none⟩) 0 := by
  have hcs : cs = (C4 t A cap).toArray := by rw [← hc]
  subst hcs
  unfold ArgsAt ArgsIn ArgsIn
  exact ⟨⟨b, 0, _, _, _, _, rfl, .inr ⟨_, _, hb⟩, cell_of_row _ _ 0 _ _ _ hb, cell_of_row _ _ 1 _ _ _ hb, cell_of_row _ _ 2 _ _ _ hb, cell_of_row _ _ 3 _ _ _ hb, ht⟩, trivial⟩

theorem args2 {w : World} {B b : Nat} {cs : Array Value} {f : Nat × Nat} {t t' : Tm} {A A' : Option Addr} {cap cap' : Nat} (hb : w.heap[b]? = some (.cells cs 24 f)) (hc : cs.toList = C4 t A cap ++ C4 t' A' cap')
    (ht : TmAt w B t (VT t A cap)) (ht' : TmAt w B t' (VT t' A' cap')) : ArgsAt w B [t, t'] (some ⟨b, 0, none⟩) 0 := by
  have hcs : cs = (C4 t A cap ++ C4 t' A' cap').toArray := by rw [← hc]
  subst hcs
  unfold ArgsAt ArgsIn ArgsIn ArgsIn
  exact ⟨⟨b, 0, _, _, _, _, rfl, .inr ⟨_, _, hb⟩, cell_of_row _ _ 0 _ _ _ hb, cell_of_row _ _ 1 _ _ _ hb, cell_of_row _ _ 2 _ _ _ hb, cell_of_row _ _ 3 _ _ _ hb, ht⟩,
    ⟨b, 0, _, _, _, _, rfl, .inr ⟨_, _, hb⟩, cell_of_row _ _ 4 _ _ _ hb, cell_of_row _ _ 5 _ _ _ hb, cell_of_row _ _ 6 _ _ _ hb, cell_of_row _ _ 7 _ _ _ hb, ht'⟩, trivial⟩

theorem args3 {w : World} {B b : Nat} {cs : Array Value} {f : Nat × Nat} {t t' t'' : Tm} {A A' A'' : Option Addr} {cap cap' cap'' : Nat} (hb : w.heap[b]? = some (.cells cs 24 f)) (hc : cs.toList = C4 t A cap ++ C4 t' A' cap' ++ C4 t'' A'' cap'')
    (ht : TmAt w B t (VT t A cap)) (ht' : TmAt w B t' (VT t' A' cap')) (ht'' : TmAt w B t'' (VT t'' A'' cap'')) : ArgsAt w B [t, t', t''] (some ⟨b, 0, none⟩) 0 := by
  have hcs : cs = (C4 t A cap ++ C4 t' A' cap' ++ C4 t'' A'' cap'').toArray := by rw [← hc]
  subst hcs
  unfold ArgsAt ArgsIn ArgsIn ArgsIn ArgsIn
  exact ⟨⟨b, 0, _, _, _, _, rfl, .inr ⟨_, _, hb⟩, cell_of_row _ _ 0 _ _ _ hb, cell_of_row _ _ 1 _ _ _ hb, cell_of_row _ _ 2 _ _ _ hb, cell_of_row _ _ 3 _ _ _ hb, ht⟩,
    ⟨b, 0, _, _, _, _, rfl, .inr ⟨_, _, hb⟩, cell_of_row _ _ 4 _ _ _ hb, cell_of_row _ _ 5 _ _ _ hb, cell_of_row _ _ 6 _ _ _ hb, cell_of_row _ _ 7 _ _ _ hb, ht'⟩,
    ⟨b, 0, _, _, _, _, rfl, .inr ⟨_, _, hb⟩, cell_of_row _ _ 8 _ _ _ hb, cell_of_row _ _ 9 _ _ _ hb, cell_of_row _ _ 10 _ _ _ hb, cell_of_row _ _ 11 _ _ _ hb, ht''⟩, trivial⟩

theorem mk_at {w : World} {B : Nat} {k n : Int} {s : ByteArray} {l : List Tm} {A : Option Addr} {cap : Nat} (h1 : wf64 k) (h2 : wf64 n) (h3 : s.size ≤ 140737488351232) (h5 : l.length ≤ cap) (h6 : l.length ≤ 140737488351232) (hm : cap ≤ maxLen) (h : ArgsAt w B l A 0) :
    TmAt w B (.mk k n s l) (.agg #[.int .i64 k, .int .i64 n, .string s, .slice A l.length cap]) := by
  unfold TmAt TmIn
  exact ⟨A, l.length, cap, rfl, h1, h2, h3, rfl, h5, h6, hm, h⟩

theorem flat_new {w : World} {B : Nat} {k n : Int} {s : ByteArray} (h1 : wf64 k) (h2 : wf64 n) (h3 : s.size ≤ 140737488351232) : TmNew w B (.mk k n s []) (.agg #[.int .i64 k, .int .i64 n, .string s, .slice none 0 0]) := by
  unfold TmNew TmIn
  exact ⟨none, 0, 0, rfl, h1, h2, h3, rfl, by simp, by simp, by unfold maxLen; omega, by unfold ArgsIn; trivial⟩

def varT (n : Int) : Tm := if numB n then .mk 0 n ⟨#[]⟩ [] else zeroT
def intT (n : Int) : Tm := .mk 1 n ⟨#[]⟩ []
def atomT (s : ByteArray) : Tm := cloneT (.mk 2 0 s [])
def structT (s : ByteArray) (l : List Tm) : Tm := if l.length = 0 then atomT s else cloneT (.mk 3 0 s l)

theorem int_any (n : Int) (w : World) (h : wf64 n) : Calls Try.prog 72 #[.int .i64 n] w fun e w' => ∃ u, e = .returned u ∧ TmNew w' w.heap.size (intT n) u ∧ But Nil w w' := by
  go_enter Try.func72, Try.ntmps72
  go_wp2_with fail
  exact bodyPost_ret (v := .agg #[.int .i64 1, .int .i64 n, .string ⟨#[]⟩, .slice none 0 0]) (by simp [results, Try.results72, go_sem]) rfl
    ⟨_, rfl, flat_new (by unfold wf64; omega) h (by decide), (But.refl _ _).alloc _⟩

set_option maxHeartbeats 400000 in
theorem atom_any (s : ByteArray) (w : World) (h : s.size ≤ 140737488351232) : Calls Try.prog 85 #[.string s] w fun e w' => ∃ u, e = .returned u ∧ TmNew w' w.heap.size (atomT s) u ∧ But Nil w w' := by
  have hk1 : But Nil w (w.alloc (TB zeroT none 0)) := (But.refl _ _).alloc _
  go_enter Try.func85, Try.ntmps85
  go_wp2_with fail
  refine (clone_any (.mk 2 0 s []) _ _ ((flat_new (B := 0) (by unfold wf64; omega) (by unfold wf64; omega) h).at_ _)).mono ?_
  rintro e w1 ⟨u, rfl, hnew, hb1⟩
  obtain ⟨A2, cap2, hu, -⟩ := hnew.form
  have hk2 := hk1.trans_nil hb1
  have hz := hb1.heap id (heap_new (w := w) (o := TB zeroT none 0) rfl)
  obtain ⟨p0, p1, p2, p3⟩ := blk4 hz
  have f0 := frz hz
  have Hset := Lib.hid (set4 (a' := .int .i64 (cloneT (.mk 2 0 s [])).kind) (b' := .int .i64 (cloneT (.mk 2 0 s [])).num) (c' := .string (cloneT (.mk 2 0 s [])).name) (d' := .slice A2 (cloneT (.mk 2 0 s [])).args.length cap2) hz)
  have Hu := Lib.hid hu
  rw [hu]
  clear hz hu
  go_wp2_with fail
  obtain ⟨r0, r1, r2, r3⟩ := blk4 Hset.out
  have hb4 := (But.refl (· = w.heap.size) w1).set4 (.inl rfl) (.int .i64 (cloneT (.mk 2 0 s [])).kind) (.int .i64 (cloneT (.mk 2 0 s [])).num) (.string (cloneT (.mk 2 0 s [])).name) (.slice A2 (cloneT (.mk 2 0 s [])).args.length cap2)
  refine bodyPost_ret (v := VT (cloneT (.mk 2 0 s [])) A2 cap2) (by simp [results, Try.results85, go_sem, r0, r1, r2, r3]) rfl ?_
  rw [VT, ← Hu.out]
  exact ⟨_, rfl, hnew.far hb4 (fun k hk => .inl (by subst hk; simp)) (by simp), hk2.trans hb4 fun i hi _ => .inr (by subst hi; omega)⟩

set_option maxHeartbeats 400000 in
theorem struct_any (s : ByteArray) (l : List Tm) (A : Option Addr) (cap : Nat) (w : World) (h : s.size ≤ 140737488351232) (h5 : l.length ≤ cap) (h6 : l.length ≤ 140737488351232) (hm : cap ≤ maxLen) (hl : ArgsAt w w.heap.size l A 0) :
    Calls Try.prog 86 #[.string s, .slice A l.length cap] w fun e w' => ∃ u, e = .returned u ∧ TmNew w' w.heap.size (structT s l) u ∧ But Nil w w' := by
  have hk1 : But Nil w (w.alloc (TB zeroT none 0)) := (But.refl _ _).alloc _
  by_cases h0 : l.length = 0
  · have h0' : ((l.length : Int) == 0) = true := by simpa using h0
    have H0 := Lib.hid h0
    clear h0
    go_enter Try.func86, Try.ntmps86
    go_wp2_with fail
    refine (atom_any s _ h).mono ?_
    rintro e w1 ⟨u, rfl, hnew, hb1⟩
    obtain ⟨A2, cap2, hu, -⟩ := hnew.form
    have hk2 := hk1.trans_nil hb1
    have hz := hb1.heap id (heap_new (w := w) (o := TB zeroT none 0) rfl)
    obtain ⟨p0, p1, p2, p3⟩ := blk4 hz
    have f0 := frz hz
    have Hset := Lib.hid (set4 (a' := .int .i64 (atomT s).kind) (b' := .int .i64 (atomT s).num) (c' := .string (atomT s).name) (d' := .slice A2 (atomT s).args.length cap2) hz)
    have Hu := Lib.hid hu
    rw [hu]
    clear hz hu
    go_wp2_with fail
    obtain ⟨r0, r1, r2, r3⟩ := blk4 Hset.out
    have hb4 := (But.refl (· = w.heap.size) w1).set4 (.inl rfl) (.int .i64 (atomT s).kind) (.int .i64 (atomT s).num) (.string (atomT s).name) (.slice A2 (atomT s).args.length cap2)
    refine bodyPost_ret (v := VT (atomT s) A2 cap2) (by simp [results, Try.results86, go_sem, r0, r1, r2, r3]) rfl ?_
    rw [VT, ← Hu.out]
    exact ⟨_, rfl, by simp only [structT, if_pos H0.out]; exact hnew.far hb4 (fun k hk => .inl (by subst hk; simp)) (by simp), hk2.trans hb4 fun i hi _ => .inr (by subst hi; omega)⟩
  · have h0' : ((l.length : Int) == 0) = false := by simpa using h0
    have H0 := Lib.hid h0
    clear h0
    go_enter Try.func86, Try.ntmps86
    go_wp2_with fail
    refine (clone_any (.mk 3 0 s l) _ _ (TmAt.nil (mk_at (by unfold wf64; omega) (by unfold wf64; omega) h h5 h6 hm hl) hk1)).mono ?_
    rintro e w1 ⟨u, rfl, hnew, hb1⟩
    obtain ⟨A2, cap2, hu, -⟩ := hnew.form
    have hk2 := hk1.trans_nil hb1
    have hz := hb1.heap id (heap_new (w := w) (o := TB zeroT none 0) rfl)
    obtain ⟨p0, p1, p2, p3⟩ := blk4 hz
    have f0 := frz hz
    have Hset := Lib.hid (set4 (a' := .int .i64 (cloneT (.mk 3 0 s l)).kind) (b' := .int .i64 (cloneT (.mk 3 0 s l)).num) (c' := .string (cloneT (.mk 3 0 s l)).name) (d' := .slice A2 (cloneT (.mk 3 0 s l)).args.length cap2) hz)
    have Hu := Lib.hid hu
    rw [hu]
    clear hz hu
    go_wp2_with fail
    obtain ⟨r0, r1, r2, r3⟩ := blk4 Hset.out
    have hb4 := (But.refl (· = w.heap.size) w1).set4 (.inl rfl) (.int .i64 (cloneT (.mk 3 0 s l)).kind) (.int .i64 (cloneT (.mk 3 0 s l)).num) (.string (cloneT (.mk 3 0 s l)).name) (.slice A2 (cloneT (.mk 3 0 s l)).args.length cap2)
    refine bodyPost_ret (v := VT (cloneT (.mk 3 0 s l)) A2 cap2) (by simp [results, Try.results86, go_sem, r0, r1, r2, r3]) rfl ?_
    rw [VT, ← Hu.out]
    exact ⟨_, rfl, by simp only [structT, if_neg H0.out]; exact hnew.far hb4 (fun k hk => .inl (by subst hk; simp)) (by simp), hk2.trans hb4 fun i hi _ => .inr (by subst hi; omega)⟩

end Go.Proofs.Ytloekfnlidclcaa

namespace Go.Proofs.Ytloekfnlidclcaa
open Go.RowKit
set_option linter.unusedVariables false

mutual
def nodesT : Tm → Nat
  | .mk _ _ _ l => 1 + nodesL l
def nodesL : List Tm → Nat
  | [] => 0
  | t :: l => nodesT t + nodesL l
end

theorem nodes_pos (t : Tm) : 1 ≤ nodesT t := by cases t; simp [nodesT]

theorem cnt_min (t : Tm) : ∀ m, 0 < m → cntT t m = min (nodesT t : Int) m := by
  induction t using Tm.ind with
  | h k n s l ih =>
    intro m hm
    have : ∀ (l : List Tm), (∀ a ∈ l, ∀ m, 0 < m → cntT a m = min (nodesT a : Int) m) → ∀ n m, n ≤ m → cntL l n m = min (n + (nodesL l : Int)) m := by
      intro l
      induction l with
      | nil => intro _ n m h; simp [cntL, nodesL]; omega
      | cons t l ihl =>
        intro h n m hnm
        simp only [cntL, nodesL]
        have hp := nodes_pos t
        by_cases hlt : n < m
        · rw [if_pos hlt, h t (by simp) _ (by omega), ihl (fun a ha => h a (by simp [ha])) _ m (by omega)]
          push_cast
          omega
        · rw [if_neg hlt]
          push_cast
          omega
    simp only [cntT, nodesT]
    rw [this l ih 1 m (by omega)]
    push_cast
    omega

theorem size_min (t : Tm) : sizeT t = min (nodesT t : Int) 2001 := by rw [← size_cnt, cnt_min t 2001 (by omega)]

theorem valid_nodes {t : Tm} (h : validT t = true) : nodesT t ≤ 2000 := by
  simp only [validT, Bool.and_eq_true, decide_eq_true_eq] at h
  have := size_min t
  omega

theorem nodes_get {l : List Tm} {j : Nat} (hj : j < l.length) : nodesT l[j] ≤ nodesL l := by
  induction l generalizing j with
  | nil => simp at hj
  | cons t l ih =>
    rcases j with _ | j
    · simp [nodesL]
    · have := ih (j := j) (by simpa using hj)
      simp [nodesL]
      omega

/-- An argument of a valid term is valid. -/
theorem valid_arg {k n : Int} {s : ByteArray} {l : List Tm} (h : validT (.mk k n s l) = true) {j : Nat} (hj : j < l.length) : validT l[j] = true := by
  have hn := valid_nodes h
  have hf : fitsT (.mk k n s l) = true := by
    simp only [validT, Bool.and_eq_true] at h
    exact h.2
  have hg := nodes_get hj
  have hs := size_min l[j]
  simp only [nodesT] at hn
  have hfl : ∀ (l : List Tm) (j : Nat) (hj : j < l.length), fitsL l = true → fitsT l[j] = true := by
    intro l
    induction l with
    | nil => intro j hj; simp at hj
    | cons t l ih =>
      intro j hj h
      simp only [fitsL, Bool.and_eq_true] at h
      rcases j with _ | j
      · exact h.1
      · exact ih j (by simpa using hj) h.2
  unfold fitsT at hf
  simp only [Bool.and_eq_true] at hf
  simp only [validT, Bool.and_eq_true, decide_eq_true_eq]
  exact ⟨by omega, hfl l j hj hf.2⟩

end Go.Proofs.Ytloekfnlidclcaa

namespace Go.Proofs.Ytloekfnlidclcaa
open Go.RowKit Go.Maps
set_option linter.unusedVariables false

def variantT (t u : Tm) : Bool := validT t && validT u && eqT (canonT t) (canonT u)

end Go.Proofs.Ytloekfnlidclcaa

namespace Go.Proofs.Ytloekfnlidclcaa
open Go.RowKit Go.Maps
set_option linter.unusedVariables false

def indOk (s : ByteArray) (n : Int) : Bool := decide ((s.size : Int) ≤ 100) && (decide (0 ≤ n) && decide (n ≤ 8))
def indT (s : ByteArray) (n : Int) : Tm := if indOk s n then structT ⟨#[47]⟩ [atomT s, intT n] else zeroT

end Go.Proofs.Ytloekfnlidclcaa

namespace Go.Proofs.Ytloekfnlidclcaa
open Go.RowKit Go.Maps
set_option linter.unusedVariables false

/-- The sizes of the elements, added to s, stay within the limit, and each element is valid. -/
def lszB : List Tm → Int → Bool
  | [], _ => true
  | x :: l, s => if 2000 < s + (1 + sizeT x) then false else fitsT x && lszB l (s + (1 + sizeT x))

def consT (x t : Tm) : Tm := .mk 3 0 ⟨#[46]⟩ [x, t]
def consL (l : List Tm) (t : Tm) : Tm := l.foldr (fun x t => consT (cloneT x) t) t
def listT (l : List Tm) (tail : Tm) : Tm := if decide (l.length ≤ 2000) && validT tail && lszB l (sizeT tail) then consL l (cloneT tail) else zeroT

theorem consL_drop {l : List Tm} {j : Nat} (hj : j < l.length) (t : Tm) : consL (l.drop j) t = consT (cloneT l[j]) (consL (l.drop (j + 1)) t) := by
  rw [List.drop_eq_getElem_cons hj]
  rfl

theorem wf64_int {w : World} {D : Nat → Prop} {t : Tm} {v : Value} (h : TmIn w D t v) : wf64 t.kind ∧ wf64 t.num := let ⟨_, _, _, h1, h2, _⟩ := h.form; ⟨h1, h2⟩

/-- A cons of two terms. -/
theorem cons_in {w : World} {D : Nat → Prop} {b : Nat} {cs : Array Value} {f : Nat × Nat} {t t' : Tm} {A A' : Option Addr} {cap cap' : Nat} (hb : w.heap[b]? = some (.cells cs 24 f)) (hB : D b) (hc : cs.toList = C4 t A cap ++ C4 t' A' cap')
    (ht : TmIn w D t (VT t A cap)) (ht' : TmIn w D t' (VT t' A' cap')) : TmIn w D (consT t t') (.agg #[.int .i64 3, .int .i64 0, .string ⟨#[46]⟩, .slice (some ⟨b, 0, none⟩) 2 2]) := by
  have hcs : cs = (C4 t A cap ++ C4 t' A' cap').toArray := by rw [← hc]
  subst hcs
  unfold consT TmIn ArgsIn ArgsIn ArgsIn
  exact ⟨_, _, _, rfl, by unfold wf64; omega, by unfold wf64; omega, by decide, rfl, by omega, by omega, by unfold maxLen; omega,
    ⟨b, 0, _, _, _, _, rfl, hB, cell_of_row _ _ 0 _ _ _ hb, cell_of_row _ _ 1 _ _ _ hb, cell_of_row _ _ 2 _ _ _ hb, cell_of_row _ _ 3 _ _ _ hb, ht⟩,
    ⟨b, 0, _, _, _, _, rfl, hB, cell_of_row _ _ 4 _ _ _ hb, cell_of_row _ _ 5 _ _ _ hb, cell_of_row _ _ 6 _ _ _ hb, cell_of_row _ _ 7 _ _ _ hb, ht'⟩, trivial⟩

theorem OBlk.nil {w w' : World} {b : Nat} (h : OBlk w b) (hb : But Nil w w') : OBlk w' b := h.but hb id

/-- One step of List: the new cons. -/
theorem list_step {w wr w5 : World} {g : Nat} {x t : Tm} {A2 A3 : Option Addr} {cap2 cap3 : Nat} (hwr : But Nil w wr) (hg : w.heap.size ≤ g)
    (hblk : wr.heap[g]? = some (TB t A2 cap2)) (ht : TmIn wr (fun b => w.heap.size ≤ b ∧ OBlk wr b ∧ b ≠ g) t (VT t A2 cap2)) (hb5 : But Nil wr.drew w5) (hx : TmNew w5 wr.drew.heap.size x (VT x A3 cap3)) :
    ((((((w5.setCell ⟨g, 0, none⟩ (.int .i64 3)).setCell ⟨g, 1, none⟩ (.int .i64 0)).setCell ⟨g, 2, none⟩ (.string ⟨#[46]⟩)).setCell ⟨g, 3, none⟩ (.slice (some ⟨w5.heap.size, 0, none⟩) 2 2))).alloc (.cells (C4 x A3 cap3 ++ C4 t A2 cap2).toArray 24)).heap[g]? = some (TB (consT x t) (some ⟨w5.heap.size, 0, none⟩) 2) ∧
    TmIn ((((((w5.setCell ⟨g, 0, none⟩ (.int .i64 3)).setCell ⟨g, 1, none⟩ (.int .i64 0)).setCell ⟨g, 2, none⟩ (.string ⟨#[46]⟩)).setCell ⟨g, 3, none⟩ (.slice (some ⟨w5.heap.size, 0, none⟩) 2 2))).alloc (.cells (C4 x A3 cap3 ++ C4 t A2 cap2).toArray 24)) (fun b => w.heap.size ≤ b ∧ OBlk ((((((w5.setCell ⟨g, 0, none⟩ (.int .i64 3)).setCell ⟨g, 1, none⟩ (.int .i64 0)).setCell ⟨g, 2, none⟩ (.string ⟨#[46]⟩)).setCell ⟨g, 3, none⟩ (.slice (some ⟨w5.heap.size, 0, none⟩) 2 2))).alloc (.cells (C4 x A3 cap3 ++ C4 t A2 cap2).toArray 24)) b ∧ b ≠ g) (consT x t) (VT (consT x t) (some ⟨w5.heap.size, 0, none⟩) 2) ∧
    But (· = g) w5 ((((((w5.setCell ⟨g, 0, none⟩ (.int .i64 3)).setCell ⟨g, 1, none⟩ (.int .i64 0)).setCell ⟨g, 2, none⟩ (.string ⟨#[46]⟩)).setCell ⟨g, 3, none⟩ (.slice (some ⟨w5.heap.size, 0, none⟩) 2 2))).alloc (.cells (C4 x A3 cap3 ++ C4 t A2 cap2).toArray 24)) := by
  have hgl := lt_of_heap hblk
  have hwd : wr.drew.heap.size = wr.heap.size := rfl
  have hs5 := hb5.size
  have hb4 := (But.refl (· = g) w5).set4 (.inl rfl) (.int .i64 3) (.int .i64 0) (.string ⟨#[46]⟩) (.slice (some ⟨w5.heap.size, 0, none⟩) 2 2)
  have hss : ((((w5.setCell ⟨g, 0, none⟩ (.int .i64 3)).setCell ⟨g, 1, none⟩ (.int .i64 0)).setCell ⟨g, 2, none⟩ (.string ⟨#[46]⟩)).setCell ⟨g, 3, none⟩ (.slice (some ⟨w5.heap.size, 0, none⟩) 2 2)).heap.size = w5.heap.size := by simp [World.setCell]
  have hbx : But Nil wr w5 := (But.refl Nil wr).drew.trans_nil hb5
  have hset := set4 (a' := .int .i64 3) (b' := .int .i64 0) (c' := .string ⟨#[46]⟩) (d' := .slice (some ⟨w5.heap.size, 0, none⟩) 2 2) (hbx.heap id hblk)
  generalize (((w5.setCell ⟨g, 0, none⟩ (.int .i64 3)).setCell ⟨g, 1, none⟩ (.int .i64 0)).setCell ⟨g, 2, none⟩ (.string ⟨#[46]⟩)).setCell ⟨g, 3, none⟩ (.slice (some ⟨w5.heap.size, 0, none⟩) 2 2) = ws at *
  have hba : But Nil ws (ws.alloc (.cells (C4 x A3 cap3 ++ C4 t A2 cap2).toArray 24)) := (But.refl _ _).alloc _
  refine ⟨heap_old hset, ?_, hb4.trans_nil hba⟩
  exact cons_in (heap_new hss.symm) ⟨by have := hwr.size; omega, ⟨_, heap_new hss.symm⟩, by omega⟩ (by simp)
      (TmIn.keeps (fun k o hk hd => ⟨heap_old (hb4.heap (by have := hd.1; omega) hk), by have := hd.1; have := hwr.size; omega, (hd.2.but hb4 (by have := hd.1; omega)).nil hba, by have := hd.1; omega⟩) _ hx)
      (TmIn.keeps (fun k o hk hd => ⟨heap_old (hb4.heap hd.2.2 (hbx.heap id hk)), hd.1, ((hd.2.1.nil hbx).but hb4 hd.2.2).nil hba, hd.2.2⟩) _ ht)

end Go.Proofs.Ytloekfnlidclcaa

namespace Go.Proofs.Ytloekfnlidclcaa
open Go.RowKit Go.Maps
set_option linter.unusedVariables false

mutual
/-- The elements of a list, and its tail. -/
def elT : Tm → List Tm × Tm
  | .mk k n s l => if k = 3 ∧ s = ⟨#[46]⟩ then elA (.mk k n s l) l else ([], .mk k n s l)
def elA (whole : Tm) : List Tm → List Tm × Tm
  | [a, b] => (a :: (elT b).1, (elT b).2)
  | _ => ([], whole)
end

def isCons (t : Tm) : Bool := decide (t.kind = 3) && (decide (t.name = ⟨#[46]⟩) && decide (t.args.length = 2))

theorem elT_cons {t : Tm} (h : isCons t = true) (h0 : 0 < t.args.length) (h1 : 1 < t.args.length) : elT t = (t.args[0] :: (elT t.args[1]).1, (elT t.args[1]).2) := by
  cases t with
  | mk k n s l =>
    simp only [isCons, Bool.and_eq_true] at h
    obtain ⟨h1, h2, h3⟩ := h
    have e1 : k = 3 := of_decide_eq_true h1
    have e2 : s = ⟨#[46]⟩ := of_decide_eq_true h2
    have h2 : l.length = 2 := of_decide_eq_true h3
    subst e1 e2
    match l, h2 with
    | [a, b], _ => simp [elT, elA, Tm.args]

theorem elT_else {t : Tm} (h : isCons t = false) : elT t = ([], t) := by
  cases t with
  | mk k n s l =>
    simp only [isCons, Tm.kind, Tm.name, Tm.args] at h
    unfold elT
    split
    · rename_i hks
      obtain ⟨rfl, rfl⟩ := hks
      match l, h with
      | [], _ => rfl
      | [a], _ => rfl
      | [a, b], h => simp at h
      | a :: b :: c :: r, _ => rfl
    · rfl

theorem cons_len {t : Tm} (h : isCons t = true) : t.args.length = 2 := by
  simp only [isCons, Bool.and_eq_true] at h
  exact of_decide_eq_true h.2.2

theorem nodes_args {t : Tm} {j : Nat} (hj : j < t.args.length) : nodesT t.args[j] + 1 ≤ nodesT t := by
  cases t with
  | mk k n s l =>
    have := nodes_get (l := l) hj
    simp only [nodesT, Tm.args]
    omega

theorem valid_args {t : Tm} (h : validT t = true) {j : Nat} (hj : j < t.args.length) : validT t.args[j] = true := by
  cases t with
  | mk k n s l => exact valid_arg h hj

def elemsT (t : Tm) : List Tm × Tm := if validT t then ((elT t).1.map cloneT, cloneT (elT t).2) else ([], zeroT)

/-- One more element. -/
theorem elems_step {w w1 wr w3 w4 : World} {g cap3 cap4 : Nat} {va : Value} {done : List Tm} {x : Tm} {xs : List Value} {A3 : Option Addr}
    (hw : w.heap.size < w1.heap.size) (hw1 : w1.heap.size ≤ wr.heap.size) (hown : wr.ownsRow w1.heap.size 24 4 va done.length xs) (hx : RowE wr w1.heap.size va done xs) (hb3 : But Nil wr w3)
    (hnew : TmNew w3 wr.heap.size x (VT x A3 cap3))
    (hown4 : w4.ownsRow w1.heap.size 24 4 (.slice (some ⟨g, 0, none⟩) (done.length + 1) cap4) (done.length + 1) (xs ++ C4 x A3 cap3))
    (hgrow : (w3.alloc (TB x A3 cap3)).grownBy w4 va.ownBlock) (hat : va.ownBlock = some g ∨ g = w3.heap.size + 1) :
    But (fun k => va.ownBlock = some k) w3 w4 ∧ (∀ k, va.ownBlock = some k → w1.heap.size ≤ k) ∧ RowT w4 w1.heap.size (.slice (some ⟨g, 0, none⟩) (done.length + 1) cap4) (done ++ [x]) := by
  have hba : But Nil w3 (w3.alloc (TB x A3 cap3)) := (But.refl _ _).alloc _
  have hb4 : But (fun k => va.ownBlock = some k) (w3.alloc (TB x A3 cap3)) w4 := (But.refl _ _).grown hgrow (fun k hk => .inl hk)
  refine ⟨(hba.of_nil).trans_same hb4, fun k hk => (hown.lt k hk).1, ?_⟩
  exact RowT.push ((own_but hown hb3 (fun _ _ => id)).alloc _) ((hx.but hb3 fun k hk => hk.elim).but hba fun k hk => hk.elim) rfl (hnew.but hba (fun k hk => hk.elim) (Nat.le_refl _)) hw1
    (fun k hk => (hown.lt k hk).2) hown4 hgrow (hat.imp id (fun e => by simp; omega))

end Go.Proofs.Ytloekfnlidclcaa

namespace Go.Proofs.Ytloekfnlidclcaa
open Go.RowKit
set_option linter.unusedVariables false

abbrev Fr (p : Nat → Option Nat) : Nat → Prop := fun b => p b = none

theorem Ext.keepsIn {p p' : Nat → Option Nat} {w w' : World} (h : Ext p w p' w') : KeepsIn (Fr p) (Fr p') w w' := fun k o hk hd =>
  ⟨h.but.heap id hk, (h.pin k (lt_of_heap hk)).trans hd⟩

theorem IntsIn.ext {p p' : Nat → Option Nat} {w w' : World} (hx : Ext p w p' w') {A : Option Addr} {l : List Int} (h : IntsIn w (Fr p) A l) : IntsIn w' (Fr p') A l := fun j hj => by
  obtain ⟨b, o, e, h0, h1⟩ := h j hj
  exact ⟨b, o, e, (hx.pin b (lt_of_cell h1)).trans h0, hx.but.cell id h1⟩

/-- The pins of a world that has only more blocks. -/
def pin0 (p : Nat → Option Nat) (w : World) : Nat → Option Nat := fun b => if b < w.heap.size then p b else none

theorem Ext.plain {p : Nat → Option Nat} {w w' : World} (h : But Nil w w') : Ext p w (pin0 p w) w' := ⟨h, fun b hb => by simp [pin0, hb]⟩

theorem TmIn.at_w {w : World} {D : Nat → Prop} {t : Tm} {v : Value} (h : TmIn w D t v) : TmAt w w.heap.size t v :=
  TmIn.keeps (fun k o hk _ => ⟨hk, .inl (lt_of_heap hk)⟩) _ h
theorem ArgsIn.at_w {w : World} {D : Nat → Prop} {l : List Tm} {A : Option Addr} {i : Nat} (h : ArgsIn w D l A i) : ArgsAt w w.heap.size l A i :=
  ArgsIn.keeps (fun k o hk _ => ⟨hk, .inl (lt_of_heap hk)⟩) h

theorem TmIn.pins {p : Nat → Option Nat} {w w' : World} {t : Tm} {v : Value} (h : TmNew w' w.heap.size t v) : TmIn w' (Fr (pin0 p w)) t v :=
  TmIn.keeps (fun k o hk hd => ⟨hk, by have := hd.1; simp only [Fr, pin0]; rw [if_neg (by omega)]⟩) _ h
theorem ArgsIn.pins {p : Nat → Option Nat} {w w' : World} {l : List Tm} {A : Option Addr} {i : Nat} (h : ArgsIn w' (fun b => w.heap.size ≤ b ∧ OBlk w' b) l A i) : ArgsIn w' (Fr (pin0 p w)) l A i :=
  ArgsIn.keeps (fun k o hk hd => ⟨hk, by have := hd.1; simp only [Fr, pin0]; rw [if_neg (by omega)]⟩) h

section
variable {P : Program} {Q : Exit → Act → World → Prop} {o : Oper} {a : Act} {w : World} {K : Act → World → Prop}

theorem wp_value {v : Value} {w' : World} (h : (execOp a.eval o).run P w = .ok (.value v) w') (hk : K (a.put o.dst v) w') : o.wp P a w K Q := by
  unfold Oper.wp
  rw [h]
  exact hk

theorem wp_calls {f : FuncId} {args : Array Value} (h : (execOp a.eval o).run P w = .ok (.enter f args) w) (hc : Calls P f args w fun e w' => ∃ v, e = .returned v ∧ K (a.put o.dst v) w') : o.wp P a w K Q := by
  unfold Oper.wp
  rw [h]
  exact hc.mono (by rintro e w' ⟨v, rfl, hk⟩; exact hk)

theorem leaves_same {f : Pd} {p : Nat → Option Nat} {v : Value} (h : f p w v) : Leaves f o a p w (a.put o.dst v) w := ⟨v, p, rfl, Ext.refl _ _, h⟩
end

theorem Fr.new {p : Nat → Option Nat} {w : World} : Fr (pin0 p w) w.heap.size := by simp [Fr, pin0]

theorem TmIn.alloc {p : Nat → Option Nat} {w : World} {t : Tm} {v : Value} (h : TmIn w (Fr p) t v) (ob : Obj) : TmIn (w.alloc ob) (Fr (pin0 p w)) t v :=
  TmIn.keeps (Ext.plain ((But.refl _ _).alloc _)).keepsIn _ h

/-- A number: known by a number, or as it is. -/
inductive IR where
  | tok (n : Nat)
  | lit (k : Int)
inductive SR where
  | tok (n : Nat)
  | lit (s : ByteArray)
inductive Rel where
  | lt
  | eq
inductive Ari where
  | add
  | sub
  | mul

def IR.beq : IR → IR → Bool
  | .tok a, .tok b => a == b
  | .lit a, .lit b => a == b
  | _, _ => false
def SR.beq : SR → SR → Bool
  | .tok a, .tok b => a == b
  | .lit a, .lit b => decide (a = b)
  | _, _ => false
theorem IR.beq_ok {a b : IR} (h : IR.beq a b = true) : a = b := by
  unfold IR.beq at h
  split at h <;> simp_all
theorem SR.beq_ok {a b : SR} (h : SR.beq a b = true) : a = b := by
  unfold SR.beq at h
  split at h <;> simp_all
def Rel.beq : Rel → Rel → Bool
  | .lt, .lt => true
  | .eq, .eq => true
  | _, _ => false
theorem Rel.beq_ok {a b : Rel} (h : Rel.beq a b = true) : a = b := by
  unfold Rel.beq at h
  split at h <;> simp_all
def Ari.beq : Ari → Ari → Bool
  | .add, .add => true
  | .sub, .sub => true
  | .mul, .mul => true
  | _, _ => false
theorem Ari.beq_ok {a b : Ari} (h : Ari.beq a b = true) : a = b := by
  unfold Ari.beq at h
  split at h <;> simp_all

def IR.at (I : Nat → Int) : IR → Int
  | .tok n => I n
  | .lit k => k
def SR.at (S : Nat → ByteArray) : SR → ByteArray
  | .tok n => S n
  | .lit s => s
def Rel.says : Rel → Int → Int → Bool
  | .lt, a, b => decide (a < b)
  | .eq, a, b => a == b
def Ari.says : Ari → Int → Int → Int
  | .add, a, b => a + b
  | .sub, a, b => a - b
  | .mul, a, b => a * b

/-- What is known of the things that go by a number. -/
inductive Fact where
  | rel (r : Rel) (a b : IR) (c : Bool)
  | seq (a b : SR) (c : Bool)
  | ari (o : Ari) (a b : IR) (k : Nat)
  | ilen (n k : Nat)
  | rlen (n k : Nat)
  | slen (n k : Nat)
  | iget (n : Nat) (i : IR) (k : Nat)
  | rget (n : Nat) (i : IR) (k : Nat)
  | tm (n a b c d : Nat)
  | push (n : Option Nat) (k m : Nat) (fin : Bool)
  | mk (m : Nat) (k n : IR) (s : SR) (l : List Nat)
  | mkr (m : Nat) (k n : IR) (s : SR) (r : Nat)

def baseRow (R : Nat → List Tm) : Option Nat → List Tm
  | none => []
  | some n => R n

def Fact.holds (T : Nat → Tm) (I : Nat → Int) (L : Nat → List Int) (R : Nat → List Tm) (S : Nat → ByteArray) : Fact → Prop
  | .rel r a b c => r.says (a.at I) (b.at I) = c
  | .seq a b c => decide (a.at S = b.at S) = c
  | .ari o a b k => o.says (a.at I) (b.at I) = I k ∧ wf64 (I k)
  | .ilen n k => ((L n).length : Int) = I k
  | .rlen n k => ((R n).length : Int) = I k
  | .slen n k => ((S n).size : Int) = I k
  | .iget n i k => 0 ≤ i.at I ∧ (L n)[(i.at I).toNat]? = some (I k)
  | .rget n i k => 0 ≤ i.at I ∧ (R n)[(i.at I).toNat]? = some (T k)
  | .tm n a b c d => (T n).kind = I a ∧ (T n).num = I b ∧ (T n).name = S c ∧ (T n).args = R d
  | .push n k m _ => R m = baseRow R n ++ [T k] ∧ (R m).length ≤ 1000000
  | .mk m k n s l => T m = .mk (k.at I) (n.at I) (s.at S) (l.map T) ∧ wf64 (k.at I) ∧ wf64 (n.at I) ∧ (s.at S).size ≤ 140737488351232
  | .mkr m k n s r => T m = .mk (k.at I) (n.at I) (s.at S) (R r) ∧ wf64 (k.at I) ∧ wf64 (n.at I) ∧ (s.at S).size ≤ 140737488351232

def AllHold (T : Nat → Tm) (I : Nat → Int) (L : Nat → List Int) (R : Nat → List Tm) (S : Nat → ByteArray) : List Fact → Prop
  | [] => True
  | f :: l => f.holds T I L R S ∧ AllHold T I L R S l

/-- Terms that go by a number. -/
class Env where
  T : Nat → Tm
  I : Nat → Int := fun _ => 0
  L : Nat → List Int := fun _ => []
  R : Nat → List Tm := fun _ => []
  S : Nat → ByteArray := fun _ => ⟨#[]⟩
  F : List Fact := []
  ok : AllHold T I L R S F := by trivial

def findF {α : Type} (f : Fact → Option α) : List Fact → Option α
  | [] => none
  | g :: l => match f g with
    | some x => some x
    | none => findF f l

theorem findF_ok {α : Type} {T : Nat → Tm} {I : Nat → Int} {L : Nat → List Int} {R : Nat → List Tm} {S : Nat → ByteArray} {f : Fact → Option α} {x : α} : ∀ {l : List Fact}, AllHold T I L R S l → findF f l = some x → ∃ g, g.holds T I L R S ∧ f g = some x
  | [], _, h => by cases h
  | g :: l, hl, h => by
    unfold findF at h
    split at h
    · rename_i y hy
      exact ⟨g, hl.1, hy.trans h⟩
    · exact findF_ok hl.2 h

variable [Env]

theorem env_find {α : Type} {f : Fact → Option α} {x : α} (h : findF f Env.F = some x) : ∃ g : Fact, g.holds Env.T Env.I Env.L Env.R Env.S ∧ f g = some x := findF_ok Env.ok h

inductive Ab where
  | any
  | val (v : Value)
  | term (t : Tm)
  | row (l : List Tm)
  | ints (l : List Int)
  | pair (x y : Ab)
  | tup3 (x y z : Ab)
  | tup4 (x y z u : Ab)
  | tok (n : Nat)
  | vtok (n : Nat)
  | itok (n : Nat)
  | rtok (n : Nat)
  | stok (n : Nat)
  | vcell (s : Tmp) (x : Ab)
  | mfld (s : Tmp) (n j : Nat)
  | intAt (n : Int)
  | termAt (t : Tm)
  | elm (n : Nat)
  | fld (n j : Nat)
  | iat (k : Nat)
  | toks (l : List Nat)
  | grow (s : Tmp) (n : Nat)
  | own (s : Tmp) (n : Nat)
  | srow (l : List SR)
  | sat (s : SR)

def tmOf : Ab → Option Tm
  | .term t => some t
  | .tok n => some (Env.T n)
  | _ => none

def tmAny : Ab → Option Tm
  | .term t => some t
  | .tok n => some (Env.T n)
  | .own _ n => some (Env.T n)
  | _ => none

def isTm : Ab → Bool
  | .term _ => true
  | .tok _ => true
  | .own _ _ => true
  | _ => false

/-- The strings of a slice. -/
def StrsIn (w : World) (D : Nat → Prop) (A : Option Addr) (l : List ByteArray) : Prop := ∀ j (h : j < l.length), ∃ b o, A = some ⟨b, o, none⟩ ∧ D b ∧ w.cell? ⟨b, o + j, none⟩ = some (.string l[j])

omit [Env] in
theorem StrsIn.keeps {D D' : Nat → Prop} {w w' : World} (hk : KeepsIn D D' w w') {A : Option Addr} {l : List ByteArray} (h : StrsIn w D A l) : StrsIn w' D' A l := fun j hj =>
  let ⟨b, o, e, hd, hc⟩ := h j hj
  ⟨b, o, e, (hk.cell hd hc).2, (hk.cell hd hc).1⟩

/-- A row of terms that grows: the slot of its first append, its elements. -/
def GrowAt (s : Tmp) (ts : List Tm) (p : Nat → Option Nat) (w : World) (v : Value) : Prop :=
  ∃ xs, w.ownsRow 0 24 4 v ts.length xs ∧ (∀ g, v.ownBlock = some g → p g = some (s + 1)) ∧ ts.length ≤ 1000000 ∧ ∀ i (h : i < ts.length), ∃ A0 cap0, xs[i * 4]? = some (.int .i64 ts[i].kind) ∧ xs[i * 4 + 1]? = some (.int .i64 ts[i].num) ∧
    xs[i * 4 + 2]? = some (.string ts[i].name) ∧ xs[i * 4 + 3]? = some (.slice A0 ts[i].args.length cap0) ∧
    TmIn w (Fr p) ts[i] (.agg #[.int .i64 ts[i].kind, .int .i64 ts[i].num, .string ts[i].name, .slice A0 ts[i].args.length cap0])

omit [Env] in
theorem own_lt {w : World} {base size n e : Nat} {v : Value} {xs : List Value} (h : w.ownsRow base e size v n xs) {g : Nat} (hg : v.ownBlock = some g) : g < w.heap.size := by
  rcases h.2 with ⟨rfl, _⟩ | ⟨g', cap, cur, rfl, hg', hh, r⟩
  · cases hg
  · obtain rfl : g' = g := by simpa [Value.ownBlock] using hg
    exact lt_of_heap hh

omit [Env] in
theorem GrowAt.kept {s : Tmp} {ts : List Tm} : Kept (GrowAt s ts) := fun p w p' w' v hx ⟨xs, ho, hp, hl, hr⟩ =>
  ⟨xs, own_but ho hx.but (fun _ _ => id), fun g hg => (hx.pin g (own_lt ho hg)).trans (hp g hg), hl, fun i hi => let ⟨A0, cap0, e0, e1, e2, e3, ht⟩ := hr i hi; ⟨A0, cap0, e0, e1, e2, e3, TmIn.keeps hx.keepsIn _ ht⟩⟩

/-- A pointer to the place number j of a term in memory, to be read. -/
def FieldAt (t : Tm) (j : Nat) (p : Nat → Option Nat) (w : World) (v : Value) : Prop :=
  ∃ b o A cap, v = .pointer (some ⟨b, o + j, none⟩) ∧ w.cell? ⟨b, o, none⟩ = some (.int .i64 t.kind) ∧ w.cell? ⟨b, o + 1, none⟩ = some (.int .i64 t.num) ∧
      w.cell? ⟨b, o + 2, none⟩ = some (.string t.name) ∧ w.cell? ⟨b, o + 3, none⟩ = some (.slice A t.args.length cap) ∧ TmIn w (Fr p) t (VT t A cap)

/-- A pointer to the place number j of a term in memory. -/
def TermPlace (t : Tm) (j : Nat) (p : Nat → Option Nat) (w : World) (v : Value) : Prop :=
  ∃ b o A cap, v = .pointer (some ⟨b, o + j, none⟩) ∧ p b = none ∧ w.cell? ⟨b, o, none⟩ = some (.int .i64 t.kind) ∧ w.cell? ⟨b, o + 1, none⟩ = some (.int .i64 t.num) ∧
      w.cell? ⟨b, o + 2, none⟩ = some (.string t.name) ∧ w.cell? ⟨b, o + 3, none⟩ = some (.slice A t.args.length cap) ∧ TmIn w (Fr p) t (VT t A cap)

omit [Env] in
theorem TermPlace.kept {t : Tm} {j : Nat} : Kept (TermPlace t j) := fun p w p' w' v hx ⟨b, o, A, cap, e, h0, h1, h2, h3, h4, h5⟩ =>
  ⟨b, o, A, cap, e, (hx.pin b (lt_of_cell h1)).trans h0, hx.but.cell id h1, hx.but.cell id h2, hx.but.cell id h3, hx.but.cell id h4, TmIn.keeps hx.keepsIn _ h5⟩

def Ab.pd : Ab → Pd
  | .tok n => fun p w v => TmIn w (Fr p) (Env.T n) v
  | .vtok n => fun p w v => v = .int .i64 (Env.I n)
  | .stok n => fun p w v => v = .string (Env.S n)
  | .itok n => fun p w v => ∃ A cap, v = .slice A (Env.L n).length cap ∧ (Env.L n).length ≤ cap ∧ cap ≤ maxLen ∧ (Env.L n).length ≤ 1099511627777 ∧ IntsIn w (Fr p) A (Env.L n)
  | .rtok n => fun p w v => ∃ A cap, v = .slice A (Env.R n).length cap ∧ (Env.R n).length ≤ cap ∧ (Env.R n).length ≤ 140737488351232 ∧ cap ≤ maxLen ∧ ArgsIn w (Fr p) (Env.R n) A 0
  | .toks l => fun p w v => ∃ A cap, v = .slice A l.length cap ∧ l.length ≤ cap ∧ l.length ≤ 140737488351232 ∧ cap ≤ maxLen ∧ ArgsIn w (Fr p) (l.map Env.T) A 0
  | .grow s n => fun p w v => GrowAt s (Env.R n) p w v
  | .srow l => fun p w v => ∃ A cap, v = .slice A l.length cap ∧ l.length ≤ cap ∧ cap ≤ maxLen ∧ StrsIn w (Fr p) A (l.map (·.at Env.S))
  | .sat s => fun p w v => ∃ b o, v = .pointer (some ⟨b, o, none⟩) ∧ p b = none ∧ w.cell? ⟨b, o, none⟩ = some (.string (s.at Env.S))
  | .elm n => fun p w v => TermPlace (Env.T n) 0 p w v
  | .fld n j => fun p w v => TermPlace (Env.T n) j p w v
  | .iat k => fun p w v => ∃ b o, v = .pointer (some ⟨b, o, none⟩) ∧ p b = none ∧ w.cell? ⟨b, o, none⟩ = some (.int .i64 (Env.I k))
  | .any => fun _ _ _ => True
  | .val u => fun _ _ v => v = u
  | .term t => fun p w v => TmIn w (Fr p) t v
  | .row l => fun p w v => ∃ A cap, v = .slice A l.length cap ∧ l.length ≤ cap ∧ l.length ≤ 140737488351232 ∧ cap ≤ maxLen ∧ ArgsIn w (Fr p) l A 0
  | .ints l => fun p w v => ∃ A cap, v = .slice A l.length cap ∧ l.length ≤ cap ∧ cap ≤ maxLen ∧ l.length ≤ 1099511627777 ∧ IntsIn w (Fr p) A l
  | .pair x y => fun p w v => ∃ a b, v = .tuple #[a, b] ∧ x.pd p w a ∧ y.pd p w b
  | .tup3 x y z => fun p w v => ∃ a b c, v = .tuple #[a, b, c] ∧ x.pd p w a ∧ y.pd p w b ∧ z.pd p w c
  | .tup4 x y z u => fun p w v => ∃ a b c d, v = .tuple #[a, b, c, d] ∧ x.pd p w a ∧ y.pd p w b ∧ z.pd p w c ∧ u.pd p w d
  | .vcell s x => fun p w v => ∃ t, tmAny x = some t ∧ ∃ g A cap, v = .pointer (some ⟨g, 0, none⟩) ∧ p g = some (s + 1) ∧ w.heap[g]? = some (TB t A cap) ∧ x.pd p w (VT t A cap)
  | .own s n => fun p w v => TmIn w (fun b => p b = some (s + 1) ∧ OBlk w b) (Env.T n) v
  | .mfld s n j => fun p w v => ∃ g A cap, v = .pointer (some ⟨g, 0 + j, none⟩) ∧ p g = some (s + 1) ∧ w.heap[g]? = some (TB (Env.T n) A cap) ∧ TmIn w (Fr p) (Env.T n) (VT (Env.T n) A cap)
  | .intAt n => fun p w v => ∃ b o, v = .pointer (some ⟨b, o, none⟩) ∧ p b = none ∧ w.cell? ⟨b, o, none⟩ = some (.int .i64 n)
  | .termAt t => fun p w v => ∃ b o A cap, v = .pointer (some ⟨b, o, none⟩) ∧ p b = none ∧ w.cell? ⟨b, o, none⟩ = some (.int .i64 t.kind) ∧ w.cell? ⟨b, o + 1, none⟩ = some (.int .i64 t.num) ∧
      w.cell? ⟨b, o + 2, none⟩ = some (.string t.name) ∧ w.cell? ⟨b, o + 3, none⟩ = some (.slice A t.args.length cap) ∧ TmIn w (Fr p) t (VT t A cap)

theorem Ab.kept : ∀ (x : Ab), Kept x.pd
  | .any => fun p w p' w' v hx h => trivial
  | .elm n => TermPlace.kept
  | .toks l => fun p w p' w' v hx ⟨A, cap, e, h1, h2, h3, h⟩ => ⟨A, cap, e, h1, h2, h3, ArgsIn.keeps hx.keepsIn h⟩
  | .grow s n => GrowAt.kept
  | .srow l => fun p w p' w' v hx ⟨A, cap, e, h1, h2, h3⟩ => ⟨A, cap, e, h1, h2, h3.keeps hx.keepsIn⟩
  | .sat s => fun p w p' w' v hx ⟨b, o, e, h0, h1⟩ => ⟨b, o, e, (hx.pin b (lt_of_cell h1)).trans h0, hx.but.cell id h1⟩
  | .fld n j => TermPlace.kept
  | .iat k => fun p w p' w' v hx ⟨b, o, e, h0, h1⟩ => ⟨b, o, e, (hx.pin b (lt_of_cell h1)).trans h0, hx.but.cell id h1⟩
  | .val u => fun p w p' w' v hx h => h
  | .term t => fun p w p' w' v hx h => TmIn.keeps hx.keepsIn _ h
  | .row l => fun p w p' w' v hx ⟨A, cap, e, h1, h2, h3, h⟩ => ⟨A, cap, e, h1, h2, h3, ArgsIn.keeps hx.keepsIn h⟩
  | .ints l => fun p w p' w' v hx ⟨A, cap, e, h1, h2, h3, h⟩ => ⟨A, cap, e, h1, h2, h3, h.ext hx⟩
  | .pair x y => fun p w p' w' v hx ⟨a, b, e, h1, h2⟩ => ⟨a, b, e, x.kept _ _ _ _ _ hx h1, y.kept _ _ _ _ _ hx h2⟩
  | .tup3 x y z => fun p w p' w' v hx ⟨a, b, c, e, h1, h2, h3⟩ => ⟨a, b, c, e, x.kept _ _ _ _ _ hx h1, y.kept _ _ _ _ _ hx h2, z.kept _ _ _ _ _ hx h3⟩
  | .tup4 x y z u => fun p w p' w' v hx ⟨a, b, c, d, e, h1, h2, h3, h4⟩ => ⟨a, b, c, d, e, x.kept _ _ _ _ _ hx h1, y.kept _ _ _ _ _ hx h2, z.kept _ _ _ _ _ hx h3, u.kept _ _ _ _ _ hx h4⟩
  | .tok n => fun p w p' w' v hx h => TmIn.keeps hx.keepsIn _ h
  | .vtok n => fun p w p' w' v hx h => h
  | .stok n => fun p w p' w' v hx h => h
  | .itok n => fun p w p' w' v hx ⟨A, cap, e, h1, h2, h3, h⟩ => ⟨A, cap, e, h1, h2, h3, h.ext hx⟩
  | .rtok n => fun p w p' w' v hx ⟨A, cap, e, h1, h2, h3, h⟩ => ⟨A, cap, e, h1, h2, h3, ArgsIn.keeps hx.keepsIn h⟩
  | .vcell s x => fun p w p' w' v hx ⟨t, ht, g, A, cap, e, h1, h2, h3⟩ => ⟨t, ht, g, A, cap, e, (hx.pin g (lt_of_heap h2)).trans h1, hx.but.heap id h2, x.kept _ _ _ _ _ hx h3⟩
  | .own s n => fun p w p' w' v hx h => TmIn.keeps (fun k o ho hd => ⟨hx.but.heap id ho, (hx.pin k (lt_of_heap ho)).trans hd.1, hd.2.but hx.but id⟩) _ h
  | .mfld s n j => fun p w p' w' v hx ⟨g, A, cap, e, h1, h2, h3⟩ => ⟨g, A, cap, e, (hx.pin g (lt_of_heap h2)).trans h1, hx.but.heap id h2, TmIn.keeps hx.keepsIn _ h3⟩
  | .intAt n => fun p w p' w' v hx ⟨b, o, e, h0, h1⟩ => ⟨b, o, e, (hx.pin b (lt_of_cell h1)).trans h0, hx.but.cell id h1⟩
  | .termAt t => fun p w p' w' v hx ⟨b, o, A, cap, e, h0, h1, h2, h3, h4, h5⟩ => ⟨b, o, A, cap, e, (hx.pin b (lt_of_cell h1)).trans h0, hx.but.cell id h1, hx.but.cell id h2, hx.but.cell id h3, hx.but.cell id h4, TmIn.keeps hx.keepsIn _ h5⟩

theorem tm_pd {x : Ab} {t : Tm} (h : tmOf x = some t) {p : Nat → Option Nat} {w : World} {v : Value} : x.pd p w v ↔ TmIn w (Fr p) t v := by
  cases x with
  | term u => injection h with h; subst h; exact Iff.rfl
  | tok n => injection h with h; subst h; exact Iff.rfl
  | _ => cases h

theorem isTm_of {x : Ab} (h : isTm x = true) : ∃ t, tmAny x = some t := by
  cases x with
  | term u => exact ⟨u, rfl⟩
  | tok n => exact ⟨_, rfl⟩
  | own s n => exact ⟨_, rfl⟩
  | _ => cases h

theorem any_form {x : Ab} {t : Tm} (h : tmAny x = some t) {p : Nat → Option Nat} {w : World} {v : Value} (hv : x.pd p w v) : ∃ A cap, v = VT t A cap := by
  cases x with
  | term u => injection h with h; subst h; obtain ⟨A, cap, e, -⟩ := TmIn.form hv; exact ⟨A, cap, e⟩
  | tok n => injection h with h; subst h; obtain ⟨A, cap, e, -⟩ := TmIn.form hv; exact ⟨A, cap, e⟩
  | own s n => injection h with h; subst h; obtain ⟨A, cap, e, -⟩ := TmIn.form hv; exact ⟨A, cap, e⟩
  | _ => cases h

def lk : List (Tmp × Ab) → Tmp → Option Ab
  | [], _ => none
  | (s, x) :: σ, t => if s == t then some x else lk σ t

def ev (ρ : Tmp → Option Ab) : Operand → Option Ab
  | .tmp t => ρ t
  | .const v => some (.val v)
  | _ => none

def evs (ρ : Tmp → Option Ab) : List Operand → Option (List Ab)
  | [] => some []
  | x :: l => match ev ρ x, evs ρ l with
    | some y, some ys => some (y :: ys)
    | _, _ => none

def Args (p : Nat → Option Nat) (w : World) : List Ab → List Value → Prop
  | [], [] => True
  | x :: l, v :: vs => x.pd p w v ∧ Args p w l vs
  | _, _ => False

def opnTmps (l : List Operand) : List Tmp := l.filterMap fun | .tmp t => some t | _ => none

theorem ev_ok {ρ : Tmp → Option Ab} {F : Tmp → Pd} (hF : ∀ t x, ρ t = some x → F t = x.pd) {a : Act} {p : Nat → Option Nat} {w : World} {x : Operand} {y : Ab} (h : ev ρ x = some y)
    (hf : ∀ t, x = .tmp t → ∃ v, a.tmps[t]? = some v ∧ F t p w v) : y.pd p w (a.eval x) := by
  cases x with
  | tmp t =>
    obtain ⟨v, h1, h2⟩ := hf t rfl
    rw [hF t y h] at h2
    have : a.eval (.tmp t) = v := by
      show a.tmps.getD t undef = v
      rw [Array.getD_eq_getD_getElem?, h1]; rfl
    rw [this]
    exact h2
  | const v =>
    simp only [ev, Option.some.injEq] at h
    subst h
    rfl
  | global g => simp [ev] at h
  | func f => simp [ev] at h

theorem evs_ok {ρ : Tmp → Option Ab} {F : Tmp → Pd} (hF : ∀ t x, ρ t = some x → F t = x.pd) {a : Act} {p : Nat → Option Nat} {w : World} : ∀ {l : List Operand} {ys : List Ab}, evs ρ l = some ys →
    (∀ x ∈ l, ∀ t, x = .tmp t → ∃ v, a.tmps[t]? = some v ∧ F t p w v) → Args p w ys (l.map a.eval)
  | [], ys, h, hf => by
    simp only [evs, Option.some.injEq] at h
    subst h
    trivial
  | x :: l, ys, h, hf => by
    simp only [evs] at h
    cases h1 : ev ρ x with
    | none => rw [h1] at h; cases h
    | some y =>
      cases h2 : evs ρ l with
      | none => rw [h1, h2] at h; cases h
      | some zs =>
        rw [h1, h2] at h
        simp only [Option.some.injEq] at h
        subst h
        exact ⟨ev_ok hF h1 (hf x (List.mem_cons_self)), evs_ok hF h2 fun z hz => hf z (List.mem_cons_of_mem _ hz)⟩

/-- What calls do, on what is known. -/
def CallsOk (C : FuncId → List Ab → Option Ab) : Prop := ∀ f l x, C f l = some x → (∀ args w, (callFunc f args).run Try.prog w = .ok (.enter f args) w) ∧ ∀ p w vs, Args p w l vs →
  Calls Try.prog f vs.toArray w fun e w' => ∃ v p', e = .returned v ∧ Ext p w p' w' ∧ x.pd p' w' v

def terms : List Ab → Option (List Tm)
  | [] => some []
  | .term t :: l => match terms l with
    | some ts => some (t :: ts)
    | none => none
  | _ => none

def isTerm (t : TypeId) : Bool := t == 24
def isTerms (t : TypeId) : Bool := t == 22
def isStrs (t : TypeId) : Bool := t == 45
def isInts (t : TypeId) : Bool := false && t == 0

def irOf : Ab → Option IR
  | .vtok n => some (.tok n)
  | .val (.int .i64 k) => some (.lit k)
  | _ => none
def srOf : Ab → Option SR
  | .stok n => some (.tok n)
  | .val (.string s) => some (.lit s)
  | _ => none

def absSlice (ρ : Tmp → Option Ab) (t : TypeId) (n : Nat) : List (Nat × Operand) → Option Ab
  | [(i, x)] => match ev ρ x with
    | some (.term u) => if isTerms t && (n == 1) && (i == 0) then some (.row [u]) else none
    | some (.tok u) => if isTerms t && (n == 1) && (i == 0) then some (.toks [u]) else none
    | some y => match srOf y with
      | some a => if isStrs t && (n == 1) && (i == 0) then some (.srow [a]) else none
      | none => none
    | _ => none
  | [(i, x), (j, y)] => match ev ρ x, ev ρ y with
    | some (.term u), some (.term v) => if isTerms t && (n == 2) && (i == 0) && (j == 1) then some (.row [u, v]) else none
    | some (.tok u), some (.tok v) => if isTerms t && (n == 2) && (i == 0) && (j == 1) then some (.toks [u, v]) else none
    | some y, some z => match srOf y, srOf z with
      | some a, some b => if isStrs t && (n == 2) && (i == 0) && (j == 1) then some (.srow [a, b]) else none
      | _, _ => none
    | _, _ => none
  | [(i, x), (j, y), (k, z)] => match ev ρ x, ev ρ y, ev ρ z with
    | some (.term u), some (.term v), some (.term r) => if isTerms t && (n == 3) && (i == 0) && (j == 1) && (k == 2) then some (.row [u, v, r]) else none
    | some (.tok u), some (.tok v), some (.tok r) => if isTerms t && (n == 3) && (i == 0) && (j == 1) && (k == 2) then some (.toks [u, v, r]) else none
    | _, _, _ => none
  | _ => none

def isInt (t : TypeId) : Bool := t == 3 || t == 2

def bl (b : Bool) : Ab := .val (.bool b)

def relOf (r : Rel) (a b : IR) : Option Bool := match a, b with
  | .lit x, .lit y => some (r.says x y)
  | _, _ => findF (fun | .rel r' a' b' c => if Rel.beq r' r && IR.beq a' a && IR.beq b' b then some c else none | _ => none) Env.F
def ariOf (o : Ari) (a b : IR) : Option Nat :=
  findF (fun | .ari o' a' b' k => if Ari.beq o' o && IR.beq a' a && IR.beq b' b then some k else none | _ => none) Env.F
def ariAb (o : Ari) (a b : IR) : Option Ab := match a, b with
  | .lit x, .lit y => if decide (-9223372036854775808 ≤ o.says x y) && decide (o.says x y ≤ 9223372036854775807) then some (.val (.int .i64 (o.says x y))) else none
  | _, _ => (ariOf o a b).map .vtok
def seqOf (a b : SR) : Option Bool :=
  findF (fun | .seq a' b' c => if SR.beq a' a && SR.beq b' b then some c else none | _ => none) Env.F

inductive Cmp where
  | rel (r : Rel) (swap neg : Bool)
  | ari (o : Ari)

def cmpOf : BinOp → Option Cmp
  | .lss => some (.rel .lt false false)
  | .gtr => some (.rel .lt true false)
  | .leq => some (.rel .lt true true)
  | .geq => some (.rel .lt false true)
  | .eql => some (.rel .eq false false)
  | .neq => some (.rel .eq false true)
  | .add => some (.ari .add)
  | .sub => some (.ari .sub)
  | .mul => some (.ari .mul)
  | _ => none

def absBin (op : BinOp) (t : TypeId) (x y : Ab) : Option Ab := match cmpOf op with
  | some (.rel r sw ng) => match irOf x, irOf y with
    | some a, some b => (if sw then relOf r b a else relOf r a b).map fun c => bl (if ng then !c else c)
    | _, _ => match srOf x, srOf y with
      | some a, some b => match r with
        | .eq => if t == 9 then (seqOf a b).map fun c => bl (if ng then !c else c) else none
        | .lt => none
      | _, _ => none
  | some (.ari o) => match irOf x, irOf y with
    | some a, some b => if isInt t then ariAb o a b else none
    | _, _ => none
  | none => none

def mkOf (k n : IR) (s : SR) (l : List Nat) : Option Ab :=
  findF (fun | .mk m k' n' s' l' => if IR.beq k' k && IR.beq n' n && SR.beq s' s && (l' == l) then some (.tok m) else none | _ => none) Env.F
def mkrOf (k n : IR) (s : SR) (r : Nat) : Option Ab :=
  findF (fun | .mkr m k' n' s' r' => if IR.beq k' k && IR.beq n' n && SR.beq s' s && (r' == r) then some (.tok m) else none | _ => none) Env.F

def absBuild (ρ : Tmp → Option Ab) (t : TypeId) : List (Nat × Operand) → Option Ab
  | [(i, x), (j, y)] => match ev ρ x, ev ρ y with
    | some (.val (.int .i64 k)), some (.val (.string s)) =>
      if isTerm t && (i == 0) && (j == 2) && decide (-9223372036854775808 ≤ k) && decide (k ≤ 9223372036854775807) && decide (s.size ≤ 140737488351232) then some (.term (.mk k 0 s [])) else none
    | some x, some y =>
      if isTerm t && (i == 0) && (j == 2) then (match irOf x, srOf y with
        | some k, some s => mkOf k (.lit 0) s []
        | _, _ => none)
      else if isTerm t && (i == 0) && (j == 1) then (match irOf x, irOf y with
        | some k, some n => mkOf k n (.lit ⟨#[]⟩) []
        | _, _ => none)
      else none
    | _, _ => none
  | [(i, x)] => match ev ρ x with
    | some x => if isTerm t && (i == 1) then (match irOf x with
        | some n => mkOf (.lit 0) n (.lit ⟨#[]⟩) []
        | none => none)
      else none
    | none => none
  | [(i, x), (j, y), (k, z)] => match ev ρ x, ev ρ y, ev ρ z with
    | some x, some y, some z => if isTerm t && (i == 0) && (j == 2) && (k == 3) then (match irOf x, srOf y, z with
        | some k, some s, .toks l => mkOf k (.lit 0) s l
        | some k, some s, .rtok r => mkrOf k (.lit 0) s r
        | _, _, _ => none)
      else none
    | _, _, _ => none
  | [] => if isTerm t then some (.term zeroT) else none
  | _ => none

def absLen (ρ : Tmp → Option Ab) : List Operand → List TypeId → Option Ab
  | [x], [t] => match ev ρ x with
    | some (.ints l) => if isInts t then some (.val (.int .i64 l.length)) else none
    | some (.row l) => if isTerms t then some (.val (.int .i64 l.length)) else none
    | some (.itok n) => if isInts t then findF (fun | .ilen n' k => if n' == n then some (.vtok k) else none | _ => none) Env.F else none
    | some (.rtok n) => if isTerms t then findF (fun | .rlen n' k => if n' == n then some (.vtok k) else none | _ => none) Env.F else none
    | some (.srow l) => if isStrs t then some (.val (.int .i64 l.length)) else none
    | some (.val (.string s)) => if t == 9 then some (.val (.int .i64 s.size)) else none
    | some (.stok n) => if t == 9 then findF (fun | .slen n' k => if n' == n then some (.vtok k) else none | _ => none) Env.F else none
    | _ => none
  | _, _ => none

def absFld (n j : Nat) (t : TypeId) : Option Ab :=
  findF (fun | .tm n' a b c d => if n' == n then (if j == 0 && t == 3 then some (.vtok a) else if j == 1 && t == 2 then some (.vtok b) else if j == 2 && t == 9 then some (.stok c) else if j == 3 && isTerms t then some (.rtok d) else none) else none | _ => none) Env.F

def absOp (C : FuncId → List Ab → Option Ab) (ρ : Tmp → Option Ab) (o : Oper) : Option Ab :=
  match o.op with
  | .move x => ev ρ x
  | .assign x => ev ρ x
  | .pick c x y => match ev ρ c with
    | some (.val (.bool true)) => ev ρ x
    | some (.val (.bool false)) => ev ρ y
    | _ => none
  | .unOp .not _ x => match ev ρ x with
    | some (.val (.bool b)) => some (.val (.bool !b))
    | _ => none
  | .binOp .eql t x y _ => match ev ρ x, ev ρ y with
    | some (.val (.int .i64 a)), some (.val (.int .i64 b)) => some (.val (.bool (a == b)))
    | some (.val (.bool a)), some (.val (.bool b)) => if t == 4 then some (.val (.bool (a == b))) else none
    | some (.vtok a), some (.vtok b) => if a == b then some (.val (.bool true)) else (relOf .eq (.tok a) (.tok b)).map bl
    | some x, some y => absBin .eql t x y
    | _, _ => none
  | .binOp .neq t x y _ => match ev ρ x, ev ρ y with
    | some (.val (.bool a)), some (.val (.bool b)) => if t == 4 then some (.val (.bool (a != b))) else none
    | some x, some y => absBin .neq t x y
    | _, _ => none
  | .binOp op t x y _ => match ev ρ x, ev ρ y with
    | some a, some b => absBin op t a b
    | _, _ => none
  | .fieldAddr t x j => match ev ρ x with
    | some (.vcell s (.tok n)) => if isTerm t && decide (j ≤ 3) then some (.mfld s n j) else none
    | some (.elm n) => if isTerm t && decide (j ≤ 3) then some (.fld n j) else none
    | _ => none
  | .build t ps => absBuild ρ t ps.toList
  | .buildSlice t n ps => absSlice ρ t n ps.toList
  | .load t x => match ev ρ x with
    | some (.vcell _ u) => if isTerm t then some u else none
    | some (.termAt u) => if isTerm t then some (.term u) else none
    | some (.intAt n) => if t == 2 then some (.val (.int .i64 n)) else none
    | some (.iat k) => if t == 2 then some (.vtok k) else none
    | some (.elm n) => if isTerm t then some (.tok n) else none
    | some (.sat s) => if t == 9 then some (match s with | .tok n => .stok n | .lit b => .val (.string b)) else none
    | some (.fld n j) => absFld n j t
    | some (.mfld _ n j) => absFld n j t
    | _ => none
  | .indexAddr t x y => match ev ρ x, ev ρ y with
    | some (.ints l), some (.val (.int .i64 i)) => match l[i.toNat]? with
      | some n => if isInts t && decide (0 ≤ i) then some (.intAt n) else none
      | none => none
    | some (.row l), some (.val (.int .i64 i)) => match l[i.toNat]? with
      | some n => if isTerms t && decide (0 ≤ i) then some (.termAt n) else none
      | none => none
    | some (.srow l), some (.val (.int .i64 i)) => match l[i.toNat]? with
      | some a => if isStrs t && decide (0 ≤ i) then some (.sat a) else none
      | none => none
    | some (.itok n), some z => match irOf z with
      | some i => if isInts t then findF (fun | .iget n' i' k => if n' == n && IR.beq i' i then some (.iat k) else none | _ => none) Env.F else none
      | none => none
    | some (.rtok n), some z => match irOf z with
      | some i => if isTerms t then findF (fun | .rget n' i' k => if n' == n && IR.beq i' i then some (.elm k) else none | _ => none) Env.F else none
      | none => none
    | _, _ => none
  | .extract x i => match ev ρ x with
    | some (.pair a b) => if i == 0 then some a else if i == 1 then some b else none
    | some (.tup3 a b c) => if i == 0 then some a else if i == 1 then some b else if i == 2 then some c else none
    | some (.tup4 a b c d) => if i == 0 then some a else if i == 1 then some b else if i == 2 then some c else if i == 3 then some d else none
    | _ => none
  | .box t x => match ev ρ x with
    | some y => if isTerm t && isTm y then o.dst.map fun s => .vcell s y else none
    | none => none
  | .alloc t => if isTerm t then o.dst.map fun s => .vcell s (.term zeroT) else none
  | .call c => match c.callee with
    | .value (.func f) => match evs ρ c.args.toList with
      | some l => C f l
      | none => none
    | .builtin .len => absLen ρ c.args.toList c.argTypes.toList
    | _ => none
  | _ => none

end Go.Proofs.Ytloekfnlidclcaa

namespace Go.Proofs.Ytloekfnlidclcaa
open Go.RowKit
set_option linter.unusedVariables false
variable [Env]

section
variable {Q : Exit → Act → World → Prop}

def Evs (ρ : Tmp → Option Ab) (a : Act) (p : Nat → Option Nat) (w : World) (l : List Operand) : Prop := ∀ y z, y ∈ l → ev ρ y = some z → z.pd p w (a.eval y)

theorem len_ok {ρ : Tmp → Option Ab} {o : Oper} {c : Call} {a : Act} {p : Nat → Option Nat} {w : World} {x : Ab} (heq : o.op = .call c) (hb : c.callee = .builtin .len) (hev : Evs ρ a p w o.op.operands.toList)
    (h : absLen ρ c.args.toList c.argTypes.toList = some x) : o.wp Try.prog a w (Leaves x.pd o a p w) Q := by
  obtain ⟨callee, ⟨args⟩, ⟨tys⟩⟩ := c
  obtain rfl : callee = .builtin .len := hb
  unfold absLen at h
  split at h
  · rename_i y t hl ht
    obtain rfl : args = [y] := hl
    obtain rfl : tys = [t] := ht
    split at h
    · rename_i l hy
      obtain ⟨A, cap, he, -⟩ : (Ab.ints l).pd p w (a.eval y) := hev y _ (by simp [heq, Op.operands, Call.operands]) hy
      split at h
      · rename_i hok
        simp [isInts] at hok
      · cases h
    · rename_i l hy
      obtain ⟨A, cap, he, -⟩ : (Ab.row l).pd p w (a.eval y) := hev y _ (by simp [heq, Op.operands, Call.operands]) hy
      split at h
      · rename_i hok
        simp only [isTerms, beq_iff_eq] at hok
        subst hok
        injection h with h
        subst h
        exact wp_value (v := .int .i64 l.length) (w' := w) (by generalize a.eval = r at *; simp [execOp, heq, he, go_sem]) (leaves_same rfl)
      · cases h
    · rename_i n hy
      obtain ⟨A, cap, he, -⟩ : (Ab.itok n).pd p w (a.eval y) := hev y _ (by simp [heq, Op.operands, Call.operands]) hy
      split at h
      · rename_i hok
        simp [isInts] at hok
      · cases h
    · rename_i n hy
      obtain ⟨A, cap, he, -⟩ : (Ab.rtok n).pd p w (a.eval y) := hev y _ (by simp [heq, Op.operands, Call.operands]) hy
      split at h
      · rename_i hok
        simp only [isTerms, beq_iff_eq] at hok
        subst hok
        obtain ⟨g, hg, hgx⟩ := env_find h
        split at hgx
        · rename_i n' k
          split at hgx
          · rename_i hn
            simp only [beq_iff_eq] at hn
            subst hn
            injection hgx with hgx
            subst hgx
            exact wp_value (v := .int .i64 (Env.R n').length) (w' := w) (by generalize a.eval = r at *; simp [execOp, heq, he, go_sem]) (leaves_same (by show Value.int .i64 _ = .int .i64 (Env.I k); rw [show (((Env.R n').length : Nat) : Int) = Env.I k from hg]))
          · cases hgx
        · cases hgx
      · cases h
    · rename_i l hy
      obtain ⟨A, cap, he, -⟩ : (Ab.srow l).pd p w (a.eval y) := hev y _ (by simp [heq, Op.operands, Call.operands]) hy
      split at h
      · rename_i hok
        simp only [isStrs, beq_iff_eq] at hok
        subst hok
        injection h with h
        subst h
        exact wp_value (v := .int .i64 l.length) (w' := w) (by generalize a.eval = r at *; simp [execOp, heq, he, go_sem]) (leaves_same rfl)
      · cases h
    · rename_i s hy
      have he : a.eval y = .string s := hev y _ (by simp [heq, Op.operands, Call.operands]) hy
      split at h
      · rename_i hok
        simp only [beq_iff_eq] at hok
        subst hok
        injection h with h
        subst h
        exact wp_value (v := .int .i64 s.size) (w' := w) (by generalize a.eval = r at *; simp [execOp, heq, he, go_sem]) (leaves_same rfl)
      · cases h
    · rename_i n hy
      have he : a.eval y = .string (Env.S n) := hev y _ (by simp [heq, Op.operands, Call.operands]) hy
      split at h
      · rename_i hok
        simp only [beq_iff_eq] at hok
        subst hok
        obtain ⟨g, hg, hgx⟩ := env_find h
        split at hgx
        · rename_i n' k
          split at hgx
          · rename_i hn
            simp only [beq_iff_eq] at hn
            subst hn
            injection hgx with hgx
            subst hgx
            exact wp_value (v := .int .i64 (Env.S n').size) (w' := w) (by generalize a.eval = r at *; simp [execOp, heq, he, go_sem]) (leaves_same (by show Value.int .i64 _ = .int .i64 (Env.I k); rw [show (((Env.S n').size : Nat) : Int) = Env.I k from hg]))
          · cases hgx
        · cases hgx
      · cases h
    · cases h
  · cases h

theorem irOf_ok {x : Ab} {i : IR} (h : irOf x = some i) {p : Nat → Option Nat} {w : World} {v : Value} (hv : x.pd p w v) : v = .int .i64 (i.at Env.I) := by
  unfold irOf at h
  split at h
  · injection h with h; subst h; exact hv
  · injection h with h; subst h; exact hv
  · cases h

theorem srOf_ok {x : Ab} {i : SR} (h : srOf x = some i) {p : Nat → Option Nat} {w : World} {v : Value} (hv : x.pd p w v) : v = .string (i.at Env.S) := by
  unfold srOf at h
  split at h
  · injection h with h; subst h; exact hv
  · injection h with h; subst h; exact hv
  · cases h

theorem row_pins {p : Nat → Option Nat} {w : World} {ts : List Tm} {cs : Array Value} (h : ArgsIn (w.alloc (.cells cs 24)) (Fr (pin0 p w)) ts (some ⟨w.heap.size, 0, none⟩) 0) (hl : ts.length ≤ 1000) {n : Nat} (hn : n = ts.length) :
    (Ab.row ts).pd (pin0 p w) (w.alloc (.cells cs 24)) (.slice (some ⟨w.heap.size, 0, none⟩) n n) := by
  subst hn
  exact ⟨_, _, rfl, Nat.le_refl _, by omega, by unfold maxLen; omega, h⟩

theorem slice_ok {ρ : Tmp → Option Ab} {o : Oper} {a : Act} {p : Nat → Option Nat} {w : World} {t : TypeId} {n : Nat} {ps : Array (Nat × Operand)} {x : Ab} (heq : o.op = .buildSlice t n ps) (hev : Evs ρ a p w o.op.operands.toList)
    (h : absSlice ρ t n ps.toList = some x) : o.wp Try.prog a w (Leaves x.pd o a p w) Q := by
  obtain ⟨l⟩ := ps
  unfold absSlice at h
  split at h
  · rename_i i y hl
    obtain rfl : l = [(i, y)] := hl
    split at h
    · rename_i u hu
      have h1 : TmIn w (Fr p) u (a.eval y) := hev y _ (by simp [heq, Op.operands]) hu
      split at h
      · rename_i hok
        simp only [Bool.and_eq_true, isTerms, beq_iff_eq] at hok
        obtain ⟨⟨rfl, rfl⟩, rfl⟩ := hok
        injection h with h
        subst h
        obtain ⟨A, cap, he, -⟩ := h1.form
        refine wp_value (v := .slice (some ⟨w.heap.size, 0, none⟩) 1 1) (w' := w.alloc (.cells (C4 u A cap).toArray 24)) (by generalize a.eval = r at *; simp [execOp, heq, he, go_sem]) ?_
        refine ⟨_, pin0 p w, rfl, Ext.plain ((But.refl _ _).alloc _), row_pins ?_ (by simp) rfl⟩
        unfold ArgsIn ArgsIn
        rw [he] at h1
        have hb := heap_new (w := w) (o := .cells (C4 u A cap).toArray 24) rfl
        exact ⟨⟨w.heap.size, 0, _, _, _, _, rfl, Fr.new, cell_of_row _ _ 0 _ _ _ hb, cell_of_row _ _ 1 _ _ _ hb, cell_of_row _ _ 2 _ _ _ hb, cell_of_row _ _ 3 _ _ _ hb, h1.alloc _⟩, trivial⟩
      · cases h
    · rename_i u hu
      have h1 : TmIn w (Fr p) (Env.T u) (a.eval y) := hev y _ (by simp [heq, Op.operands]) hu
      split at h
      · rename_i hok
        simp only [Bool.and_eq_true, isTerms, beq_iff_eq] at hok
        obtain ⟨⟨rfl, rfl⟩, rfl⟩ := hok
        injection h with h
        subst h
        obtain ⟨A, cap, he, -⟩ := h1.form
        refine wp_value (v := .slice (some ⟨w.heap.size, 0, none⟩) 1 1) (w' := w.alloc (.cells (C4 (Env.T u) A cap).toArray 24)) (by generalize a.eval = r at *; simp [execOp, heq, he, go_sem]) ?_
        refine ⟨_, pin0 p w, rfl, Ext.plain ((But.refl _ _).alloc _), row_pins (ts := [Env.T u]) ?_ (by simp) rfl⟩
        unfold ArgsIn ArgsIn
        rw [he] at h1
        have hb := heap_new (w := w) (o := .cells (C4 (Env.T u) A cap).toArray 24) rfl
        exact ⟨⟨w.heap.size, 0, _, _, _, _, rfl, Fr.new, cell_of_row _ _ 0 _ _ _ hb, cell_of_row _ _ 1 _ _ _ hb, cell_of_row _ _ 2 _ _ _ hb, cell_of_row _ _ 3 _ _ _ hb, h1.alloc _⟩, trivial⟩
      · cases h
    · rename_i y0 _ _ hy0
      split at h
      · rename_i sa hsa
        have h1 : a.eval y = .string (sa.at Env.S) := srOf_ok hsa (hev y _ (by simp [heq, Op.operands]) hy0)
        split at h
        · rename_i hok
          simp only [Bool.and_eq_true, isStrs, beq_iff_eq] at hok
          obtain ⟨⟨rfl, rfl⟩, rfl⟩ := hok
          injection h with h
          subst h
          refine wp_value (v := .slice (some ⟨w.heap.size, 0, none⟩) 1 1) (w' := w.alloc (.cells #[.string (sa.at Env.S)] 9)) (by generalize a.eval = r at *; simp [execOp, heq, h1, go_sem]) ?_
          have hb := heap_new (w := w) (o := .cells #[.string (sa.at Env.S)] 9) rfl
          refine ⟨_, pin0 p w, rfl, Ext.plain ((But.refl _ _).alloc _), some ⟨w.heap.size, 0, none⟩, 1, rfl, Nat.le_refl _, by unfold maxLen; omega, fun j hj => ?_⟩
          obtain rfl : j = 0 := by simpa using hj
          exact ⟨w.heap.size, 0, rfl, Fr.new, cell_of_row _ _ 0 _ _ _ hb⟩
        · cases h
      · cases h
    · cases h
  · rename_i i y j z hl
    obtain rfl : l = [(i, y), (j, z)] := hl
    split at h
    · rename_i u v hu hv
      have h1 : TmIn w (Fr p) u (a.eval y) := hev y _ (by simp [heq, Op.operands]) hu
      have h2 : TmIn w (Fr p) v (a.eval z) := hev z _ (by simp [heq, Op.operands]) hv
      split at h
      · rename_i hok
        simp only [Bool.and_eq_true, isTerms, beq_iff_eq] at hok
        obtain ⟨⟨⟨rfl, rfl⟩, rfl⟩, rfl⟩ := hok
        injection h with h
        subst h
        obtain ⟨A, cap, he, -⟩ := h1.form
        obtain ⟨A', cap', he', -⟩ := h2.form
        refine wp_value (v := .slice (some ⟨w.heap.size, 0, none⟩) 2 2) (w' := w.alloc (.cells (C4 u A cap ++ C4 v A' cap').toArray 24)) (by generalize a.eval = r at *; simp [execOp, heq, he, he', go_sem]) ?_
        refine ⟨_, pin0 p w, rfl, Ext.plain ((But.refl _ _).alloc _), row_pins ?_ (by simp) rfl⟩
        unfold ArgsIn ArgsIn ArgsIn
        rw [he] at h1
        rw [he'] at h2
        have hb := heap_new (w := w) (o := .cells (C4 u A cap ++ C4 v A' cap').toArray 24) rfl
        exact ⟨⟨w.heap.size, 0, _, _, _, _, rfl, Fr.new, cell_of_row _ _ 0 _ _ _ hb, cell_of_row _ _ 1 _ _ _ hb, cell_of_row _ _ 2 _ _ _ hb, cell_of_row _ _ 3 _ _ _ hb, h1.alloc _⟩,
          ⟨w.heap.size, 0, _, _, _, _, rfl, Fr.new, cell_of_row _ _ 4 _ _ _ hb, cell_of_row _ _ 5 _ _ _ hb, cell_of_row _ _ 6 _ _ _ hb, cell_of_row _ _ 7 _ _ _ hb, h2.alloc _⟩, trivial⟩
      · cases h
    · rename_i u v hu hv
      have h1 : TmIn w (Fr p) (Env.T u) (a.eval y) := hev y _ (by simp [heq, Op.operands]) hu
      have h2 : TmIn w (Fr p) (Env.T v) (a.eval z) := hev z _ (by simp [heq, Op.operands]) hv
      split at h
      · rename_i hok
        simp only [Bool.and_eq_true, isTerms, beq_iff_eq] at hok
        obtain ⟨⟨⟨rfl, rfl⟩, rfl⟩, rfl⟩ := hok
        injection h with h
        subst h
        obtain ⟨A, cap, he, -⟩ := h1.form
        obtain ⟨A', cap', he', -⟩ := h2.form
        refine wp_value (v := .slice (some ⟨w.heap.size, 0, none⟩) 2 2) (w' := w.alloc (.cells (C4 (Env.T u) A cap ++ C4 (Env.T v) A' cap').toArray 24)) (by generalize a.eval = r at *; simp [execOp, heq, he, he', go_sem]) ?_
        refine ⟨_, pin0 p w, rfl, Ext.plain ((But.refl _ _).alloc _), row_pins (ts := [Env.T u, Env.T v]) ?_ (by simp) rfl⟩
        unfold ArgsIn ArgsIn ArgsIn
        rw [he] at h1
        rw [he'] at h2
        have hb := heap_new (w := w) (o := .cells (C4 (Env.T u) A cap ++ C4 (Env.T v) A' cap').toArray 24) rfl
        exact ⟨⟨w.heap.size, 0, _, _, _, _, rfl, Fr.new, cell_of_row _ _ 0 _ _ _ hb, cell_of_row _ _ 1 _ _ _ hb, cell_of_row _ _ 2 _ _ _ hb, cell_of_row _ _ 3 _ _ _ hb, h1.alloc _⟩,
          ⟨w.heap.size, 0, _, _, _, _, rfl, Fr.new, cell_of_row _ _ 4 _ _ _ hb, cell_of_row _ _ 5 _ _ _ hb, cell_of_row _ _ 6 _ _ _ hb, cell_of_row _ _ 7 _ _ _ hb, h2.alloc _⟩, trivial⟩
      · cases h
    · rename_i y0 z0 _ _ hy0 hz0
      split at h
      · rename_i sa sb hsa hsb
        have h1 : a.eval y = .string (sa.at Env.S) := srOf_ok hsa (hev y _ (by simp [heq, Op.operands]) hy0)
        have h2 : a.eval z = .string (sb.at Env.S) := srOf_ok hsb (hev z _ (by simp [heq, Op.operands]) hz0)
        split at h
        · rename_i hok
          simp only [Bool.and_eq_true, isStrs, beq_iff_eq] at hok
          obtain ⟨⟨⟨rfl, rfl⟩, rfl⟩, rfl⟩ := hok
          injection h with h
          subst h
          refine wp_value (v := .slice (some ⟨w.heap.size, 0, none⟩) 2 2) (w' := w.alloc (.cells #[.string (sa.at Env.S), .string (sb.at Env.S)] 9)) (by generalize a.eval = r at *; simp [execOp, heq, h1, h2, go_sem]) ?_
          have hb := heap_new (w := w) (o := .cells #[.string (sa.at Env.S), .string (sb.at Env.S)] 9) rfl
          refine ⟨_, pin0 p w, rfl, Ext.plain ((But.refl _ _).alloc _), some ⟨w.heap.size, 0, none⟩, 2, rfl, Nat.le_refl _, by unfold maxLen; omega, fun j hj => ?_⟩
          have hj2 : j < 2 := by simpa using hj
          match j, hj2 with
          | 0, _ => exact ⟨w.heap.size, 0, rfl, Fr.new, cell_of_row _ _ 0 _ _ _ hb⟩
          | 1, _ => exact ⟨w.heap.size, 0, rfl, Fr.new, cell_of_row _ _ 1 _ _ _ hb⟩
        · cases h
      · cases h
    · cases h
  · rename_i i y j z k r hl
    obtain rfl : l = [(i, y), (j, z), (k, r)] := hl
    split at h
    · rename_i u v s hu hv hs
      have h1 : TmIn w (Fr p) u (a.eval y) := hev y _ (by simp [heq, Op.operands]) hu
      have h2 : TmIn w (Fr p) v (a.eval z) := hev z _ (by simp [heq, Op.operands]) hv
      have h3 : TmIn w (Fr p) s (a.eval r) := hev r _ (by simp [heq, Op.operands]) hs
      split at h
      · rename_i hok
        simp only [Bool.and_eq_true, isTerms, beq_iff_eq] at hok
        obtain ⟨⟨⟨⟨rfl, rfl⟩, rfl⟩, rfl⟩, rfl⟩ := hok
        injection h with h
        subst h
        obtain ⟨A, cap, he, -⟩ := h1.form
        obtain ⟨A', cap', he', -⟩ := h2.form
        obtain ⟨A'', cap'', he'', -⟩ := h3.form
        refine wp_value (v := .slice (some ⟨w.heap.size, 0, none⟩) 3 3) (w' := w.alloc (.cells (C4 u A cap ++ C4 v A' cap' ++ C4 s A'' cap'').toArray 24)) (by generalize a.eval = r at *; simp [execOp, heq, he, he', he'', go_sem]) ?_
        refine ⟨_, pin0 p w, rfl, Ext.plain ((But.refl _ _).alloc _), row_pins ?_ (by simp) rfl⟩
        unfold ArgsIn ArgsIn ArgsIn ArgsIn
        rw [he] at h1
        rw [he'] at h2
        rw [he''] at h3
        have hb := heap_new (w := w) (o := .cells (C4 u A cap ++ C4 v A' cap' ++ C4 s A'' cap'').toArray 24) rfl
        exact ⟨⟨w.heap.size, 0, _, _, _, _, rfl, Fr.new, cell_of_row _ _ 0 _ _ _ hb, cell_of_row _ _ 1 _ _ _ hb, cell_of_row _ _ 2 _ _ _ hb, cell_of_row _ _ 3 _ _ _ hb, h1.alloc _⟩,
          ⟨w.heap.size, 0, _, _, _, _, rfl, Fr.new, cell_of_row _ _ 4 _ _ _ hb, cell_of_row _ _ 5 _ _ _ hb, cell_of_row _ _ 6 _ _ _ hb, cell_of_row _ _ 7 _ _ _ hb, h2.alloc _⟩,
          ⟨w.heap.size, 0, _, _, _, _, rfl, Fr.new, cell_of_row _ _ 8 _ _ _ hb, cell_of_row _ _ 9 _ _ _ hb, cell_of_row _ _ 10 _ _ _ hb, cell_of_row _ _ 11 _ _ _ hb, h3.alloc _⟩, trivial⟩
      · cases h
    · rename_i u v s hu hv hs
      have h1 : TmIn w (Fr p) (Env.T u) (a.eval y) := hev y _ (by simp [heq, Op.operands]) hu
      have h2 : TmIn w (Fr p) (Env.T v) (a.eval z) := hev z _ (by simp [heq, Op.operands]) hv
      have h3 : TmIn w (Fr p) (Env.T s) (a.eval r) := hev r _ (by simp [heq, Op.operands]) hs
      split at h
      · rename_i hok
        simp only [Bool.and_eq_true, isTerms, beq_iff_eq] at hok
        obtain ⟨⟨⟨⟨rfl, rfl⟩, rfl⟩, rfl⟩, rfl⟩ := hok
        injection h with h
        subst h
        obtain ⟨A, cap, he, -⟩ := h1.form
        obtain ⟨A', cap', he', -⟩ := h2.form
        obtain ⟨A'', cap'', he'', -⟩ := h3.form
        refine wp_value (v := .slice (some ⟨w.heap.size, 0, none⟩) 3 3) (w' := w.alloc (.cells (C4 (Env.T u) A cap ++ C4 (Env.T v) A' cap' ++ C4 (Env.T s) A'' cap'').toArray 24)) (by generalize a.eval = r at *; simp [execOp, heq, he, he', he'', go_sem]) ?_
        refine ⟨_, pin0 p w, rfl, Ext.plain ((But.refl _ _).alloc _), row_pins (ts := [Env.T u, Env.T v, Env.T s]) ?_ (by simp) rfl⟩
        unfold ArgsIn ArgsIn ArgsIn ArgsIn
        rw [he] at h1
        rw [he'] at h2
        rw [he''] at h3
        have hb := heap_new (w := w) (o := .cells (C4 (Env.T u) A cap ++ C4 (Env.T v) A' cap' ++ C4 (Env.T s) A'' cap'').toArray 24) rfl
        exact ⟨⟨w.heap.size, 0, _, _, _, _, rfl, Fr.new, cell_of_row _ _ 0 _ _ _ hb, cell_of_row _ _ 1 _ _ _ hb, cell_of_row _ _ 2 _ _ _ hb, cell_of_row _ _ 3 _ _ _ hb, h1.alloc _⟩,
          ⟨w.heap.size, 0, _, _, _, _, rfl, Fr.new, cell_of_row _ _ 4 _ _ _ hb, cell_of_row _ _ 5 _ _ _ hb, cell_of_row _ _ 6 _ _ _ hb, cell_of_row _ _ 7 _ _ _ hb, h2.alloc _⟩,
          ⟨w.heap.size, 0, _, _, _, _, rfl, Fr.new, cell_of_row _ _ 8 _ _ _ hb, cell_of_row _ _ 9 _ _ _ hb, cell_of_row _ _ 10 _ _ _ hb, cell_of_row _ _ 11 _ _ _ hb, h3.alloc _⟩, trivial⟩
      · cases h
    · cases h
  · cases h

theorem relOf_ok {r : Rel} {a b : IR} {c : Bool} (h : relOf r a b = some c) : r.says (a.at Env.I) (b.at Env.I) = c := by
  unfold relOf at h
  split at h
  · injection h
  · obtain ⟨g, hg, hx⟩ := env_find h
    split at hx
    · split at hx
      · rename_i hok
        simp only [Bool.and_eq_true] at hok
        obtain ⟨⟨h1, h2⟩, h3⟩ := hok
        injection hx with hx
        subst hx
        rw [← Rel.beq_ok h1, ← IR.beq_ok h2, ← IR.beq_ok h3]
        exact hg
      · cases hx
    · cases hx

theorem ariOf_ok {o : Ari} {a b : IR} {k : Nat} (h : ariOf o a b = some k) : o.says (a.at Env.I) (b.at Env.I) = Env.I k ∧ wf64 (Env.I k) := by
  unfold ariOf at h
  obtain ⟨g, hg, hx⟩ := env_find h
  split at hx
  · split at hx
    · rename_i hok
      simp only [Bool.and_eq_true] at hok
      obtain ⟨⟨h1, h2⟩, h3⟩ := hok
      injection hx with hx
      subst hx
      rw [← Ari.beq_ok h1, ← IR.beq_ok h2, ← IR.beq_ok h3]
      exact hg
    · cases hx
  · cases hx

theorem ariAb_ok {o : Ari} {a b : IR} {x : Ab} (h : ariAb o a b = some x) : ∃ n, (∀ p w, x.pd p w (.int .i64 n)) ∧ o.says (a.at Env.I) (b.at Env.I) = n ∧ wf64 n := by
  unfold ariAb at h
  split at h
  · split at h
    · rename_i hok
      simp only [Bool.and_eq_true, decide_eq_true_eq] at hok
      injection h with h
      subst h
      exact ⟨_, fun _ _ => rfl, rfl, hok⟩
    · cases h
  · simp only [Option.map_eq_some_iff] at h
    obtain ⟨k, hk, rfl⟩ := h
    obtain ⟨h3, h4⟩ := ariOf_ok hk
    exact ⟨Env.I k, fun _ _ => rfl, h3, h4⟩

theorem seqOf_ok {a b : SR} {c : Bool} (h : seqOf a b = some c) : decide (a.at Env.S = b.at Env.S) = c := by
  unfold seqOf at h
  obtain ⟨g, hg, hx⟩ := env_find h
  split at hx
  · split at hx
    · rename_i hok
      simp only [Bool.and_eq_true] at hok
      obtain ⟨h1, h2⟩ := hok
      injection hx with hx
      subst hx
      rw [← SR.beq_ok h1, ← SR.beq_ok h2]
      exact hg
    · cases hx
  · cases hx

omit [Env] in
theorem flat_in {k n : Int} {s : ByteArray} (h1 : wf64 k) (h2 : wf64 n) (h3 : s.size ≤ 140737488351232) (w : World) (D : Nat → Prop) : TmIn w D (.mk k n s []) (.agg #[.int .i64 k, .int .i64 n, .string s, .slice none 0 0]) :=
  TmIn.keeps (fun k o hk hd => absurd hd.1 (by have := lt_of_heap hk; omega)) _ (flat_new (w := w) (B := w.heap.size) h1 h2 h3)

theorem mkOf_ok {k n : IR} {s : SR} {l : List Nat} {x : Ab} (h : mkOf k n s l = some x) : ∃ m, x = .tok m ∧ Env.T m = .mk (k.at Env.I) (n.at Env.I) (s.at Env.S) (l.map Env.T) ∧ wf64 (k.at Env.I) ∧ wf64 (n.at Env.I) ∧ (s.at Env.S).size ≤ 140737488351232 := by
  unfold mkOf at h
  obtain ⟨g, hg, hx⟩ := env_find h
  split at hx
  · rename_i m k' n' s' l'
    split at hx
    · rename_i hok
      simp only [Bool.and_eq_true, beq_iff_eq] at hok
      obtain ⟨⟨⟨h1, h2⟩, h3⟩, h4⟩ := hok
      injection hx with hx
      rw [← IR.beq_ok h1, ← IR.beq_ok h2, ← SR.beq_ok h3, ← h4]
      exact ⟨m, hx.symm, hg⟩
    · cases hx
  · cases hx

theorem mkrOf_ok {k n : IR} {s : SR} {r : Nat} {x : Ab} (h : mkrOf k n s r = some x) : ∃ m, x = .tok m ∧ Env.T m = .mk (k.at Env.I) (n.at Env.I) (s.at Env.S) (Env.R r) ∧ wf64 (k.at Env.I) ∧ wf64 (n.at Env.I) ∧ (s.at Env.S).size ≤ 140737488351232 := by
  unfold mkrOf at h
  obtain ⟨g, hg, hx⟩ := env_find h
  split at hx
  · rename_i m k' n' s' r'
    split at hx
    · rename_i hok
      simp only [Bool.and_eq_true, beq_iff_eq] at hok
      obtain ⟨⟨⟨h1, h2⟩, h3⟩, h4⟩ := hok
      injection hx with hx
      rw [← IR.beq_ok h1, ← IR.beq_ok h2, ← SR.beq_ok h3, ← h4]
      exact ⟨m, hx.symm, hg⟩
    · cases hx
  · cases hx

theorem tok_flat {m : Nat} {k n : Int} {s : ByteArray} (h : Env.T m = .mk k n s []) (h1 : wf64 k) (h2 : wf64 n) (h3 : s.size ≤ 140737488351232) (p : Nat → Option Nat) (w : World) : (Ab.tok m).pd p w (.agg #[.int .i64 k, .int .i64 n, .string s, .slice none 0 0]) := by
  show TmIn w (Fr p) (Env.T m) _
  rw [h]
  exact flat_in h1 h2 h3 _ _

theorem tok_args {m : Nat} {k n : Int} {s : ByteArray} {l : List Tm} {A : Option Addr} {cap : Nat} (h : Env.T m = .mk k n s l) (h1 : wf64 k) (h2 : wf64 n) (h3 : s.size ≤ 140737488351232) {p : Nat → Option Nat} {w : World} (h4 : l.length ≤ cap) (h5 : l.length ≤ 140737488351232) (h6 : cap ≤ maxLen)
    (h7 : ArgsIn w (Fr p) l A 0) : (Ab.tok m).pd p w (.agg #[.int .i64 k, .int .i64 n, .string s, .slice A l.length cap]) := by
  show TmIn w (Fr p) (Env.T m) _
  rw [h]
  unfold TmIn
  exact ⟨A, l.length, cap, rfl, h1, h2, h3, rfl, h4, h5, h6, h7⟩

theorem build_ok {ρ : Tmp → Option Ab} {o : Oper} {a : Act} {p : Nat → Option Nat} {w : World} {t : TypeId} {ps : Array (Nat × Operand)} {x : Ab} (heq : o.op = .build t ps) (hev : Evs ρ a p w o.op.operands.toList)
    (h : absBuild ρ t ps.toList = some x) : o.wp Try.prog a w (Leaves x.pd o a p w) Q := by
  obtain ⟨l⟩ := ps
  unfold absBuild at h
  split at h
  · rename_i i y j z hl
    obtain rfl : l = [(i, y), (j, z)] := hl
    split at h
    · rename_i k s hk hs
      have h1 : a.eval y = .int .i64 k := hev y _ (by simp [heq, Op.operands]) hk
      have h2 : a.eval z = .string s := hev z _ (by simp [heq, Op.operands]) hs
      split at h
      · rename_i hok
        simp only [Bool.and_eq_true, decide_eq_true_eq, isTerm, beq_iff_eq] at hok
        obtain ⟨⟨⟨⟨⟨rfl, rfl⟩, rfl⟩, h3⟩, h4⟩, h5⟩ := hok
        injection h with h
        subst h
        refine wp_value (v := .agg #[.int .i64 k, .int .i64 0, .string s, .slice none 0 0]) (w' := w) (by generalize a.eval = r at *; simp [execOp, heq, h1, h2, go_sem]) (leaves_same ?_)
        exact TmIn.keeps (fun k o hk hd => ⟨hk, by have := hd.1; have := lt_of_heap hk; omega⟩) _ (flat_new (w := w) (B := w.heap.size) ⟨h3, h4⟩ (by unfold wf64; omega) h5)
      · cases h
    · rename_i x1 x2 _ hx1 hx2
      have h1 := hev y _ (by simp [heq, Op.operands]) hx1
      have h2 := hev z _ (by simp [heq, Op.operands]) hx2
      split at h
      · rename_i hok
        simp only [Bool.and_eq_true, isTerm, beq_iff_eq] at hok
        obtain ⟨⟨rfl, rfl⟩, rfl⟩ := hok
        split at h
        · rename_i k s hk hs
          have e1 := irOf_ok hk h1
          have e2 := srOf_ok hs h2
          obtain ⟨m, rfl, hm, h3, h4, h5⟩ := mkOf_ok h
          exact wp_value (v := .agg #[.int .i64 (k.at Env.I), .int .i64 0, .string (s.at Env.S), .slice none 0 0]) (w' := w) (by generalize a.eval = r at *; simp [execOp, heq, e1, e2, go_sem]) (leaves_same (tok_flat hm h3 h4 h5 _ _))
        · cases h
      · split at h
        · rename_i hok
          simp only [Bool.and_eq_true, isTerm, beq_iff_eq] at hok
          obtain ⟨⟨rfl, rfl⟩, rfl⟩ := hok
          split at h
          · rename_i k n hk hn
            have e1 := irOf_ok hk h1
            have e2 := irOf_ok hn h2
            obtain ⟨m, rfl, hm, h3, h4, h5⟩ := mkOf_ok h
            exact wp_value (v := .agg #[.int .i64 (k.at Env.I), .int .i64 (n.at Env.I), .string ⟨#[]⟩, .slice none 0 0]) (w' := w) (by generalize a.eval = r at *; simp [execOp, heq, e1, e2, go_sem]) (leaves_same (tok_flat hm h3 h4 h5 _ _))
          · cases h
        · cases h
    · cases h
  · rename_i i y hl
    obtain rfl : l = [(i, y)] := hl
    split at h
    · rename_i x1 hx1
      have h1 := hev y _ (by simp [heq, Op.operands]) hx1
      split at h
      · rename_i hok
        simp only [Bool.and_eq_true, isTerm, beq_iff_eq] at hok
        obtain ⟨rfl, rfl⟩ := hok
        split at h
        · rename_i n hn
          have e1 := irOf_ok hn h1
          obtain ⟨m, rfl, hm, h3, h4, h5⟩ := mkOf_ok h
          exact wp_value (v := .agg #[.int .i64 0, .int .i64 (n.at Env.I), .string ⟨#[]⟩, .slice none 0 0]) (w' := w) (by generalize a.eval = r at *; simp [execOp, heq, e1, go_sem]) (leaves_same (tok_flat hm h3 h4 h5 _ _))
        · cases h
      · cases h
    · cases h
  · rename_i i y j z k u hl
    obtain rfl : l = [(i, y), (j, z), (k, u)] := hl
    split at h
    · rename_i x1 x2 x3 hx1 hx2 hx3
      have h1 := hev y _ (by simp [heq, Op.operands]) hx1
      have h2 := hev z _ (by simp [heq, Op.operands]) hx2
      have h3 := hev u _ (by simp [heq, Op.operands]) hx3
      split at h
      · rename_i hok
        simp only [Bool.and_eq_true, isTerm, beq_iff_eq] at hok
        obtain ⟨⟨⟨rfl, rfl⟩, rfl⟩, rfl⟩ := hok
        split at h
        · rename_i kk ss ll hk hs
          have e1 := irOf_ok hk h1
          have e2 := srOf_ok hs h2
          obtain ⟨A, cap, e3, g1, g2, g3, g4⟩ := h3
          obtain ⟨m, rfl, hm, h3, h4, h5⟩ := mkOf_ok h
          refine wp_value (v := .agg #[.int .i64 (kk.at Env.I), .int .i64 0, .string (ss.at Env.S), .slice A ll.length cap]) (w' := w) (by generalize a.eval = r at *; simp [execOp, heq, e1, e2, e3, go_sem]) (leaves_same ?_)
          have := tok_args (cap := cap) (A := A) hm h3 h4 h5 (p := p) (w := w) (by simpa using g1) (by simpa using g2) g3 g4
          rw [List.length_map] at this
          exact this
        · rename_i kk ss rr hk hs
          have e1 := irOf_ok hk h1
          have e2 := srOf_ok hs h2
          obtain ⟨A, cap, e3, g1, g2, g3, g4⟩ := h3
          obtain ⟨m, rfl, hm, h3, h4, h5⟩ := mkrOf_ok h
          exact wp_value (v := .agg #[.int .i64 (kk.at Env.I), .int .i64 0, .string (ss.at Env.S), .slice A (Env.R rr).length cap]) (w' := w) (by generalize a.eval = r at *; simp [execOp, heq, e1, e2, e3, go_sem]) (leaves_same (tok_args hm h3 h4 h5 g1 g2 g3 g4))
        · cases h
      · cases h
    · cases h
  · rename_i hl
    obtain rfl : l = [] := hl
    split at h
    · rename_i hok
      simp only [isTerm, beq_iff_eq] at hok
      subst hok
      injection h with h
      subst h
      refine wp_value (v := .agg #[.int .i64 0, .int .i64 0, .string ⟨#[]⟩, .slice none 0 0]) (w' := w) (by generalize a.eval = r at *; simp [execOp, heq, go_sem]) (leaves_same ?_)
      exact TmIn.keeps (fun k o hk hd => ⟨hk, by have := hd.1; have := lt_of_heap hk; omega⟩) _ (zero_new w w.heap.size)
    · cases h
  · cases h

omit [Env] in
theorem i64_in {n : Int} (h1 : -9223372036854775808 ≤ n) (h2 : n ≤ 9223372036854775807) : IntKind.i64.wrap n = n := by
  have : IntKind.i64.wrap n = if 2 ^ 63 ≤ n % 2 ^ 64 then n % 2 ^ 64 - 2 ^ 64 else n % 2 ^ 64 := by
    simp [IntKind.wrap, IntKind.bits, IntKind.signed]
  rw [this]
  split <;> omega

omit [Env] in
theorem str_eq (m n : ByteArray) : (m.toList == n.toList) = decide (m = n) := by
  rw [Bool.eq_iff_iff]
  simp only [beq_iff_eq, decide_eq_true_eq, ByteArray.toList_eq]
  constructor
  · intro h
    cases m
    cases n
    simpa using Array.toList_inj.1 h
  · intro h
    rw [h]

set_option maxHeartbeats 1000000 in
theorem bin_ok {o : Oper} {a : Act} {p : Nat → Option Nat} {w : World} {op : BinOp} {t t' : TypeId} {y z : Operand} {x1 x2 x : Ab} (heq : o.op = .binOp op t y z t') (h1 : x1.pd p w (a.eval y)) (h2 : x2.pd p w (a.eval z))
    (h : absBin op t x1 x2 = some x) : o.wp Try.prog a w (Leaves x.pd o a p w) Q := by
  unfold absBin at h
  split at h
  · rename_i r sw ng hc
    split at h
    · rename_i i j hi hj
      have e1 := irOf_ok hi h1
      have e2 := irOf_ok hj h2
      simp only [Option.map_eq_some_iff] at h
      obtain ⟨c, hcc, rfl⟩ := h
      have hrel : (if sw then r.says (j.at Env.I) (i.at Env.I) else r.says (i.at Env.I) (j.at Env.I)) = c := by
        split at hcc
        · rename_i hs; rw [if_pos hs]; exact relOf_ok hcc
        · rename_i hs; rw [if_neg hs]; exact relOf_ok hcc
      clear hcc
      refine wp_value (v := .bool (if ng then !c else c)) (w' := w) ?_ (leaves_same rfl)
      generalize a.eval = r at *
      generalize i.at Env.I = m at *
      generalize j.at Env.I = n at *
      unfold cmpOf at hc
      split at hc <;> simp only [Option.some.injEq, Cmp.rel.injEq, reduceCtorEq] at hc
      all_goals
        obtain ⟨rfl, rfl, rfl⟩ := hc
        simp only [if_true, if_false, Rel.says, Bool.false_eq_true] at hrel
        subst hrel
        simp [execOp, heq, e1, e2, go_sem]
        try first | rfl | (rw [Bool.eq_iff_iff]; simp)
    · split at h
      · rename_i i j hi hj
        have e1 := srOf_ok hi h1
        have e2 := srOf_ok hj h2
        split at h
        · split at h
          · rename_i hok
            simp only [beq_iff_eq] at hok
            subst hok
            simp only [Option.map_eq_some_iff] at h
            obtain ⟨c, hcc, rfl⟩ := h
            have hrel := seqOf_ok hcc
            refine wp_value (v := .bool (if ng then !c else c)) (w' := w) ?_ (leaves_same rfl)
            generalize a.eval = r at *
            generalize i.at Env.S = m at *
            generalize j.at Env.S = n at *
            subst hrel
            unfold cmpOf at hc
            split at hc <;> simp only [Option.some.injEq, Cmp.rel.injEq, reduceCtorEq, false_and] at hc
            all_goals
              obtain ⟨-, rfl, rfl⟩ := hc
              simp [execOp, heq, e1, e2, go_sem, str_eq]
          · cases h
        · cases h
      · cases h
  · rename_i ar hc
    split at h
    · rename_i i j hi hj
      have e1 := irOf_ok hi h1
      have e2 := irOf_ok hj h2
      split at h
      · rename_i hok
        obtain ⟨n, hx, hn, hw⟩ := ariAb_ok h
        refine wp_value (v := .int .i64 n) (w' := w) ?_ (leaves_same (hx _ _))
        generalize a.eval = r at *
        generalize i.at Env.I = m at *
        generalize j.at Env.I = m' at *
        subst hn
        unfold wf64 at hw
        simp only [isInt, Bool.or_eq_true, beq_iff_eq] at hok
        unfold cmpOf at hc
        split at hc <;> simp only [Option.some.injEq, Cmp.ari.injEq, reduceCtorEq] at hc
        all_goals
          subst hc
          simp only [Ari.says] at hw ⊢
          rcases hok with rfl | rfl <;> simp [execOp, heq, e1, e2, go_sem] <;> exact i64_in hw.1 hw.2
      · cases h
    · cases h
  · cases h

theorem fld_ok {n j : Nat} {t : TypeId} {x : Ab} (h : absFld n j t = some x) {o : Oper} {a : Act} {p : Nat → Option Nat} {w : World} {y : Operand} (heq : o.op = .load t y) (h1 : FieldAt (Env.T n) j p w (a.eval y)) : o.wp Try.prog a w (Leaves x.pd o a p w) Q := by
  obtain ⟨b, s, A, cap, he, c0, c1, c2, c3, ht⟩ := h1
  obtain ⟨_, _, _, -, -, -, f1, f2, f3, f4⟩ := ht.form
  rename_i A' cap' hf
  simp only [Value.agg.injEq, Array.mk.injEq, List.cons.injEq, Value.slice.injEq, and_true, true_and] at hf
  obtain ⟨rfl, rfl⟩ := hf
  unfold absFld at h
  obtain ⟨g, hg, hx⟩ := env_find h
  split at hx
  · rename_i n' i0 i1 i2 i3
    split at hx
    · rename_i hn
      simp only [beq_iff_eq] at hn
      subst hn
      obtain ⟨g0, g1, g2, g3⟩ := hg
      split at hx
      · rename_i hok
        simp only [Bool.and_eq_true, beq_iff_eq] at hok
        obtain ⟨rfl, rfl⟩ := hok
        injection hx with hx
        subst hx
        rw [g0] at c0
        exact wp_value (v := .int .i64 (Env.I i0)) (w' := w) (by generalize a.eval = r at *; simp [execOp, heq, he, go_sem, c0]) (leaves_same rfl)
      · split at hx
        · rename_i hok
          simp only [Bool.and_eq_true, beq_iff_eq] at hok
          obtain ⟨rfl, rfl⟩ := hok
          injection hx with hx
          subst hx
          rw [g1] at c1
          exact wp_value (v := .int .i64 (Env.I i1)) (w' := w) (by generalize a.eval = r at *; simp [execOp, heq, he, go_sem, c1]) (leaves_same rfl)
        · split at hx
          · rename_i hok
            simp only [Bool.and_eq_true, beq_iff_eq] at hok
            obtain ⟨rfl, rfl⟩ := hok
            injection hx with hx
            subst hx
            rw [g2] at c2
            exact wp_value (v := .string (Env.S i2)) (w' := w) (by generalize a.eval = r at *; simp [execOp, heq, he, go_sem, c2]) (leaves_same rfl)
          · split at hx
            · rename_i hok
              simp only [Bool.and_eq_true, beq_iff_eq, isTerms] at hok
              obtain ⟨rfl, rfl⟩ := hok
              injection hx with hx
              subst hx
              rw [g3] at c3 f1 f2 f4
              exact wp_value (v := .slice A (Env.R i3).length cap) (w' := w) (by generalize a.eval = r at *; simp [execOp, heq, he, go_sem, c3]) (leaves_same ⟨A, cap, rfl, f1, f2, f3, f4⟩)
            · cases hx
    · cases hx
  · cases hx

/-- The pins with a new variable. -/
def pinNew (p : Nat → Option Nat) (w : World) (s : Tmp) : Nat → Option Nat := fun b => if b = w.heap.size then some (s + 1) else p b

set_option maxHeartbeats 4000000 in
theorem absOp_ok {C : FuncId → List Ab → Option Ab} (hC : CallsOk C) {ρ : Tmp → Option Ab} {F : Tmp → Pd} (hF : ∀ t x, ρ t = some x → F t = x.pd) {o : Oper} {x : Ab} (h : absOp C ρ o = some x) :
    Runs Try.prog Q F o x.pd := by
  intro a p w hf
  have hev : ∀ y z, y ∈ o.op.operands.toList → ev ρ y = some z → z.pd p w (a.eval y) := fun y z hy hz => ev_ok hF hz fun t ht => hf t (by
    unfold opTmps
    exact List.mem_filterMap.2 ⟨y, hy, by rw [ht]⟩)
  unfold absOp at h
  split at h
  · rename_i y heq
    exact wp_value (v := a.eval y) (by simp only [execOp, heq]; rfl) (leaves_same (hev y x (by simp [heq, Op.operands]) h))
  · rename_i y heq
    exact wp_value (v := a.eval y) (by simp only [execOp, heq]; rfl) (leaves_same (hev y x (by simp [heq, Op.operands]) h))
  · rename_i c y z heq
    split at h
    · rename_i hc
      have h1 := hev c _ (by simp [heq, Op.operands]) hc
      have h1' : a.eval c = .bool true := h1
      exact wp_value (v := a.eval y) (by simp only [execOp, heq, h1']; rfl) (leaves_same (hev y x (by simp [heq, Op.operands]) h))
    · rename_i hc
      have h1 := hev c _ (by simp [heq, Op.operands]) hc
      have h1' : a.eval c = .bool false := h1
      exact wp_value (v := a.eval z) (by simp only [execOp, heq, h1']; rfl) (leaves_same (hev z x (by simp [heq, Op.operands]) h))
    · cases h
  · rename_i t y heq
    split at h
    · rename_i b hb
      have h1 : a.eval y = .bool b := hev y _ (by simp [heq, Op.operands]) hb
      injection h with h
      subst h
      exact wp_value (v := .bool !b) (by simp only [execOp, heq, h1]; rfl) (leaves_same rfl)
    · cases h
  · rename_i t y z t' heq
    split at h
    · rename_i m n hm hn
      have h1 : a.eval y = .int .i64 m := hev y _ (by simp [heq, Op.operands]) hm
      have h2 : a.eval z = .int .i64 n := hev z _ (by simp [heq, Op.operands]) hn
      injection h with h
      subst h
      exact wp_value (v := .bool (m == n)) (by generalize a.eval = r at *; simp [execOp, heq, h1, h2, go_sem]) (leaves_same rfl)
    · rename_i m n hm hn
      have h1 : a.eval y = .bool m := hev y _ (by simp [heq, Op.operands]) hm
      have h2 : a.eval z = .bool n := hev z _ (by simp [heq, Op.operands]) hn
      split at h
      · rename_i hok
        simp only [beq_iff_eq] at hok
        subst hok
        injection h with h
        subst h
        exact wp_value (v := .bool (m == n)) (by generalize a.eval = r at *; simp [execOp, heq, h1, h2, go_sem]) (leaves_same rfl)
      · cases h
    · rename_i m n hm hn
      split at h
      · rename_i hok
        simp only [beq_iff_eq] at hok
        subst hok
        have h1 : a.eval y = .int .i64 (Env.I m) := hev y _ (by simp [heq, Op.operands]) hm
        have h2 : a.eval z = .int .i64 (Env.I m) := hev z _ (by simp [heq, Op.operands]) hn
        injection h with h
        subst h
        exact wp_value (v := .bool true) (by generalize a.eval = r at *; simp [execOp, heq, h1, h2, go_sem]) (leaves_same rfl)
      · have h1 : a.eval y = .int .i64 (Env.I m) := hev y _ (by simp [heq, Op.operands]) hm
        have h2 : a.eval z = .int .i64 (Env.I n) := hev z _ (by simp [heq, Op.operands]) hn
        simp only [Option.map_eq_some_iff] at h
        obtain ⟨c, hc, rfl⟩ := h
        have h3 : (Env.I m == Env.I n) = c := relOf_ok hc
        subst h3
        exact wp_value (v := .bool (Env.I m == Env.I n)) (by generalize a.eval = r at *; simp [execOp, heq, h1, h2, go_sem]) (leaves_same rfl)
    · rename_i x1 x2 _ _ _ hx1 hx2
      exact bin_ok heq (hev y _ (by simp [heq, Op.operands]) hx1) (hev z _ (by simp [heq, Op.operands]) hx2) h
    · cases h
  · rename_i t y z t' heq
    split at h
    · rename_i m n hm hn
      have h1 : a.eval y = .bool m := hev y _ (by simp [heq, Op.operands]) hm
      have h2 : a.eval z = .bool n := hev z _ (by simp [heq, Op.operands]) hn
      split at h
      · rename_i hok
        simp only [beq_iff_eq] at hok
        subst hok
        injection h with h
        subst h
        refine wp_value (v := .bool (m != n)) ?_ (leaves_same rfl)
        generalize a.eval = r at *
        simp [execOp, heq, h1, h2, go_sem, bne]
      · cases h
    · rename_i x1 x2 _ hx1 hx2
      exact bin_ok heq (hev y _ (by simp [heq, Op.operands]) hx1) (hev z _ (by simp [heq, Op.operands]) hx2) h
    · cases h
  · rename_i op t y z t' _ _ heq
    split at h
    · rename_i x1 x2 hx1 hx2
      exact bin_ok heq (hev y _ (by simp [heq, Op.operands]) hx1) (hev z _ (by simp [heq, Op.operands]) hx2) h
    · cases h
  · rename_i t y j heq
    split at h
    · rename_i s n hn
      obtain ⟨tt, htt, g, A, cap, he, hp, hb, ht⟩ : (Ab.vcell s (.tok n)).pd p w (a.eval y) := hev y _ (by simp [heq, Op.operands]) hn
      split at h
      · rename_i hok
        simp only [isTerm, Bool.and_eq_true, beq_iff_eq, decide_eq_true_eq] at hok
        obtain ⟨rfl, hj⟩ := hok
        injection h with h
        subst h
        obtain ⟨c0, c1, c2, c3⟩ := blk4 hb
        obtain rfl : Env.T n = tt := by simpa [tmAny] using htt
        refine wp_value (v := .pointer (some ⟨g, 0 + j, none⟩)) (w' := w) ?_ (leaves_same ⟨g, A, cap, rfl, hp, hb, ht⟩)
        generalize a.eval = r at *
        match j, hj with
        | 0, _ => simp [execOp, heq, he, go_sem]
        | 1, _ => simp [execOp, heq, he, go_sem]
        | 2, _ => simp [execOp, heq, he, go_sem]
        | 3, _ => simp [execOp, heq, he, go_sem]
      · cases h
    · rename_i n hn
      obtain ⟨b, s, A, cap, he, hp, c0, c1, c2, c3, ht⟩ : (Ab.elm n).pd p w (a.eval y) := hev y _ (by simp [heq, Op.operands]) hn
      split at h
      · rename_i hok
        simp only [isTerm, Bool.and_eq_true, beq_iff_eq, decide_eq_true_eq] at hok
        obtain ⟨rfl, hj⟩ := hok
        injection h with h
        subst h
        refine wp_value (v := .pointer (some ⟨b, s + j, none⟩)) (w' := w) ?_ (leaves_same ⟨b, s, A, cap, rfl, hp, c0, c1, c2, c3, ht⟩)
        generalize a.eval = r at *
        match j, hj with
        | 0, _ => simp [execOp, heq, he, go_sem]
        | 1, _ => simp [execOp, heq, he, go_sem]
        | 2, _ => simp [execOp, heq, he, go_sem]
        | 3, _ => simp [execOp, heq, he, go_sem]
      · cases h
    · cases h
  · rename_i t ps heq
    exact build_ok heq hev h
  · rename_i t n ps heq
    exact slice_ok heq hev h
  · rename_i t y heq
    split at h
    · rename_i s u hu
      obtain ⟨tt, htt, g, A, cap, he, hp, hb, ht⟩ : (Ab.vcell s u).pd p w (a.eval y) := hev y _ (by simp [heq, Op.operands]) hu
      split at h
      · rename_i hok
        simp only [isTerm, beq_iff_eq] at hok
        subst hok
        injection h with h
        subst h
        obtain ⟨c0, c1, c2, c3⟩ := blk4 hb
        exact wp_value (v := VT tt A cap) (w' := w) (by generalize a.eval = r at *; simp [execOp, heq, he, go_sem, c0, c1, c2, c3]) (leaves_same ht)
      · cases h
    · rename_i u hu
      obtain ⟨b, s, A, cap, he, -, c0, c1, c2, c3, ht⟩ : (Ab.termAt u).pd p w (a.eval y) := hev y _ (by simp [heq, Op.operands]) hu
      split at h
      · rename_i hok
        simp only [isTerm, beq_iff_eq] at hok
        subst hok
        injection h with h
        subst h
        exact wp_value (v := VT u A cap) (w' := w) (by generalize a.eval = r at *; simp [execOp, heq, he, go_sem, c0, c1, c2, c3]) (leaves_same ht)
      · cases h
    · rename_i n hn
      obtain ⟨b, s, he, -, c0⟩ : (Ab.intAt n).pd p w (a.eval y) := hev y _ (by simp [heq, Op.operands]) hn
      split at h
      · rename_i hok
        simp only [beq_iff_eq] at hok
        subst hok
        injection h with h
        subst h
        exact wp_value (v := .int .i64 n) (w' := w) (by generalize a.eval = r at *; simp [execOp, heq, he, go_sem, c0]) (leaves_same rfl)
      · cases h
    · rename_i k hk
      obtain ⟨b, s, he, -, c0⟩ : (Ab.iat k).pd p w (a.eval y) := hev y _ (by simp [heq, Op.operands]) hk
      split at h
      · rename_i hok
        simp only [beq_iff_eq] at hok
        subst hok
        injection h with h
        subst h
        exact wp_value (v := .int .i64 (Env.I k)) (w' := w) (by generalize a.eval = r at *; simp [execOp, heq, he, go_sem, c0]) (leaves_same rfl)
      · cases h
    · rename_i n hn
      obtain ⟨b, s, A, cap, he, -, c0, c1, c2, c3, ht⟩ : (Ab.elm n).pd p w (a.eval y) := hev y _ (by simp [heq, Op.operands]) hn
      split at h
      · rename_i hok
        simp only [isTerm, beq_iff_eq] at hok
        subst hok
        injection h with h
        subst h
        exact wp_value (v := VT (Env.T n) A cap) (w' := w) (by generalize a.eval = r at *; simp [execOp, heq, he, go_sem, c0, c1, c2, c3]) (leaves_same ht)
      · cases h
    · rename_i sr hsr
      obtain ⟨b, s, he, -, c0⟩ : (Ab.sat sr).pd p w (a.eval y) := hev y _ (by simp [heq, Op.operands]) hsr
      split at h
      · rename_i hok
        simp only [beq_iff_eq] at hok
        subst hok
        injection h with h
        subst h
        refine wp_value (v := .string (sr.at Env.S)) (w' := w) (by generalize a.eval = r at *; simp [execOp, heq, he, go_sem, c0]) (leaves_same ?_)
        cases sr <;> rfl
      · cases h
    · rename_i n j hn
      obtain ⟨b, s, A, cap, he, -, hc⟩ : (Ab.fld n j).pd p w (a.eval y) := hev y _ (by simp [heq, Op.operands]) hn
      exact fld_ok h heq ⟨b, s, A, cap, he, hc⟩
    · rename_i s n j hn
      obtain ⟨g, A, cap, he, -, hb, ht⟩ : (Ab.mfld s n j).pd p w (a.eval y) := hev y _ (by simp [heq, Op.operands]) hn
      obtain ⟨c0, c1, c2, c3⟩ := blk4 hb
      exact fld_ok h heq ⟨g, 0, A, cap, he, c0, c1, c2, c3, ht⟩
    · cases h
  · rename_i t y z heq
    split at h
    · rename_i l i hl hi
      obtain ⟨A, cap, he, h1, h2, h3, hin⟩ : (Ab.ints l).pd p w (a.eval y) := hev y _ (by simp [heq, Op.operands]) hl
      have hiv : a.eval z = .int .i64 i := hev z _ (by simp [heq, Op.operands]) hi
      split at h
      · rename_i n hn
        split at h
        · rename_i hok
          simp [isInts] at hok
        · cases h
      · cases h
    · rename_i l i hl hi
      obtain ⟨A, cap, he, h1, h2, h3, hin⟩ : (Ab.row l).pd p w (a.eval y) := hev y _ (by simp [heq, Op.operands]) hl
      have hiv : a.eval z = .int .i64 i := hev z _ (by simp [heq, Op.operands]) hi
      split at h
      · rename_i n hn
        split at h
        · rename_i hok
          simp only [isTerms, Bool.and_eq_true, decide_eq_true_eq, beq_iff_eq] at hok
          obtain ⟨rfl, h0⟩ := hok
          injection h with h
          subst h
          obtain ⟨m, rfl⟩ := Int.eq_ofNat_of_zero_le h0
          have hm : m < l.length := (List.getElem?_eq_some_iff.1 hn).1
          have hml : l[m] = n := (List.getElem?_eq_some_iff.1 hn).2
          obtain ⟨b, s, A0, cap0, rfl, hp, e0, e1, e2, e3, ht⟩ := hin.get hm
          rw [hml] at e0 e1 e2 e3 ht
          exact wp_value (v := .pointer (some ⟨b, s + m * 4, none⟩)) (w' := w) (by generalize a.eval = r at *; simp [execOp, heq, he, hiv, go_sem, hm]) (leaves_same ⟨b, s + m * 4, A0, cap0, rfl, hp, e0, e1, e2, e3, ht⟩)
        · cases h
      · cases h
    · rename_i l i hl hi
      obtain ⟨A, cap, he, h1, h2, hin⟩ : (Ab.srow l).pd p w (a.eval y) := hev y _ (by simp [heq, Op.operands]) hl
      have hiv : a.eval z = .int .i64 i := hev z _ (by simp [heq, Op.operands]) hi
      split at h
      · rename_i sr hsr
        split at h
        · rename_i hok
          simp only [isStrs, Bool.and_eq_true, decide_eq_true_eq, beq_iff_eq] at hok
          obtain ⟨rfl, h0⟩ := hok
          injection h with h
          subst h
          obtain ⟨m, rfl⟩ := Int.eq_ofNat_of_zero_le h0
          have hm : m < l.length := (List.getElem?_eq_some_iff.1 hsr).1
          have hml : l[m] = sr := (List.getElem?_eq_some_iff.1 hsr).2
          obtain ⟨b, s, rfl, hp, hc⟩ := hin m (by simpa using hm)
          have hc' : w.cell? ⟨b, s + m, none⟩ = some (.string (sr.at Env.S)) := by rw [hc]; simp [hml]
          exact wp_value (v := .pointer (some ⟨b, s + m, none⟩)) (w' := w) (by generalize a.eval = r at *; simp [execOp, heq, he, hiv, go_sem, hm]) (leaves_same ⟨b, s + m, rfl, hp, hc'⟩)
        · cases h
      · cases h
    · rename_i n x2 hl hx2
      obtain ⟨A, cap, he, h1, h2, h3, hin⟩ : (Ab.itok n).pd p w (a.eval y) := hev y _ (by simp [heq, Op.operands]) hl
      split at h
      · rename_i i hi
        have hiv := irOf_ok hi (hev z _ (by simp [heq, Op.operands]) hx2)
        split at h
        · rename_i hok
          simp [isInts] at hok
        · cases h
      · cases h
    · rename_i n x2 hl hx2
      obtain ⟨A, cap, he, h1, h2, h3, hin⟩ : (Ab.rtok n).pd p w (a.eval y) := hev y _ (by simp [heq, Op.operands]) hl
      split at h
      · rename_i i hi
        have hiv := irOf_ok hi (hev z _ (by simp [heq, Op.operands]) hx2)
        split at h
        · rename_i hok
          simp only [isTerms, beq_iff_eq] at hok
          subst hok
          obtain ⟨g, hg, hgx⟩ := env_find h
          split at hgx
          · rename_i n' i' k
            split at hgx
            · rename_i hn
              simp only [Bool.and_eq_true, beq_iff_eq] at hn
              obtain ⟨rfl, hie⟩ := hn
              obtain rfl := IR.beq_ok hie
              injection hgx with hgx
              subst hgx
              obtain ⟨h0, hget⟩ := hg
              obtain ⟨m, hm0⟩ := Int.eq_ofNat_of_zero_le h0
              rw [hm0] at hget hiv
              have hm : m < (Env.R n').length := (List.getElem?_eq_some_iff.1 hget).1
              have hml : (Env.R n')[m] = Env.T k := (List.getElem?_eq_some_iff.1 hget).2
              obtain ⟨b, s, A0, cap0, rfl, hp, e0, e1, e2, e3, ht⟩ := hin.get hm
              rw [hml] at e0 e1 e2 e3 ht
              exact wp_value (v := .pointer (some ⟨b, s + m * 4, none⟩)) (w' := w) (by generalize a.eval = r at *; simp [execOp, heq, he, hiv, go_sem, hm]) (leaves_same ⟨b, s + m * 4, A0, cap0, rfl, hp, e0, e1, e2, e3, ht⟩)
            · cases hgx
          · cases hgx
        · cases h
      · cases h
    · cases h
  · rename_i y i heq
    split at h
    · rename_i z1 z2 hz
      obtain ⟨v1, v2, he, h1, h2⟩ : (Ab.pair z1 z2).pd p w (a.eval y) := hev y _ (by simp [heq, Op.operands]) hz
      split at h
      · rename_i hi
        simp only [beq_iff_eq] at hi
        subst hi
        injection h with h
        subst h
        exact wp_value (v := v1) (w' := w) (by generalize a.eval = r at *; simp [execOp, heq, he, go_sem]) (leaves_same h1)
      · split at h
        · rename_i hi
          simp only [beq_iff_eq] at hi
          subst hi
          injection h with h
          subst h
          exact wp_value (v := v2) (w' := w) (by generalize a.eval = r at *; simp [execOp, heq, he, go_sem]) (leaves_same h2)
        · cases h
    · rename_i z1 z2 z3 hz
      obtain ⟨v1, v2, v3, he, h1, h2, h3⟩ : (Ab.tup3 z1 z2 z3).pd p w (a.eval y) := hev y _ (by simp [heq, Op.operands]) hz
      have hin : ∃ v, (#[v1, v2, v3] : Array Value)[i]? = some v ∧ x.pd p w v := by
        split at h
        · rename_i hi; simp only [beq_iff_eq] at hi; subst hi; injection h with h; subst h; exact ⟨v1, rfl, h1⟩
        · split at h
          · rename_i hi; simp only [beq_iff_eq] at hi; subst hi; injection h with h; subst h; exact ⟨v2, rfl, h2⟩
          · split at h
            · rename_i hi; simp only [beq_iff_eq] at hi; subst hi; injection h with h; subst h; exact ⟨v3, rfl, h3⟩
            · cases h
      obtain ⟨v, hv, hx⟩ := hin
      exact wp_value (v := v) (w' := w) (by generalize a.eval = r at *; simp [execOp, heq, he, go_sem, hv]) (leaves_same hx)
    · rename_i z1 z2 z3 z4 hz
      obtain ⟨v1, v2, v3, v4, he, h1, h2, h3, h4⟩ : (Ab.tup4 z1 z2 z3 z4).pd p w (a.eval y) := hev y _ (by simp [heq, Op.operands]) hz
      have hin : ∃ v, (#[v1, v2, v3, v4] : Array Value)[i]? = some v ∧ x.pd p w v := by
        split at h
        · rename_i hi; simp only [beq_iff_eq] at hi; subst hi; injection h with h; subst h; exact ⟨v1, rfl, h1⟩
        · split at h
          · rename_i hi; simp only [beq_iff_eq] at hi; subst hi; injection h with h; subst h; exact ⟨v2, rfl, h2⟩
          · split at h
            · rename_i hi; simp only [beq_iff_eq] at hi; subst hi; injection h with h; subst h; exact ⟨v3, rfl, h3⟩
            · split at h
              · rename_i hi; simp only [beq_iff_eq] at hi; subst hi; injection h with h; subst h; exact ⟨v4, rfl, h4⟩
              · cases h
      obtain ⟨v, hv, hx⟩ := hin
      exact wp_value (v := v) (w' := w) (by generalize a.eval = r at *; simp [execOp, heq, he, go_sem, hv]) (leaves_same hx)
    · cases h
  · rename_i t y heq
    split at h
    · rename_i z hz
      split at h
      · rename_i hok
        simp only [isTerm, Bool.and_eq_true, beq_iff_eq] at hok
        obtain ⟨rfl, hok⟩ := hok
        cases hd : o.dst with
        | none => rw [hd] at h; cases h
        | some s =>
        rw [hd] at h
        simp only [Option.map_some, Option.some.injEq] at h
        subst h
        obtain ⟨tt, htt⟩ := isTm_of hok
        have h1 := hev y _ (by simp [heq, Op.operands]) hz
        obtain ⟨A, cap, he⟩ := any_form htt h1
        refine wp_value (v := .pointer (some ⟨w.heap.size, 0, none⟩)) (w' := w.alloc (TB tt A cap)) (by generalize a.eval = r at *; simp [execOp, heq, he, go_sem]) ?_
        rw [he] at h1
        have hext : Ext p w (pinNew p w s) (w.alloc (TB tt A cap)) := ⟨(But.refl _ _).alloc _, fun b hb => if_neg (by omega)⟩
        exact ⟨_, pinNew p w s, by rw [hd], hext, tt, htt, w.heap.size, A, cap, rfl, if_pos rfl, heap_new rfl, z.kept _ _ _ _ _ hext h1⟩
      · cases h
    · cases h
  · rename_i t heq
    split at h
    · rename_i hok
      simp only [isTerm, beq_iff_eq] at hok
      subst hok
      cases hd : o.dst with
      | none => rw [hd] at h; cases h
      | some s =>
        rw [hd] at h
        simp only [Option.map_some, Option.some.injEq] at h
        subst h
        refine wp_value (v := .pointer (some ⟨w.heap.size, 0, none⟩)) (w' := w.alloc (TB zeroT none 0)) (by generalize a.eval = r at *; simp [execOp, heq, go_sem, zeroT, TB, Tm.kind, Tm.num, Tm.name, Tm.args]) ?_
        exact ⟨_, pinNew p w s, rfl, ⟨(But.refl _ _).alloc _, fun b hb => if_neg (by omega)⟩, zeroT, rfl, w.heap.size, none, 0, rfl, if_pos rfl, heap_new rfl, flat_in (k := 0) (n := 0) (s := ⟨#[]⟩) (by unfold wf64; omega) (by unfold wf64; omega) (by decide) _ _⟩
    · cases h
  · rename_i c heq
    split at h
    · rename_i f hcal
      split at h
      · rename_i l hl
        obtain ⟨callee, ⟨args⟩, tys⟩ := c
        obtain rfl : callee = .value (.func f) := hcal
        have hargs := evs_ok (p := p) (w := w) hF hl (fun y hy t ht => hf t (by
          unfold opTmps
          exact List.mem_filterMap.2 ⟨y, by simp [heq, Op.operands, Call.operands]; exact .inr hy, by rw [ht]⟩))
        refine wp_calls (f := f) (args := (args.map a.eval).toArray) ?_ (((hC f l x h).2 p w _ hargs).mono ?_)
        · have hen := (hC f l x h).1
          have hfv : a.eval (.func f) = .func (.func f) #[] #[] := rfl
          generalize a.eval = r at *
          simp [execOp, heq, go_sem, hfv, hen, resolve]
        · rintro e w' ⟨v, p', rfl, hx, hv⟩
          exact ⟨v, rfl, v, p', rfl, hx, hv⟩
      · cases h
    · rename_i hcal
      exact len_ok heq hcal hev h
    · cases h
  · cases h
end
end Go.Proofs.Ytloekfnlidclcaa

namespace Go.Proofs.Ytloekfnlidclcaa
open Go.RowKit
set_option linter.unusedVariables false
variable [Env]

/-- What an operation that was left out leaves. -/
def isUndef : Ab → Bool
  | .val (.tuple a) => a.isEmpty
  | _ => false

omit [Env] in
theorem isUndef_ok {x : Ab} (h : isUndef x = true) : x = .val undef := by
  unfold isUndef at h
  split at h
  · rename_i a
    have : a = #[] := by simpa using h
    rw [this]
    rfl
  · cases h

def runAb (C : FuncId → List Ab → Option Ab) (ds : List (Option Tmp)) : List (Tmp × Ab) → List Oper → Option (List (Tmp × Ab))
  | σ, [] => some σ
  | σ, o :: l => match o.dst with
    | none => none
    | some t => match lk σ t with
      | some _ => none
      | none => match o.guard with
        | none => match absOp C (lk σ) o with
          | none => none
          | some x => runAb C ds ((t, x) :: σ) l
        | some (g, b) => match (ds[g]?).join with
          | none => none
          | some tg => match lk σ tg with
            | some (.val (.bool c)) => if c == b then (match absOp C (lk σ) o with
                | none => none
                | some x => runAb C ds ((t, x) :: σ) l)
              else runAb C ds ((t, .val undef) :: σ) l
            | some x => if isUndef x then runAb C ds ((t, .val undef) :: σ) l else none
            | none => none

omit [Env] in
theorem lk_cons {σ : List (Tmp × Ab)} {t s : Tmp} {x y : Ab} (hn : lk σ t = none) (h : lk σ s = some y) : lk ((t, x) :: σ) s = some y := by
  unfold lk
  by_cases hts : t = s
  · subst hts; rw [hn] at h; cases h
  · rw [if_neg (by simpa using hts)]; exact h

omit [Env] in
theorem lk_self {σ : List (Tmp × Ab)} {t : Tmp} {x : Ab} : lk ((t, x) :: σ) t = some x := by
  unfold lk
  simp

omit [Env] in
theorem lk_mem {σ : List (Tmp × Ab)} {t : Tmp} {x : Ab} (h : lk σ t = some x) : t ∈ σ.map (·.1) := by
  induction σ with
  | nil => cases h
  | cons y σ ih =>
    unfold lk at h
    by_cases hts : y.1 = t
    · simp [hts]
    · rw [if_neg (by simpa using hts)] at h
      exact List.mem_cons_of_mem _ (ih h)

omit [Env] in
theorem mem_lk {σ : List (Tmp × Ab)} {t : Tmp} (h : t ∈ σ.map (·.1)) : ∃ x, lk σ t = some x := by
  induction σ with
  | nil => cases h
  | cons y σ ih =>
    unfold lk
    by_cases hts : y.1 = t
    · exact ⟨y.2, by simp [hts]⟩
    · rw [if_neg (by simpa using hts)]
      refine ih ?_
      rcases List.mem_cons.1 h with h | h
      · exact absurd h.symm hts
      · exact h

theorem runAb_keys {C : FuncId → List Ab → Option Ab} {ds : List (Option Tmp)} : ∀ {l : List Oper} {σ σ' : List (Tmp × Ab)}, runAb C ds σ l = some σ' → ∀ t x, lk σ' t = some x → (∃ y, lk σ t = some y) ∨ ∃ o ∈ l, o.dst = some t
  | [], σ, σ', h, t, x, hx => by
    simp only [runAb, Option.some.injEq] at h
    subst h
    exact .inl ⟨x, hx⟩
  | o :: l, σ, σ', h, t, x, hx => by
    have go : ∀ s y, o.dst = some s → runAb C ds ((s, y) :: σ) l = some σ' → (∃ y, lk σ t = some y) ∨ ∃ o' ∈ o :: l, o'.dst = some t := fun s y hs hr => by
      rcases runAb_keys hr t x hx with ⟨z, hz⟩ | ⟨o', ho', hd'⟩
      · unfold lk at hz
        by_cases hst : s = t
        · subst hst; exact .inr ⟨o, List.mem_cons_self, hs⟩
        · rw [if_neg (by simpa using hst)] at hz
          exact .inl ⟨z, hz⟩
      · exact .inr ⟨o', List.mem_cons_of_mem _ ho', hd'⟩
    unfold runAb at h
    cases hd : o.dst with
    | none => rw [hd] at h; cases h
    | some s =>
      rw [hd] at h
      simp only at h
      split at h
      · cases h
      · split at h
        · split at h
          · cases h
          · exact go s _ hd h
        · split at h
          · cases h
          · split at h
            · split at h
              · split at h
                · cases h
                · exact go s _ hd h
              · exact go s _ hd h
            · split at h
              · exact go s _ hd h
              · cases h
            · cases h


def FF (σ : List (Tmp × Ab)) : Tmp → Pd := fun t => match lk σ t with
  | some x => x.pd
  | none => fun _ _ _ => True

theorem FF.at {σ : List (Tmp × Ab)} {t : Tmp} {x : Ab} (h : lk σ t = some x) : FF σ t = x.pd := by
  unfold FF
  rw [h]

theorem FF.kept (σ : List (Tmp × Ab)) (t : Tmp) : Kept (FF σ t) := by
  unfold FF
  split
  · exact Ab.kept _
  · exact fun _ _ _ _ _ _ _ => trivial

section
variable {Q : Exit → Act → World → Prop}

theorem runAb_ok {C : FuncId → List Ab → Option Ab} (hC : CallsOk C) {ops : List Oper} {F : Tmp → Pd} : ∀ {l : List Oper} {σ σ' : List (Tmp × Ab)}, runAb C (ops.map (·.dst)) σ l = some σ' → (∀ t x, lk σ' t = some x → F t = x.pd) →
    (∀ t x, lk σ t = some x → lk σ' t = some x) ∧ ∀ o ∈ l, OpOk Try.prog Q ops F o
  | [], σ, σ', h, hF => by
    simp only [runAb, Option.some.injEq] at h
    subst h
    exact ⟨fun _ _ h => h, fun o ho => by cases ho⟩
  | o :: l, σ, σ', h, hF => by
    unfold runAb at h
    cases hd : o.dst with
    | none => rw [hd] at h; cases h
    | some t =>
      rw [hd] at h
      simp only at h
      cases hl : lk σ t with
      | some y => rw [hl] at h; cases h
      | none =>
        rw [hl] at h
        simp only at h
        have go : ∀ x, runAb C (ops.map (·.dst)) ((t, x) :: σ) l = some σ' → (∀ s y, lk σ s = some y → lk σ' s = some y) ∧ lk σ' t = some x ∧ ∀ o ∈ l, OpOk Try.prog Q ops F o := fun x hx => by
          obtain ⟨h1, h2⟩ := runAb_ok hC hx hF
          exact ⟨fun s y hs => h1 s y (lk_cons hl hs), h1 t x lk_self, h2⟩
        cases hg : o.guard with
        | none =>
          rw [hg] at h
          simp only at h
          cases hx : absOp C (lk σ) o with
          | none => rw [hx] at h; cases h
          | some x =>
            rw [hx] at h
            obtain ⟨h1, h2, h3⟩ := go x h
            refine ⟨h1, fun o' ho' => ?_⟩
            rcases List.mem_cons.1 ho' with rfl | ho'
            · refine ⟨t, hd, ?_⟩
              rw [hg]
              show Runs _ _ _ _ (F t)
              rw [hF t x h2]
              exact absOp_ok hC (fun s y hs => hF s y (h1 s y hs)) hx
            · exact h3 o' ho'
        | some gb =>
          obtain ⟨g, b⟩ := gb
          rw [hg] at h
          simp only at h
          cases htg : ((ops.map (·.dst))[g]?).join with
          | none => rw [htg] at h; cases h
          | some tg =>
            rw [htg] at h
            simp only at h
            have hog : ∃ og, ops[g]? = some og ∧ og.dst = some tg := by
              rw [List.getElem?_map] at htg
              cases ho : ops[g]? with
              | none => rw [ho] at htg; cases htg
              | some og => rw [ho] at htg; exact ⟨og, rfl, by simpa using htg⟩
            obtain ⟨og, hog, hodg⟩ := hog
            split at h
            · rename_i c hc
              have fin : ∀ x, runAb C (ops.map (·.dst)) ((t, x) :: σ) l = some σ' → (∀ (hh : (∀ s y, lk σ s = some y → lk σ' s = some y) ∧ lk σ' t = some x), if c = b then Runs Try.prog Q F o (F t) else ∀ p w, F t p w undef) →
                  (∀ s y, lk σ s = some y → lk σ' s = some y) ∧ ∀ o' ∈ o :: l, OpOk Try.prog Q ops F o' := fun x hx hh => by
                obtain ⟨h1, h2, h3⟩ := go x hx
                refine ⟨h1, fun o' ho' => ?_⟩
                rcases List.mem_cons.1 ho' with rfl | ho'
                · refine ⟨t, hd, ?_⟩
                  rw [hg]
                  refine ⟨og, tg, hog, hodg, .inl ⟨c, fun p w v hv => ?_, hh ⟨h1, h2⟩⟩⟩
                  rw [hF tg _ (h1 tg _ hc)] at hv
                  exact hv
                · exact h3 o' ho'
              split at h
              · rename_i hcb
                have hcb' : c = b := by simpa using hcb
                cases hx : absOp C (lk σ) o with
                | none => rw [hx] at h; cases h
                | some x =>
                  rw [hx] at h
                  refine fin x h fun hh => ?_
                  rw [if_pos hcb', hF t x hh.2]
                  exact absOp_ok hC (fun s y hs => hF s y (hh.1 s y hs)) hx
              · rename_i hcb
                have hcb' : ¬ c = b := by simpa using hcb
                refine fin (.val undef) h fun hh => ?_
                rw [if_neg hcb', hF t _ hh.2]
                exact fun _ _ => rfl
            · rename_i x0 _ hx0
              split at h
              · rename_i hun
                obtain rfl := isUndef_ok hun
                obtain ⟨h1, h2, h3⟩ := go _ h
                refine ⟨h1, fun o' ho' => ?_⟩
                rcases List.mem_cons.1 ho' with rfl | ho'
                · refine ⟨t, hd, ?_⟩
                  rw [hg]
                  refine ⟨og, tg, hog, hodg, .inr ⟨fun p w v hv => ?_, ?_⟩⟩
                  · rw [hF tg _ (h1 tg _ hx0)] at hv
                    exact hv
                  · rw [hF t _ h2]
                    exact fun _ _ => rfl
                · exact h3 o' ho'
              · cases h
            · cases h

def Facts (σ : List (Tmp × Ab)) (p : Nat → Option Nat) (w : World) (a : Act) : Prop := ∀ t x, lk σ t = some x → ∃ v, a.tmps[t]? = some v ∧ x.pd p w v

/-- The region by a run on what is known. -/
theorem wp_region_abs {C : FuncId → List Ab → Option Ab} (hC : CallsOk C) {id : Nat} {l : List Oper} {a0 : Act} {p0 : Nat → Option Nat} {w0 : World} (n T : Nat) (σ σ' : List (Tmp × Ab)) (hm : Try.prog.follows .mixedOrders = true)
    (hB : rgB l n T (σ.map (·.1)) = true) (hr : runAb C (l.map (·.dst)) σ (l.take n) = some σ') (hT : T ≤ a0.tmps.size) (h0 : Facts σ p0 w0 a0)
    (hend : ∀ a p w, Ext p0 w0 p w → a.defers = a0.defers → a.tmps.size = a0.tmps.size → Facts σ' p w a → wpList Try.prog l.toArray Q (l.drop n) a w) :
    (Code.region id l.toArray true).wp Try.prog Q a0 w0 := by
  have hF : ∀ t x, lk σ' t = some x → FF σ' t = x.pd := fun t x h => FF.at h
  obtain ⟨h1, h2⟩ := runAb_ok (Q := Q) hC hr hF
  refine wp_region_facts n T (σ.map (·.1)) (FF σ') hm hB hT (FF.kept σ') (fun t ht => ?_) (fun i o hi ho => h2 o (List.mem_take_iff_getElem.2 ⟨i, by have := (List.getElem?_eq_some_iff.1 ho).1; omega, (List.getElem?_eq_some_iff.1 ho).2⟩))
    (fun a p w hx hdf hsz hrest hold hnew => hend a p w hx hdf hsz fun t x hl => ?_)
  · obtain ⟨x, hx⟩ := mem_lk ht
    rw [FF.at (h1 t x hx)]
    exact h0 t x hx
  · rw [← FF.at hl]
    rcases runAb_keys hr t x hl with ⟨y, hy⟩ | ⟨o, ho, hd⟩
    · exact hold t (lk_mem hy)
    · obtain ⟨i, hi, he⟩ := List.mem_take_iff_getElem.1 ho
      exact hnew i o t (by omega) (by rw [← he]; exact List.getElem?_eq_getElem _) hd
end
end Go.Proofs.Ytloekfnlidclcaa
