/-
  A body of regions, whole. No condition.
-/
import Derived.Test.YtgedgmdbpembiaaRb
namespace Go.Proofs.Ytgedgmdbpembiaa
open Go.RowKit
set_option linter.unusedVariables false
variable [Env]

def noNew (σ : List (Tmp × Ab)) : Bool := σ.all fun e => !isNew e.2

/-- A region: drawn or in the text's order; n operations are free. -/
def runSeg (C : FuncId → List Ab → Option Ab) (z : Nat) (σ : List (Tmp × Ab)) (l : List Oper) (d : Bool) (n : Nat) : Option (List (Tmp × Ab)) :=
  if d then
    (if rgB l n z ((byKey (fun t => (l.map (·.dst)).all (· != some t)) σ).map (·.1)) && noNew σ && tlB z (l.drop n) then
      match runAb C (l.map (·.dst)) (byKey (fun t => (l.map (·.dst)).all (· != some t)) σ) (l.take n) with
      | some σ1 => runTl C σ1 (l.drop n)
      | none => none
    else none)
  else if tlB z l then runTl C σ l else none

def codeOf : List (Nat × List Oper × Bool × Nat) → Code
  | [] => .ret
  | (id, l, d, _) :: r => (Code.region id l.toArray d).seq (codeOf r)

def runBody (C : FuncId → List Ab → Option Ab) (z : Nat) : List (Tmp × Ab) → List (Nat × List Oper × Bool × Nat) → Option (List (Tmp × Ab))
  | σ, [] => some σ
  | σ, (_, l, d, n) :: r => match runSeg C z σ l d n with
    | some σ1 => runBody C z σ1 r
    | none => none

section
variable {Q : Exit → Act → World → Prop}

theorem facts_none {σ : List (Tmp × Ab)} {p : Nat → Option Nat} {w : World} {a : Act} (hn : noNew σ = true) (h : Facts σ p w a) : Facts σ (fun _ => none) w a := fun t x hx => by
  obtain ⟨v, h1, h2⟩ := h t x hx
  have := List.all_eq_true.1 hn _ (lk_pair hx)
  exact ⟨v, h1, Ab.unpinned x v (by simpa using this) h2⟩

theorem wp_seg {C : FuncId → List Ab → Option Ab} (hC : CallsOk C) {id : Nat} {l : List Oper} {d : Bool} {n z : Nat} {σ σ' : List (Tmp × Ab)} (h : runSeg C z σ l d n = some σ') {w0 w : World} {p : Nat → Option Nat} {a : Act} {ds : List Deferred}
    (hm : Try.prog.follows .mixedOrders = true) (hx : Ext (fun _ => none) w0 p w) (hd : a.defers = ds) (hz : a.tmps.size = z) (hf : Facts σ p w a)
    (hk : ∀ p' w' a', Ext (fun _ => none) w0 p' w' → a'.defers = ds → a'.tmps.size = z → Facts σ' p' w' a' → Q .normal a' w') : (Code.region id l.toArray d).wp Try.prog Q a w := by
  unfold runSeg at h
  cases d with
  | false =>
    rw [if_neg (by simp)] at h
    split at h
    · rename_i htl
      refine wp_region ?_
      have : wpOps Try.prog l.toArray Q (List.range' 0 l.length) = wpList Try.prog l.toArray Q l := wpOps_eq_wpList l 0 (fun j => by simp)
      rw [show List.range l.toArray.size = List.range' 0 l.length by simp [List.range_eq_range'], this]
      exact wpList_tail hC h htl hx hd hz hf hk
    · cases h
  | true =>
    rw [if_pos rfl] at h
    split at h
    · rename_i hok
      simp only [Bool.and_eq_true] at hok
      obtain ⟨⟨hB, hn⟩, htl⟩ := hok
      split at h
      · rename_i σ1 hr
        refine wp_region_abs hC n z _ σ1 hm hB hr (by omega) (fun t x hx => facts_none hn hf t x (lk_byKey hx).2) fun a1 p1 w1 hx1 hd1 hz1 hf1 => ?_
        refine wpList_tail hC h htl ⟨hx.but.trans_nil hx1.but, fun b hb => ?_⟩ (hd1.trans hd) (hz1.trans hz) hf1 hk
        exact hx1.pin b (Nat.lt_of_lt_of_le hb hx.but.size)
      · cases h
    · cases h

theorem wp_body {C : FuncId → List Ab → Option Ab} (hC : CallsOk C) {z : Nat} (hm : Try.prog.follows .mixedOrders = true) {w0 : World} {ds : List Deferred} : ∀ {r : List (Nat × List Oper × Bool × Nat)} {σ σ' : List (Tmp × Ab)} {p : Nat → Option Nat} {w : World} {a : Act},
    runBody C z σ r = some σ' → Ext (fun _ => none) w0 p w → a.defers = ds → a.tmps.size = z → Facts σ p w a →
    (∀ p' w' a', Ext (fun _ => none) w0 p' w' → a'.defers = ds → a'.tmps.size = z → Facts σ' p' w' a' → Q .ret a' w') → (codeOf r).wp Try.prog Q a w
  | [], σ, σ', p, w, a, h, hx, hd, hz, hf, hk => by
    simp only [runBody, Option.some.injEq] at h
    subst h
    exact wp_ret (hk p w a hx hd hz hf)
  | (id, l, d, n) :: r, σ, σ', p, w, a, h, hx, hd, hz, hf, hk => by
    unfold runBody at h
    split at h
    · rename_i σ1 h1
      exact wp_seq (wp_seg hC h1 hm hx hd hz hf fun p' w' a' hx' hd' hz' hf' => wp_body hC hm h hx' hd' hz' hf' hk)
    · cases h

def outOf (t : Tmp) (r : Option (List (Tmp × Ab))) : Option Ab := match r with
  | some σ => lk σ t
  | none => none

/-- A function without parameters, all of regions, whose result lies in slot 0. -/
theorem calls_body {C : FuncId → List Ab → Option Ab} (hC : CallsOk C) {f : FuncId} {fn : Func} {v : Value} {w : World} (r : List (Nat × List Oper × Bool × Nat)) (hm : Try.prog.follows .mixedOrders = true) (hf : Try.prog.funcs[f]? = some fn) (hb : fn.body = some (codeOf r))
    (hr : outOf 0 (runBody C fn.ntmps [] r) = some (.val v)) (hres : ∀ (tmps : Array Value) w, tmps[0]? = some v → (results fn tmps).run Try.prog w = .ok v w) :
    Calls Try.prog f #[] w fun e w' => e = .returned v ∧ But Nil w w' := by
  refine calls_of_wp hf hb ?_
  unfold outOf at hr
  split at hr
  · rename_i σ' h1
    refine wp_body hC hm h1 (Ext.refl _ w) rfl (by simp) (fun t x hx => by cases hx) fun p' w' a' hx hd hz hfa => ⟨hd, v, ?_, rfl, hx.but⟩
    obtain ⟨u, h2, h3⟩ := hfa 0 _ hr
    obtain rfl : u = v := h3
    exact hres _ _ h2
  · cases hr
end

end Go.Proofs.Ytgedgmdbpembiaa
