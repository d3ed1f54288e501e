/-
  Knowns compared; a drawn region in every order. No condition.
-/
import Derived.Test.YtloekfnlidclcaaRb
namespace Go.Proofs.Ytloekfnlidclcaa
open Go.RowKit
set_option linter.unusedVariables false

def srsB : List SR → List SR → Bool
  | [], [] => true
  | a :: l, b :: m => SR.beq a b && srsB l m
  | _, _ => false

theorem srsB_ok : ∀ {l m : List SR}, srsB l m = true → l = m
  | [], [], _ => rfl
  | a :: l, b :: m, h => by
    simp only [srsB, Bool.and_eq_true] at h
    rw [SR.beq_ok h.1, srsB_ok h.2]
  | [], _ :: _, h => by cases h
  | _ :: _, [], h => by cases h

def Ab.beq : Ab → Ab → Bool
  | .srow l, .srow m => srsB l m
  | .toks a, .toks b => a == b
  | .val (.bool a), .val (.bool b) => a == b
  | .elm a, .elm b => a == b
  | .fld a j, .fld b k => a == b && j == k
  | .iat a, .iat b => a == b
  | .tok a, .tok b => a == b
  | .vtok a, .vtok b => a == b
  | .stok a, .stok b => a == b
  | .itok a, .itok b => a == b
  | .rtok a, .rtok b => a == b
  | .term a, .term b => eqT a b
  | .own a n, .own b m => a == b && n == m
  | .val (.slice none 0 0), .val (.slice none 0 0) => true
  | .val (.int .i64 a), .val (.int .i64 b) => a == b
  | .val (.string a), .val (.string b) => decide (a = b)
  | _, _ => false

theorem Ab.beq_ok {x y : Ab} (h : Ab.beq x y = true) : x = y := by
  unfold Ab.beq at h
  split at h
  · rw [srsB_ok h]
  · simp only [beq_iff_eq] at h; rw [h]
  · simp only [beq_iff_eq] at h; rw [h]
  · simp only [beq_iff_eq] at h; rw [h]
  · simp only [Bool.and_eq_true, beq_iff_eq] at h; rw [h.1, h.2]
  · simp only [beq_iff_eq] at h; rw [h]
  · simp only [beq_iff_eq] at h; rw [h]
  · simp only [beq_iff_eq] at h; rw [h]
  · simp only [beq_iff_eq] at h; rw [h]
  · simp only [beq_iff_eq] at h; rw [h]
  · simp only [beq_iff_eq] at h; rw [h]
  · rw [eqT_eq _ h]
  · simp only [Bool.and_eq_true, beq_iff_eq] at h; rw [h.1, h.2]
  · rfl
  · simp only [beq_iff_eq] at h; rw [h]
  · simp only [decide_eq_true_eq] at h; rw [h]
  · cases h

def isZ : Tm → Bool
  | .mk k n s [] => k == 0 && n == 0 && decide (s = ⟨#[]⟩)
  | _ => false

theorem isZ_ok {t : Tm} (h : isZ t = true) : t = zeroT := by
  unfold isZ at h
  split at h
  · simp only [Bool.and_eq_true, beq_iff_eq, decide_eq_true_eq] at h
    obtain ⟨⟨rfl, rfl⟩, rfl⟩ := h
    rfl
  · cases h

def Ab.same : Ab → Ab → Bool
  | .term a, .term b => isZ a && isZ b
  | .vcell s (.term a), .vcell s' (.term b) => s == s' && (isZ a && isZ b)
  | .vcell s x, .vcell s' y => s == s' && Ab.beq x y
  | .any, .any => true
  | .grow a m, .grow b n => a == b && m == n
  | .pair a b, .pair c d => Ab.beq a c && Ab.beq b d
  | .tup3 a b c, .tup3 d e f => Ab.beq a d && (Ab.beq b e && Ab.beq c f)
  | .tup4 a b c g, .tup4 d e f h => Ab.beq a d && (Ab.beq b e && (Ab.beq c f && Ab.beq g h))
  | .mfld a n j, .mfld b m k => a == b && (n == m && j == k)
  | x, y => Ab.beq x y

theorem Ab.same_ok {x y : Ab} (h : Ab.same x y = true) : x = y := by
  unfold Ab.same at h
  split at h
  · simp only [Bool.and_eq_true] at h
    rw [isZ_ok h.1, isZ_ok h.2]
  · simp only [Bool.and_eq_true, beq_iff_eq] at h
    rw [h.1, isZ_ok h.2.1, isZ_ok h.2.2]
  · simp only [Bool.and_eq_true, beq_iff_eq] at h
    rw [h.1, Ab.beq_ok h.2]
  · rfl
  · simp only [Bool.and_eq_true, beq_iff_eq] at h; rw [h.1, h.2]
  · simp only [Bool.and_eq_true] at h
    rw [Ab.beq_ok h.1, Ab.beq_ok h.2]
  · simp only [Bool.and_eq_true] at h
    rw [Ab.beq_ok h.1, Ab.beq_ok h.2.1, Ab.beq_ok h.2.2]
  · simp only [Bool.and_eq_true] at h
    rw [Ab.beq_ok h.1, Ab.beq_ok h.2.1, Ab.beq_ok h.2.2.1, Ab.beq_ok h.2.2.2]
  · simp only [Bool.and_eq_true, beq_iff_eq] at h
    rw [h.1, h.2.1, h.2.2]
  · exact Ab.beq_ok h

def wants (σ : List (Tmp × Ab)) : List (Tmp × Ab) → Bool
  | [] => true
  | (t, x) :: l => (match lk σ t with
    | some y => Ab.same y x
    | none => false) && wants σ l

theorem wants_ok {σ : List (Tmp × Ab)} : ∀ {l : List (Tmp × Ab)}, wants σ l = true → ∀ t x, lk l t = some x → lk σ t = some x
  | [], _, t, x, h => by cases h
  | (s, y) :: l, hw, t, x, h => by
    simp only [wants, Bool.and_eq_true] at hw
    unfold lk at h
    split at h
    · rename_i hst
      simp only [beq_iff_eq] at hst
      subst hst
      injection h with h
      subst h
      have h1 := hw.1
      split at h1
      · rename_i z hz
        rw [hz, Ab.same_ok h1]
      · cases h1
    · exact wants_ok hw.2 t x h

theorem mixed_ok : Try.prog.follows .mixedOrders = true := by kernel_rfl

/-- The sets of operations that may be done after one more step, with what is then known. -/
def nextLv [Env] (C : FuncId → List Ab → Option Ab) (ds : List (Option Tmp)) (ops : Array Oper) (lv : List (Array Bool × List (Tmp × Ab))) : List (Array Bool × List (Tmp × Ab)) :=
  lv.foldl (fun acc e => (Region.ready .any ops e.1).foldl (fun acc i => if acc.any (fun e' => decide (e'.1 = e.1.setIfInBounds i true)) then acc else match ops[i]? with
    | some o => (match runTl C ds e.2 [o] with
      | some σ' => (e.1.setIfInBounds i true, σ'.filter fun x => Ab.same x.2 x.2) :: acc
      | none => acc)
    | none => acc) acc) []

def lvls [Env] (C : FuncId → List Ab → Option Ab) (ds : List (Option Tmp)) (ops : Array Oper) : Nat → List (Array Bool × List (Tmp × Ab)) → List (List (Array Bool × List (Tmp × Ab)))
  | 0, lv => [lv]
  | n + 1, lv => lv :: lvls C ds ops n (nextLv C ds ops lv)

/-- Every set with every next operation leads to a set of the next level, with what is known there. -/
def okLv [Env] (C : FuncId → List Ab → Option Ab) (ds : List (Option Tmp)) (ops : Array Oper) (l : List (Tmp × Ab)) : List (List (Array Bool × List (Tmp × Ab))) → Bool
  | [] => false
  | [lv] => lv.all fun e => (Region.ready .any ops e.1).isEmpty && wants e.2 l
  | lv :: lv' :: r => (lv.all fun e => !(Region.ready .any ops e.1).isEmpty && (Region.ready .any ops e.1).all fun i => match ops[i]? with
      | some o => (match runTl C ds e.2 [o] with
        | some σ' => lv'.any fun e' => decide (e'.1 = e.1.setIfInBounds i true) && wants σ' e'.2
        | none => false)
      | none => false) && okLv C ds ops l (lv' :: r)

/-- A region in every order. -/
def anyOk [Env] (C : FuncId → List Ab → Option Ab) (ds : List (Option Tmp)) (ops : Array Oper) (l : List (Tmp × Ab)) (n : Nat) (listed : Array Bool) (σ : List (Tmp × Ab)) : Bool :=
  okLv C ds ops l (lvls C ds ops n [(listed, σ)])

theorem lv_ok [Env] {C : FuncId → List Ab → Option Ab} (hC : CallsOk C) {ops : Array Oper} {l : List (Tmp × Ab)} {z : Nat} {w0 : World} {p0 : Nat → Option Nat} {d : List Deferred} (ho : Old p0) (hall : ops.toList.all (fun o => tlB z [o]) = true) {Q : Exit → Act → World → Prop}
    (hk : ∀ p' w' a', Ext p0 w0 p' w' → a'.defers = d → a'.tmps.size = z → Facts l p' w' a' → Q .normal a' w') : ∀ (L : List (List (Array Bool × List (Tmp × Ab)))) (n : Nat), L.length = n + 1 → okLv C (ops.toList.map (·.dst)) ops l L = true →
    ∀ lv, L.head? = some lv → ∀ e ∈ lv, ∀ (p : Nat → Option Nat) (w : World) (a : Act), Ext p0 w0 p w → a.defers = d → a.tmps.size = z → Facts e.2 p w a → wpAny Try.prog .any ops Q n e.1 a w
  | [], n, hn, h => by cases h
  | [lv], n, hn, h => fun lv0 hlv e he p w a hx hd hz hf => by
    obtain rfl : n = 0 := by simpa using hn.symm
    simp only [List.head?_cons, Option.some.injEq] at hlv
    subst hlv
    have h1 := List.all_eq_true.1 (show (lv.all fun e => (Region.ready .any ops e.1).isEmpty && wants e.2 l) = true from h) e he
    simp only [Bool.and_eq_true, List.isEmpty_iff] at h1
    exact ⟨h1.1, hk p w a hx hd hz fun t x ht => hf t x (wants_ok h1.2 t x ht)⟩
  | lv :: lv' :: r, n, hn, h => fun lv0 hlv e he p w a hx hd hz hf => by
    obtain ⟨m, rfl⟩ : ∃ m, n = m + 1 := ⟨r.length, by simp at hn; omega⟩
    simp only [List.head?_cons, Option.some.injEq] at hlv
    subst hlv
    unfold okLv at h
    simp only [Bool.and_eq_true] at h
    obtain ⟨h1, h2⟩ := h
    have h3 := List.all_eq_true.1 h1 e he
    simp only [Bool.and_eq_true, Bool.not_eq_true'] at h3
    refine ⟨fun hr => by rw [hr] at h3; simp at h3, fun i hi => ?_⟩
    have h4 := List.all_eq_true.1 h3.2 i hi
    split at h4
    · rename_i o hoi
      split at h4
      · rename_i σ' hr
        obtain ⟨e', he', h5⟩ := List.any_eq_true.1 h4
        simp only [Bool.and_eq_true, decide_eq_true_eq] at h5
        unfold wpOp
        rw [hoi]
        have htl : tlB z [o] = true := List.all_eq_true.1 hall o (by rw [← Array.getElem?_toList] at hoi; exact List.mem_of_getElem? hoi)
        refine one_tail hC rfl ho hr htl hx hd hz hf fun p' w' a' hx' hd' hz' hf' => ?_
        rw [← h5.1]
        exact lv_ok hC ho hall hk (lv' :: r) m (by simpa using hn) h2 lv' rfl e' he' p' w' a' hx' hd' hz' fun t x ht => hf' t x (wants_ok h5.2 t x ht)
      · cases h4
    · cases h4

theorem lvls_len [Env] {C : FuncId → List Ab → Option Ab} {ds : List (Option Tmp)} {ops : Array Oper} : ∀ (n : Nat) (lv : List (Array Bool × List (Tmp × Ab))), (lvls C ds ops n lv).length = n + 1 ∧ (lvls C ds ops n lv).head? = some lv
  | 0, lv => ⟨rfl, rfl⟩
  | n + 1, lv => ⟨by simp [lvls, (lvls_len n _).1], rfl⟩

theorem any_ok [Env] {C : FuncId → List Ab → Option Ab} (hC : CallsOk C) {ops : Array Oper} {l : List (Tmp × Ab)} {z : Nat} {w0 : World} {p0 : Nat → Option Nat} {d : List Deferred} (ho : Old p0) (hall : ops.toList.all (fun o => tlB z [o]) = true) {Q : Exit → Act → World → Prop}
    (hk : ∀ p' w' a', Ext p0 w0 p' w' → a'.defers = d → a'.tmps.size = z → Facts l p' w' a' → Q .normal a' w') (f : Nat) (listed : Array Bool) (σ : List (Tmp × Ab)) (p : Nat → Option Nat) (w : World) (a : Act) (h : anyOk C (ops.toList.map (·.dst)) ops l f listed σ = true)
    (hx : Ext p0 w0 p w) (hd : a.defers = d) (hz : a.tmps.size = z) (hf : Facts σ p w a) : wpAny Try.prog .any ops Q f listed a w :=
  lv_ok hC ho hall hk _ f (lvls_len f _).1 h _ (lvls_len f _).2 (listed, σ) List.mem_cons_self p w a hx hd hz hf

end Go.Proofs.Ytloekfnlidclcaa

