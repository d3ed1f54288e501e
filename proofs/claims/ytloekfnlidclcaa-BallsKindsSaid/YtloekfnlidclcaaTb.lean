/-
  Tables of calls at numbered terms; a function with parameters whose body is all of regions. No condition.
-/
import Derived.Test.YtloekfnlidclcaaAw
namespace Go.Proofs.Ytloekfnlidclcaa
open Go.RowKit
set_option linter.unusedVariables false

def beqs : List Ab → List Ab → Bool
  | [], [] => true
  | x :: l, y :: m => Ab.beq x y && beqs l m
  | _, _ => false

theorem beqs_ok : ∀ {l m : List Ab}, beqs l m = true → l = m
  | [], [], _ => rfl
  | x :: l, y :: m, h => by
    simp only [beqs, Bool.and_eq_true] at h
    rw [Ab.beq_ok h.1, beqs_ok h.2]
  | [], _ :: _, h => by cases h
  | _ :: _, [], h => by cases h

def tbl : List (FuncId × List Ab × Ab) → FuncId → List Ab → Option Ab
  | [], _, _ => none
  | (g, m, x) :: r, f, l => if f == g && beqs l m then some x else tbl r f l

theorem TmAt.fr {w : World} {B : Nat} {t : Tm} {v : Value} (h : TmAt w B t v) : TmIn w (Fr fun _ => none) t v := TmIn.keeps (fun k o hk _ => ⟨hk, rfl⟩) _ h
theorem ArgsAt.fr {w : World} {B : Nat} {l : List Tm} {A : Option Addr} {i : Nat} (h : ArgsAt w B l A i) : ArgsIn w (Fr fun _ => none) l A i := ArgsIn.keeps (fun k o hk _ => ⟨hk, rfl⟩) h

variable [Env]

def Entries : List (FuncId × List Ab × Ab) → Prop
  | [] => True
  | (f, l, x) :: r => Entry f l x ∧ Entries r

theorem tbl_ok : ∀ {T : List (FuncId × List Ab × Ab)}, Entries T → CallsOk (tbl T)
  | [], _, f, l, x, h => by cases h
  | (g, m, y) :: r, ⟨he, hr⟩, f, l, x, h => by
    unfold tbl at h
    by_cases hc : (f == g && beqs l m) = true
    · rw [if_pos hc] at h
      simp only [Bool.and_eq_true, beq_iff_eq] at hc
      obtain ⟨rfl, hl⟩ := hc
      injection h with h
      subst h
      rw [beqs_ok hl]
      exact ⟨he.enter, he.call⟩
    · rw [if_neg hc] at h
      exact tbl_ok hr f l x h

section
variable {f : FuncId} (hen : ∀ args w, (callFunc f args).run Try.prog w = .ok (.enter f args) w)
include hen

theorem ent_0v {v : Value} (h : ∀ w, Calls Try.prog f #[] w fun e w' => e = .returned v ∧ But Nil w w') : Entry f [] (.val v) :=
  ⟨hen, fun p w vs hv => by
    match vs, hv with
    | [], _ => exact (h w).mono fun _ _ => ret_val⟩

theorem ent_tv {n : Nat} {v : Value} (h : ∀ w y, TmAt w w.heap.size (Env.T n) y → Calls Try.prog f #[y] w fun e w' => e = .returned v ∧ But Nil w w') : Entry f [.tok n] (.val v) :=
  ⟨hen, fun p w vs hv => by
    match vs, hv with
    | [y], ⟨h1, _⟩ => exact (h w y (TmIn.at_w h1)).mono fun _ _ => ret_val⟩

theorem ent_ti {n k : Nat} (h : ∀ w y, TmAt w w.heap.size (Env.T n) y → Calls Try.prog f #[y] w fun e w' => e = .returned (.int .i64 (Env.I k)) ∧ But Nil w w') : Entry f [.tok n] (.vtok k) :=
  ⟨hen, fun p w vs hv => by
    match vs, hv with
    | [y], ⟨h1, _⟩ => exact (h w y (TmIn.at_w h1)).mono fun e w' ⟨he, hb⟩ => ⟨_, pin0 p w, he, Ext.plain hb, rfl⟩⟩

theorem ent_tt {n k : Nat} (h : ∀ w y, TmAt w w.heap.size (Env.T n) y → Calls Try.prog f #[y] w fun e w' => ∃ u, e = .returned u ∧ TmNew w' w.heap.size (Env.T k) u ∧ But Nil w w') : Entry f [.tok n] (.tok k) :=
  ⟨hen, fun p w vs hv => by
    match vs, hv with
    | [y], ⟨h1, _⟩ => exact (h w y (TmIn.at_w h1)).mono fun e w' ⟨u, he, ht, hb⟩ => ⟨_, pin0 p w, he, Ext.plain hb, ht.pins⟩⟩

theorem ent_ttv {n m : Nat} {v : Value} (h : ∀ w y z, TmAt w w.heap.size (Env.T n) y → TmAt w w.heap.size (Env.T m) z → Calls Try.prog f #[y, z] w fun e w' => e = .returned v ∧ But Nil w w') : Entry f [.tok n, .tok m] (.val v) :=
  ⟨hen, fun p w vs hv => by
    match vs, hv with
    | [y, z], ⟨h1, h2, _⟩ => exact (h w y z (TmIn.at_w h1) (TmIn.at_w h2)).mono fun _ _ => ret_val⟩
end

end Go.Proofs.Ytloekfnlidclcaa

