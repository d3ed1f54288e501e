/-
  Lemmas of the walk and plain laws, put together. No condition.
-/
import Derived.ChangeArms
import Derived.OpenShut
import Derived.ProofKit
import Derived.SizedLaws
import Derived.Test.YtloekfnlidclcaaRows
import Derived.Test.YtloekfnlidclcaaZd
namespace Go.Proofs.Ytloekfnlidclcaa
open Go.RowKit
set_option linter.unusedVariables false

theorem tup3_imp {E E' : Env} {x y z x' y' z' : Ab} (h1 : ∀ p w v, @Ab.pd E x p w v → @Ab.pd E' x' p w v) (h2 : ∀ p w v, @Ab.pd E y p w v → @Ab.pd E' y' p w v) (h3 : ∀ p w v, @Ab.pd E z p w v → @Ab.pd E' z' p w v) :
    ∀ p w v, @Ab.pd E (.tup3 x y z) p w v → @Ab.pd E' (.tup3 x' y' z') p w v := fun p w v ⟨a, b, c, e, ha, hb, hc⟩ => ⟨a, b, c, e, h1 _ _ _ ha, h2 _ _ _ hb, h3 _ _ _ hc⟩
theorem int_tok {E E' : Env} {n : Int} {k : Nat} (h : E'.I k = n) : ∀ p w v, @Ab.pd E (.val (.int .i64 n)) p w v → @Ab.pd E' (.vtok k) p w v := fun p w v hv => by
  obtain rfl : v = .int .i64 n := hv
  show Value.int .i64 n = .int .i64 (E'.I k)
  rw [h]
theorem vtok_eq {E E' : Env} {k m : Nat} (h : E.I k = E'.I m) : ∀ p w v, @Ab.pd E (.vtok k) p w v → @Ab.pd E' (.vtok m) p w v := fun p w v hv => by
  obtain rfl : v = .int .i64 (E.I k) := hv
  show Value.int .i64 (E.I k) = .int .i64 (E'.I m)
  rw [h]
theorem stok_eq {E E' : Env} {k m : Nat} (h : E.S k = E'.S m) : ∀ p w v, @Ab.pd E (.stok k) p w v → @Ab.pd E' (.stok m) p w v := fun p w v hv => by
  obtain rfl : v = .string (E.S k) := hv
  show Value.string (E.S k) = .string (E'.S m)
  rw [h]

/-- What a check says: bad: whether the kind is wrong. -/
def checkT (bad : Bool) (ty : ByteArray) (t : Tm) : Tm := if validT t then if t.kind == 0 then instT else if bad then aboutT sType [ty] t else zeroT else zeroT
def checkB (bad : Bool) (t : Tm) : Bool := validT t && (!(t.kind == 0) && !bad)
def sAtom : ByteArray := ⟨#[97, 116, 111, 109]⟩
def sInteger : ByteArray := ⟨#[105, 110, 116, 101, 103, 101, 114]⟩
def sCallable : ByteArray := ⟨#[99, 97, 108, 108, 97, 98, 108, 101]⟩
def sAtomic : ByteArray := ⟨#[97, 116, 111, 109, 105, 99]⟩

def badAtom (t : Tm) : Bool := !(t.kind == 2)
def strAtom (t : Tm) : ByteArray := if checkB (badAtom t) t then t.name else ⟨#[]⟩
abbrev EnvAtom (t : Tm) : Env :=
  { T := fun k => match k with | 0 => t | 2 => checkT (badAtom t) sAtom t | 3 => instT | _ => aboutT sType [sAtom] t
    I := fun k => match k with | 0 => t.kind | 1 => t.num | _ => (t.args.length : Int)
    S := fun k => match k with | 0 => t.name | _ => strAtom t
    R := fun _ => t.args }

theorem pAtom_entry (t : Tm) : @Entry (EnvAtom t) 53 [.tok 0] (.tup3 (.stok 1) (.tok 2) (.val (.bool (checkB (badAtom t) t)))) := by
  letI E : Env := EnvAtom t
  have ety : @Entry E 25 [.val (.string sAtom), .tok 0] (.tok 4) := entry_move (pType_entry t sAtom (by decide)) ⟨str_tok rfl, idd, trivial⟩ (ide (tok_eq rfl))
  cases hv : validT t with
  | false =>
    have hB : checkB (badAtom t) t = false := by simp [checkB, hv]
    rw [hB]
    refine entry_imp (x := .tup3 (.val (.string ⟨#[]⟩)) (.term zeroT) (.val (.bool false))) ?_ (tup3_imp (str_tok (show strAtom t = ⟨#[]⟩ by simp [strAtom, hB])) (term_tok' (show checkT (badAtom t) sAtom t = zeroT by simp [checkT, hv])) idd)
    exact entry_facts (E := E) [] trivial (tbl_ok (T := [(67, [.tok 0], .pair (.term zeroT) (.val (.bool false)))]) ⟨entry_move (bound_entry t) ⟨idd, trivial⟩ (by rw [show boundB t = false by simp [boundB, hv]]; exact pair_imp (ide (term_tok (E := E) (show boundT t = zeroT by simp [boundT, hv])).symm) idd), trivial⟩) [.tok 0] Try.func53 rfl (fun _ _ => by kernel_rfl) (by kernel_rfl) rfl rfl (by simp [Try.ntmps53])
  | true =>
    cases hk : (t.kind == 0) with
    | true =>
      have hB : checkB (badAtom t) t = false := by simp [checkB, hv, hk]
      rw [hB]
      refine entry_imp (x := .tup3 (.val (.string ⟨#[]⟩)) (.tok 3) (.val (.bool false))) ?_ (tup3_imp (str_tok (show strAtom t = ⟨#[]⟩ by simp [strAtom, hB])) (ide (tok_eq (show instT = checkT (badAtom t) sAtom t by simp [checkT, hv, hk]))) idd)
      exact entry_facts (E := E) [] trivial (tbl_ok (T := [(67, [.tok 0], .pair (.tok 3) (.val (.bool false)))]) ⟨entry_move (bound_entry t) ⟨idd, trivial⟩ (by rw [show boundB t = false by simp [boundB, hv, hk]]; exact pair_imp (ide (tok_eq (show boundT t = instT by simp [boundT, hv, hk]))) idd), trivial⟩) [.tok 0] Try.func53 rfl (fun _ _ => by kernel_rfl) (by kernel_rfl) rfl rfl (by simp [Try.ntmps53])
    | false =>
      cases hq : (t.kind == 2) with
      | true =>
        have hB : checkB (badAtom t) t = true := by simp [checkB, badAtom, hv, hk, hq]
        rw [hB]
        refine entry_imp (x := .tup3 (.stok 0) (.term zeroT) (.val (.bool true))) ?_ (tup3_imp (stok_eq (show t.name = strAtom t by simp [strAtom, hB])) (term_tok' (show checkT (badAtom t) sAtom t = zeroT by simp [checkT, badAtom, hv, hk, hq])) idd)
        exact entry_facts (E := E) [.tm 0 0 1 0 0, .rel .eq (.tok 0) (.lit 0) false, .rel .eq (.tok 0) (.lit 2) true] ⟨⟨rfl, rfl, rfl, rfl⟩, hk, hq, trivial⟩ (tbl_ok (T := [(67, [.tok 0], .pair (.term zeroT) (.val (.bool true)))]) ⟨entry_move (bound_entry t) ⟨idd, trivial⟩ (by rw [show boundB t = true by simp [boundB, hv, hk]]; exact pair_imp (ide (term_tok (E := E) (show boundT t = zeroT by simp [boundT, hv, hk])).symm) idd), trivial⟩) [.tok 0] Try.func53 rfl (fun _ _ => by kernel_rfl) (by kernel_rfl) rfl rfl (by simp [Try.ntmps53])
      | false =>
        have hB : checkB (badAtom t) t = false := by simp [checkB, badAtom, hv, hk, hq]
        rw [hB]
        refine entry_imp (x := .tup3 (.val (.string ⟨#[]⟩)) (.tok 4) (.val (.bool false))) ?_ (tup3_imp (str_tok (show strAtom t = ⟨#[]⟩ by simp [strAtom, hB])) (ide (tok_eq (show aboutT sType [sAtom] t = checkT (badAtom t) sAtom t by simp [checkT, badAtom, hv, hk, hq]))) idd)
        exact entry_facts (E := E) [.tm 0 0 1 0 0, .rel .eq (.tok 0) (.lit 0) false, .rel .eq (.tok 0) (.lit 2) false] ⟨⟨rfl, rfl, rfl, rfl⟩, hk, hq, trivial⟩ (tbl_ok (T := [(67, [.tok 0], .pair (.term zeroT) (.val (.bool true))), (25, [.val (.string sAtom), .tok 0], .tok 4)]) ⟨entry_move (bound_entry t) ⟨idd, trivial⟩ (by rw [show boundB t = true by simp [boundB, hv, hk]]; exact pair_imp (ide (term_tok (E := E) (show boundT t = zeroT by simp [boundT, hv, hk])).symm) idd), ety, trivial⟩) [.tok 0] Try.func53 rfl (fun _ _ => by kernel_rfl) (by kernel_rfl) rfl rfl (by simp [Try.ntmps53])

theorem rAtom_entry (t : Tm) : @Entry (EnvAtom t) 54 [.tok 0] (.tup3 (.stok 1) (.tok 2) (.val (.bool (checkB (badAtom t) t)))) := by
  letI E : Env := EnvAtom t
  have ety : @Entry E 38 [.val (.string sAtom), .tok 0] (.tok 4) := entry_move (rType_entry t sAtom (by decide)) ⟨str_tok rfl, idd, trivial⟩ (ide (tok_eq (type_eq sAtom t)))
  have ein : @Entry E 36 [] (.tok 3) := entry_move rinst_entry trivial (ide (tok_eq inst_eq.symm))
  cases hv : validT t with
  | false =>
    have hB : checkB (badAtom t) t = false := by simp [checkB, hv]
    rw [hB]
    refine entry_imp (x := .tup3 (.val (.string ⟨#[]⟩)) (.term zeroT) (.val (.bool false))) ?_ (tup3_imp (str_tok (show strAtom t = ⟨#[]⟩ by simp [strAtom, hB])) (term_tok' (show checkT (badAtom t) sAtom t = zeroT by simp [checkT, hv])) idd)
    exact entry_facts (E := E) [] trivial (tbl_ok (T := [(23, [.tok 0], .val (.bool false))]) ⟨ent_rvalid hv, trivial⟩) [.tok 0] Try.func54 rfl (fun _ _ => by kernel_rfl) (by kernel_rfl) rfl rfl (by simp [Try.ntmps54])
  | true =>
    cases hk : (t.kind == 0) with
    | true =>
      have hB : checkB (badAtom t) t = false := by simp [checkB, hv, hk]
      rw [hB]
      refine entry_imp (x := .tup3 (.val (.string ⟨#[]⟩)) (.tok 3) (.val (.bool false))) ?_ (tup3_imp (str_tok (show strAtom t = ⟨#[]⟩ by simp [strAtom, hB])) (ide (tok_eq (show instT = checkT (badAtom t) sAtom t by simp [checkT, hv, hk]))) idd)
      exact entry_facts (E := E) [.tm 0 0 1 0 0, .rel .eq (.tok 0) (.lit 0) true] ⟨⟨rfl, rfl, rfl, rfl⟩, hk, trivial⟩ (tbl_ok (T := [(23, [.tok 0], .val (.bool true)), (36, [], .tok 3)]) ⟨ent_rvalid hv, ein, trivial⟩) [.tok 0] Try.func54 rfl (fun _ _ => by kernel_rfl) (by kernel_rfl) rfl rfl (by simp [Try.ntmps54])
    | false =>
      cases hq : (t.kind == 2) with
      | true =>
        have hB : checkB (badAtom t) t = true := by simp [checkB, badAtom, hv, hk, hq]
        rw [hB]
        refine entry_imp (x := .tup3 (.stok 0) (.term zeroT) (.val (.bool true))) ?_ (tup3_imp (stok_eq (show t.name = strAtom t by simp [strAtom, hB])) (term_tok' (show checkT (badAtom t) sAtom t = zeroT by simp [checkT, badAtom, hv, hk, hq])) idd)
        exact entry_facts (E := E) [.tm 0 0 1 0 0, .rel .eq (.tok 0) (.lit 0) false, .rel .eq (.tok 0) (.lit 2) true] ⟨⟨rfl, rfl, rfl, rfl⟩, hk, hq, trivial⟩ (tbl_ok (T := [(23, [.tok 0], .val (.bool true))]) ⟨ent_rvalid hv, trivial⟩) [.tok 0] Try.func54 rfl (fun _ _ => by kernel_rfl) (by kernel_rfl) rfl rfl (by simp [Try.ntmps54])
      | false =>
        have hB : checkB (badAtom t) t = false := by simp [checkB, badAtom, hv, hk, hq]
        rw [hB]
        refine entry_imp (x := .tup3 (.val (.string ⟨#[]⟩)) (.tok 4) (.val (.bool false))) ?_ (tup3_imp (str_tok (show strAtom t = ⟨#[]⟩ by simp [strAtom, hB])) (ide (tok_eq (show aboutT sType [sAtom] t = checkT (badAtom t) sAtom t by simp [checkT, badAtom, hv, hk, hq]))) idd)
        exact entry_facts (E := E) [.tm 0 0 1 0 0, .rel .eq (.tok 0) (.lit 0) false, .rel .eq (.tok 0) (.lit 2) false] ⟨⟨rfl, rfl, rfl, rfl⟩, hk, hq, trivial⟩ (tbl_ok (T := [(23, [.tok 0], .val (.bool true)), (38, [.val (.string sAtom), .tok 0], .tok 4)]) ⟨ent_rvalid hv, ety, trivial⟩) [.tok 0] Try.func54 rfl (fun _ _ => by kernel_rfl) (by kernel_rfl) rfl rfl (by simp [Try.ntmps54])

def badInt (t : Tm) : Bool := !(t.kind == 1)
def numInt (t : Tm) : Int := if checkB (badInt t) t then t.num else 0
abbrev EnvInt (t : Tm) : Env :=
  { T := fun k => match k with | 0 => t | 2 => checkT (badInt t) sInteger t | 3 => instT | _ => aboutT sType [sInteger] t
    I := fun k => match k with | 0 => t.kind | 1 => t.num | 2 => (t.args.length : Int) | _ => numInt t
    S := fun _ => t.name
    R := fun _ => t.args }

theorem pInt_entry (t : Tm) : @Entry (EnvInt t) 55 [.tok 0] (.tup3 (.vtok 3) (.tok 2) (.val (.bool (checkB (badInt t) t)))) := by
  letI E : Env := EnvInt t
  have ety : @Entry E 25 [.val (.string sInteger), .tok 0] (.tok 4) := entry_move (pType_entry t sInteger (by decide)) ⟨str_tok rfl, idd, trivial⟩ (ide (tok_eq rfl))
  cases hv : validT t with
  | false =>
    have hB : checkB (badInt t) t = false := by simp [checkB, hv]
    rw [hB]
    refine entry_imp (x := .tup3 (.val (.int .i64 0)) (.term zeroT) (.val (.bool false))) ?_ (tup3_imp (int_tok (show numInt t = 0 by simp [numInt, hB])) (term_tok' (show checkT (badInt t) sInteger t = zeroT by simp [checkT, hv])) idd)
    exact entry_facts (E := E) [] trivial (tbl_ok (T := [(67, [.tok 0], .pair (.term zeroT) (.val (.bool false)))]) ⟨entry_move (bound_entry t) ⟨idd, trivial⟩ (by rw [show boundB t = false by simp [boundB, hv]]; exact pair_imp (ide (term_tok (E := E) (show boundT t = zeroT by simp [boundT, hv])).symm) idd), trivial⟩) [.tok 0] Try.func55 rfl (fun _ _ => by kernel_rfl) (by kernel_rfl) rfl rfl (by simp [Try.ntmps55])
  | true =>
    cases hk : (t.kind == 0) with
    | true =>
      have hB : checkB (badInt t) t = false := by simp [checkB, hv, hk]
      rw [hB]
      refine entry_imp (x := .tup3 (.val (.int .i64 0)) (.tok 3) (.val (.bool false))) ?_ (tup3_imp (int_tok (show numInt t = 0 by simp [numInt, hB])) (ide (tok_eq (show instT = checkT (badInt t) sInteger t by simp [checkT, hv, hk]))) idd)
      exact entry_facts (E := E) [] trivial (tbl_ok (T := [(67, [.tok 0], .pair (.tok 3) (.val (.bool false)))]) ⟨entry_move (bound_entry t) ⟨idd, trivial⟩ (by rw [show boundB t = false by simp [boundB, hv, hk]]; exact pair_imp (ide (tok_eq (show boundT t = instT by simp [boundT, hv, hk]))) idd), trivial⟩) [.tok 0] Try.func55 rfl (fun _ _ => by kernel_rfl) (by kernel_rfl) rfl rfl (by simp [Try.ntmps55])
    | false =>
      cases hq : (t.kind == 1) with
      | true =>
        have hB : checkB (badInt t) t = true := by simp [checkB, badInt, hv, hk, hq]
        rw [hB]
        refine entry_imp (x := .tup3 (.vtok 1) (.term zeroT) (.val (.bool true))) ?_ (tup3_imp (vtok_eq (show t.num = numInt t by simp [numInt, hB])) (term_tok' (show checkT (badInt t) sInteger t = zeroT by simp [checkT, badInt, hv, hk, hq])) idd)
        exact entry_facts (E := E) [.tm 0 0 1 0 0, .rel .eq (.tok 0) (.lit 0) false, .rel .eq (.tok 0) (.lit 1) true] ⟨⟨rfl, rfl, rfl, rfl⟩, hk, hq, trivial⟩ (tbl_ok (T := [(67, [.tok 0], .pair (.term zeroT) (.val (.bool true)))]) ⟨entry_move (bound_entry t) ⟨idd, trivial⟩ (by rw [show boundB t = true by simp [boundB, hv, hk]]; exact pair_imp (ide (term_tok (E := E) (show boundT t = zeroT by simp [boundT, hv, hk])).symm) idd), trivial⟩) [.tok 0] Try.func55 rfl (fun _ _ => by kernel_rfl) (by kernel_rfl) rfl rfl (by simp [Try.ntmps55])
      | false =>
        have hB : checkB (badInt t) t = false := by simp [checkB, badInt, hv, hk, hq]
        rw [hB]
        refine entry_imp (x := .tup3 (.val (.int .i64 0)) (.tok 4) (.val (.bool false))) ?_ (tup3_imp (int_tok (show numInt t = 0 by simp [numInt, hB])) (ide (tok_eq (show aboutT sType [sInteger] t = checkT (badInt t) sInteger t by simp [checkT, badInt, hv, hk, hq]))) idd)
        exact entry_facts (E := E) [.tm 0 0 1 0 0, .rel .eq (.tok 0) (.lit 0) false, .rel .eq (.tok 0) (.lit 1) false] ⟨⟨rfl, rfl, rfl, rfl⟩, hk, hq, trivial⟩ (tbl_ok (T := [(67, [.tok 0], .pair (.term zeroT) (.val (.bool true))), (25, [.val (.string sInteger), .tok 0], .tok 4)]) ⟨entry_move (bound_entry t) ⟨idd, trivial⟩ (by rw [show boundB t = true by simp [boundB, hv, hk]]; exact pair_imp (ide (term_tok (E := E) (show boundT t = zeroT by simp [boundT, hv, hk])).symm) idd), ety, trivial⟩) [.tok 0] Try.func55 rfl (fun _ _ => by kernel_rfl) (by kernel_rfl) rfl rfl (by simp [Try.ntmps55])

theorem rInt_entry (t : Tm) : @Entry (EnvInt t) 56 [.tok 0] (.tup3 (.vtok 3) (.tok 2) (.val (.bool (checkB (badInt t) t)))) := by
  letI E : Env := EnvInt t
  have ety : @Entry E 38 [.val (.string sInteger), .tok 0] (.tok 4) := entry_move (rType_entry t sInteger (by decide)) ⟨str_tok rfl, idd, trivial⟩ (ide (tok_eq (type_eq sInteger t)))
  have ein : @Entry E 36 [] (.tok 3) := entry_move rinst_entry trivial (ide (tok_eq inst_eq.symm))
  cases hv : validT t with
  | false =>
    have hB : checkB (badInt t) t = false := by simp [checkB, hv]
    rw [hB]
    refine entry_imp (x := .tup3 (.val (.int .i64 0)) (.term zeroT) (.val (.bool false))) ?_ (tup3_imp (int_tok (show numInt t = 0 by simp [numInt, hB])) (term_tok' (show checkT (badInt t) sInteger t = zeroT by simp [checkT, hv])) idd)
    exact entry_facts (E := E) [] trivial (tbl_ok (T := [(23, [.tok 0], .val (.bool false))]) ⟨ent_rvalid hv, trivial⟩) [.tok 0] Try.func56 rfl (fun _ _ => by kernel_rfl) (by kernel_rfl) rfl rfl (by simp [Try.ntmps56])
  | true =>
    cases hk : (t.kind == 0) with
    | true =>
      have hB : checkB (badInt t) t = false := by simp [checkB, hv, hk]
      rw [hB]
      refine entry_imp (x := .tup3 (.val (.int .i64 0)) (.tok 3) (.val (.bool false))) ?_ (tup3_imp (int_tok (show numInt t = 0 by simp [numInt, hB])) (ide (tok_eq (show instT = checkT (badInt t) sInteger t by simp [checkT, hv, hk]))) idd)
      exact entry_facts (E := E) [.tm 0 0 1 0 0, .rel .eq (.tok 0) (.lit 0) true] ⟨⟨rfl, rfl, rfl, rfl⟩, hk, trivial⟩ (tbl_ok (T := [(23, [.tok 0], .val (.bool true)), (36, [], .tok 3)]) ⟨ent_rvalid hv, ein, trivial⟩) [.tok 0] Try.func56 rfl (fun _ _ => by kernel_rfl) (by kernel_rfl) rfl rfl (by simp [Try.ntmps56])
    | false =>
      cases hq : (t.kind == 1) with
      | true =>
        have hB : checkB (badInt t) t = true := by simp [checkB, badInt, hv, hk, hq]
        rw [hB]
        refine entry_imp (x := .tup3 (.vtok 1) (.term zeroT) (.val (.bool true))) ?_ (tup3_imp (vtok_eq (show t.num = numInt t by simp [numInt, hB])) (term_tok' (show checkT (badInt t) sInteger t = zeroT by simp [checkT, badInt, hv, hk, hq])) idd)
        exact entry_facts (E := E) [.tm 0 0 1 0 0, .rel .eq (.tok 0) (.lit 0) false, .rel .eq (.tok 0) (.lit 1) true] ⟨⟨rfl, rfl, rfl, rfl⟩, hk, hq, trivial⟩ (tbl_ok (T := [(23, [.tok 0], .val (.bool true))]) ⟨ent_rvalid hv, trivial⟩) [.tok 0] Try.func56 rfl (fun _ _ => by kernel_rfl) (by kernel_rfl) rfl rfl (by simp [Try.ntmps56])
      | false =>
        have hB : checkB (badInt t) t = false := by simp [checkB, badInt, hv, hk, hq]
        rw [hB]
        refine entry_imp (x := .tup3 (.val (.int .i64 0)) (.tok 4) (.val (.bool false))) ?_ (tup3_imp (int_tok (show numInt t = 0 by simp [numInt, hB])) (ide (tok_eq (show aboutT sType [sInteger] t = checkT (badInt t) sInteger t by simp [checkT, badInt, hv, hk, hq]))) idd)
        exact entry_facts (E := E) [.tm 0 0 1 0 0, .rel .eq (.tok 0) (.lit 0) false, .rel .eq (.tok 0) (.lit 1) false] ⟨⟨rfl, rfl, rfl, rfl⟩, hk, hq, trivial⟩ (tbl_ok (T := [(23, [.tok 0], .val (.bool true)), (38, [.val (.string sInteger), .tok 0], .tok 4)]) ⟨ent_rvalid hv, ety, trivial⟩) [.tok 0] Try.func56 rfl (fun _ _ => by kernel_rfl) (by kernel_rfl) rfl rfl (by simp [Try.ntmps56])

def badCallable (t : Tm) : Bool := (t.kind == 1)
abbrev EnvCallable (t : Tm) : Env :=
  { T := fun k => match k with | 0 => t | 2 => checkT (badCallable t) sCallable t | 3 => instT | _ => aboutT sType [sCallable] t
    I := fun k => match k with | 0 => t.kind | 1 => t.num | _ => (t.args.length : Int)
    S := fun _ => t.name
    R := fun _ => t.args }

theorem pCallable_entry (t : Tm) : @Entry (EnvCallable t) 57 [.tok 0] (.pair (.tok 2) (.val (.bool (checkB (badCallable t) t)))) := by
  letI E : Env := EnvCallable t
  have ety : @Entry E 25 [.val (.string sCallable), .tok 0] (.tok 4) := entry_move (pType_entry t sCallable (by decide)) ⟨str_tok rfl, idd, trivial⟩ (ide (tok_eq rfl))
  cases hv : validT t with
  | false =>
    have hB : checkB (badCallable t) t = false := by simp [checkB, hv]
    rw [hB]
    refine entry_imp (x := .pair (.term zeroT) (.val (.bool false))) ?_ (pair_imp (term_tok' (show checkT (badCallable t) sCallable t = zeroT by simp [checkT, hv])) idd)
    exact entry_facts (E := E) [] trivial (tbl_ok (T := [(67, [.tok 0], .pair (.term zeroT) (.val (.bool false)))]) ⟨entry_move (bound_entry t) ⟨idd, trivial⟩ (by rw [show boundB t = false by simp [boundB, hv]]; exact pair_imp (ide (term_tok (E := E) (show boundT t = zeroT by simp [boundT, hv])).symm) idd), trivial⟩) [.tok 0] Try.func57 rfl (fun _ _ => by kernel_rfl) (by kernel_rfl) rfl rfl (by simp [Try.ntmps57])
  | true =>
    cases hk : (t.kind == 0) with
    | true =>
      have hB : checkB (badCallable t) t = false := by simp [checkB, hv, hk]
      rw [hB]
      refine entry_imp (x := .pair (.tok 3) (.val (.bool false))) ?_ (pair_imp (ide (tok_eq (show instT = checkT (badCallable t) sCallable t by simp [checkT, hv, hk]))) idd)
      exact entry_facts (E := E) [] trivial (tbl_ok (T := [(67, [.tok 0], .pair (.tok 3) (.val (.bool false)))]) ⟨entry_move (bound_entry t) ⟨idd, trivial⟩ (by rw [show boundB t = false by simp [boundB, hv, hk]]; exact pair_imp (ide (tok_eq (show boundT t = instT by simp [boundT, hv, hk]))) idd), trivial⟩) [.tok 0] Try.func57 rfl (fun _ _ => by kernel_rfl) (by kernel_rfl) rfl rfl (by simp [Try.ntmps57])
    | false =>
      cases hq : (t.kind == 1) with
      | true =>
        have hB : checkB (badCallable t) t = false := by simp [checkB, badCallable, hv, hk, hq]
        rw [hB]
        refine entry_imp (x := .pair (.tok 4) (.val (.bool false))) ?_ (pair_imp (ide (tok_eq (show aboutT sType [sCallable] t = checkT (badCallable t) sCallable t by simp [checkT, badCallable, hv, hk, hq]))) idd)
        exact entry_facts (E := E) [.tm 0 0 1 0 0, .rel .eq (.tok 0) (.lit 0) false, .rel .eq (.tok 0) (.lit 1) true] ⟨⟨rfl, rfl, rfl, rfl⟩, hk, hq, trivial⟩ (tbl_ok (T := [(67, [.tok 0], .pair (.term zeroT) (.val (.bool true))), (25, [.val (.string sCallable), .tok 0], .tok 4)]) ⟨entry_move (bound_entry t) ⟨idd, trivial⟩ (by rw [show boundB t = true by simp [boundB, hv, hk]]; exact pair_imp (ide (term_tok (E := E) (show boundT t = zeroT by simp [boundT, hv, hk])).symm) idd), ety, trivial⟩) [.tok 0] Try.func57 rfl (fun _ _ => by kernel_rfl) (by kernel_rfl) rfl rfl (by simp [Try.ntmps57])
      | false =>
        have hB : checkB (badCallable t) t = true := by simp [checkB, badCallable, hv, hk, hq]
        rw [hB]
        refine entry_imp (x := .pair (.term zeroT) (.val (.bool true))) ?_ (pair_imp (term_tok' (show checkT (badCallable t) sCallable t = zeroT by simp [checkT, badCallable, hv, hk, hq])) idd)
        exact entry_facts (E := E) [.tm 0 0 1 0 0, .rel .eq (.tok 0) (.lit 0) false, .rel .eq (.tok 0) (.lit 1) false] ⟨⟨rfl, rfl, rfl, rfl⟩, hk, hq, trivial⟩ (tbl_ok (T := [(67, [.tok 0], .pair (.term zeroT) (.val (.bool true)))]) ⟨entry_move (bound_entry t) ⟨idd, trivial⟩ (by rw [show boundB t = true by simp [boundB, hv, hk]]; exact pair_imp (ide (term_tok (E := E) (show boundT t = zeroT by simp [boundT, hv, hk])).symm) idd), trivial⟩) [.tok 0] Try.func57 rfl (fun _ _ => by kernel_rfl) (by kernel_rfl) rfl rfl (by simp [Try.ntmps57])

theorem rCallable_entry (t : Tm) : @Entry (EnvCallable t) 58 [.tok 0] (.pair (.tok 2) (.val (.bool (checkB (badCallable t) t)))) := by
  letI E : Env := EnvCallable t
  have ety : @Entry E 38 [.val (.string sCallable), .tok 0] (.tok 4) := entry_move (rType_entry t sCallable (by decide)) ⟨str_tok rfl, idd, trivial⟩ (ide (tok_eq (type_eq sCallable t)))
  have ein : @Entry E 36 [] (.tok 3) := entry_move rinst_entry trivial (ide (tok_eq inst_eq.symm))
  cases hv : validT t with
  | false =>
    have hB : checkB (badCallable t) t = false := by simp [checkB, hv]
    rw [hB]
    refine entry_imp (x := .pair (.term zeroT) (.val (.bool false))) ?_ (pair_imp (term_tok' (show checkT (badCallable t) sCallable t = zeroT by simp [checkT, hv])) idd)
    exact entry_facts (E := E) [] trivial (tbl_ok (T := [(23, [.tok 0], .val (.bool false))]) ⟨ent_rvalid hv, trivial⟩) [.tok 0] Try.func58 rfl (fun _ _ => by kernel_rfl) (by kernel_rfl) rfl rfl (by simp [Try.ntmps58])
  | true =>
    cases hk : (t.kind == 0) with
    | true =>
      have hB : checkB (badCallable t) t = false := by simp [checkB, hv, hk]
      rw [hB]
      refine entry_imp (x := .pair (.tok 3) (.val (.bool false))) ?_ (pair_imp (ide (tok_eq (show instT = checkT (badCallable t) sCallable t by simp [checkT, hv, hk]))) idd)
      exact entry_facts (E := E) [.tm 0 0 1 0 0, .rel .eq (.tok 0) (.lit 0) true] ⟨⟨rfl, rfl, rfl, rfl⟩, hk, trivial⟩ (tbl_ok (T := [(23, [.tok 0], .val (.bool true)), (36, [], .tok 3)]) ⟨ent_rvalid hv, ein, trivial⟩) [.tok 0] Try.func58 rfl (fun _ _ => by kernel_rfl) (by kernel_rfl) rfl rfl (by simp [Try.ntmps58])
    | false =>
      cases hq : (t.kind == 1) with
      | true =>
        have hB : checkB (badCallable t) t = false := by simp [checkB, badCallable, hv, hk, hq]
        rw [hB]
        refine entry_imp (x := .pair (.tok 4) (.val (.bool false))) ?_ (pair_imp (ide (tok_eq (show aboutT sType [sCallable] t = checkT (badCallable t) sCallable t by simp [checkT, badCallable, hv, hk, hq]))) idd)
        exact entry_facts (E := E) [.tm 0 0 1 0 0, .rel .eq (.tok 0) (.lit 0) false, .rel .eq (.tok 0) (.lit 1) true] ⟨⟨rfl, rfl, rfl, rfl⟩, hk, hq, trivial⟩ (tbl_ok (T := [(23, [.tok 0], .val (.bool true)), (38, [.val (.string sCallable), .tok 0], .tok 4)]) ⟨ent_rvalid hv, ety, trivial⟩) [.tok 0] Try.func58 rfl (fun _ _ => by kernel_rfl) (by kernel_rfl) rfl rfl (by simp [Try.ntmps58])
      | false =>
        have hB : checkB (badCallable t) t = true := by simp [checkB, badCallable, hv, hk, hq]
        rw [hB]
        refine entry_imp (x := .pair (.term zeroT) (.val (.bool true))) ?_ (pair_imp (term_tok' (show checkT (badCallable t) sCallable t = zeroT by simp [checkT, badCallable, hv, hk, hq])) idd)
        exact entry_facts (E := E) [.tm 0 0 1 0 0, .rel .eq (.tok 0) (.lit 0) false, .rel .eq (.tok 0) (.lit 1) false] ⟨⟨rfl, rfl, rfl, rfl⟩, hk, hq, trivial⟩ (tbl_ok (T := [(23, [.tok 0], .val (.bool true))]) ⟨ent_rvalid hv, trivial⟩) [.tok 0] Try.func58 rfl (fun _ _ => by kernel_rfl) (by kernel_rfl) rfl rfl (by simp [Try.ntmps58])

def badAtomic (t : Tm) : Bool := (t.kind == 3)
abbrev EnvAtomic (t : Tm) : Env :=
  { T := fun k => match k with | 0 => t | 2 => checkT (badAtomic t) sAtomic t | 3 => instT | _ => aboutT sType [sAtomic] t
    I := fun k => match k with | 0 => t.kind | 1 => t.num | _ => (t.args.length : Int)
    S := fun _ => t.name
    R := fun _ => t.args }

theorem pAtomic_entry (t : Tm) : @Entry (EnvAtomic t) 59 [.tok 0] (.pair (.tok 2) (.val (.bool (checkB (badAtomic t) t)))) := by
  letI E : Env := EnvAtomic t
  have ety : @Entry E 25 [.val (.string sAtomic), .tok 0] (.tok 4) := entry_move (pType_entry t sAtomic (by decide)) ⟨str_tok rfl, idd, trivial⟩ (ide (tok_eq rfl))
  cases hv : validT t with
  | false =>
    have hB : checkB (badAtomic t) t = false := by simp [checkB, hv]
    rw [hB]
    refine entry_imp (x := .pair (.term zeroT) (.val (.bool false))) ?_ (pair_imp (term_tok' (show checkT (badAtomic t) sAtomic t = zeroT by simp [checkT, hv])) idd)
    exact entry_facts (E := E) [] trivial (tbl_ok (T := [(67, [.tok 0], .pair (.term zeroT) (.val (.bool false)))]) ⟨entry_move (bound_entry t) ⟨idd, trivial⟩ (by rw [show boundB t = false by simp [boundB, hv]]; exact pair_imp (ide (term_tok (E := E) (show boundT t = zeroT by simp [boundT, hv])).symm) idd), trivial⟩) [.tok 0] Try.func59 rfl (fun _ _ => by kernel_rfl) (by kernel_rfl) rfl rfl (by simp [Try.ntmps59])
  | true =>
    cases hk : (t.kind == 0) with
    | true =>
      have hB : checkB (badAtomic t) t = false := by simp [checkB, hv, hk]
      rw [hB]
      refine entry_imp (x := .pair (.tok 3) (.val (.bool false))) ?_ (pair_imp (ide (tok_eq (show instT = checkT (badAtomic t) sAtomic t by simp [checkT, hv, hk]))) idd)
      exact entry_facts (E := E) [] trivial (tbl_ok (T := [(67, [.tok 0], .pair (.tok 3) (.val (.bool false)))]) ⟨entry_move (bound_entry t) ⟨idd, trivial⟩ (by rw [show boundB t = false by simp [boundB, hv, hk]]; exact pair_imp (ide (tok_eq (show boundT t = instT by simp [boundT, hv, hk]))) idd), trivial⟩) [.tok 0] Try.func59 rfl (fun _ _ => by kernel_rfl) (by kernel_rfl) rfl rfl (by simp [Try.ntmps59])
    | false =>
      cases hq : (t.kind == 3) with
      | true =>
        have hB : checkB (badAtomic t) t = false := by simp [checkB, badAtomic, hv, hk, hq]
        rw [hB]
        refine entry_imp (x := .pair (.tok 4) (.val (.bool false))) ?_ (pair_imp (ide (tok_eq (show aboutT sType [sAtomic] t = checkT (badAtomic t) sAtomic t by simp [checkT, badAtomic, hv, hk, hq]))) idd)
        exact entry_facts (E := E) [.tm 0 0 1 0 0, .rel .eq (.tok 0) (.lit 0) false, .rel .eq (.tok 0) (.lit 3) true] ⟨⟨rfl, rfl, rfl, rfl⟩, hk, hq, trivial⟩ (tbl_ok (T := [(67, [.tok 0], .pair (.term zeroT) (.val (.bool true))), (25, [.val (.string sAtomic), .tok 0], .tok 4)]) ⟨entry_move (bound_entry t) ⟨idd, trivial⟩ (by rw [show boundB t = true by simp [boundB, hv, hk]]; exact pair_imp (ide (term_tok (E := E) (show boundT t = zeroT by simp [boundT, hv, hk])).symm) idd), ety, trivial⟩) [.tok 0] Try.func59 rfl (fun _ _ => by kernel_rfl) (by kernel_rfl) rfl rfl (by simp [Try.ntmps59])
      | false =>
        have hB : checkB (badAtomic t) t = true := by simp [checkB, badAtomic, hv, hk, hq]
        rw [hB]
        refine entry_imp (x := .pair (.term zeroT) (.val (.bool true))) ?_ (pair_imp (term_tok' (show checkT (badAtomic t) sAtomic t = zeroT by simp [checkT, badAtomic, hv, hk, hq])) idd)
        exact entry_facts (E := E) [.tm 0 0 1 0 0, .rel .eq (.tok 0) (.lit 0) false, .rel .eq (.tok 0) (.lit 3) false] ⟨⟨rfl, rfl, rfl, rfl⟩, hk, hq, trivial⟩ (tbl_ok (T := [(67, [.tok 0], .pair (.term zeroT) (.val (.bool true)))]) ⟨entry_move (bound_entry t) ⟨idd, trivial⟩ (by rw [show boundB t = true by simp [boundB, hv, hk]]; exact pair_imp (ide (term_tok (E := E) (show boundT t = zeroT by simp [boundT, hv, hk])).symm) idd), trivial⟩) [.tok 0] Try.func59 rfl (fun _ _ => by kernel_rfl) (by kernel_rfl) rfl rfl (by simp [Try.ntmps59])

theorem rAtomic_entry (t : Tm) : @Entry (EnvAtomic t) 60 [.tok 0] (.pair (.tok 2) (.val (.bool (checkB (badAtomic t) t)))) := by
  letI E : Env := EnvAtomic t
  have ety : @Entry E 38 [.val (.string sAtomic), .tok 0] (.tok 4) := entry_move (rType_entry t sAtomic (by decide)) ⟨str_tok rfl, idd, trivial⟩ (ide (tok_eq (type_eq sAtomic t)))
  have ein : @Entry E 36 [] (.tok 3) := entry_move rinst_entry trivial (ide (tok_eq inst_eq.symm))
  cases hv : validT t with
  | false =>
    have hB : checkB (badAtomic t) t = false := by simp [checkB, hv]
    rw [hB]
    refine entry_imp (x := .pair (.term zeroT) (.val (.bool false))) ?_ (pair_imp (term_tok' (show checkT (badAtomic t) sAtomic t = zeroT by simp [checkT, hv])) idd)
    exact entry_facts (E := E) [] trivial (tbl_ok (T := [(23, [.tok 0], .val (.bool false))]) ⟨ent_rvalid hv, trivial⟩) [.tok 0] Try.func60 rfl (fun _ _ => by kernel_rfl) (by kernel_rfl) rfl rfl (by simp [Try.ntmps60])
  | true =>
    cases hk : (t.kind == 0) with
    | true =>
      have hB : checkB (badAtomic t) t = false := by simp [checkB, hv, hk]
      rw [hB]
      refine entry_imp (x := .pair (.tok 3) (.val (.bool false))) ?_ (pair_imp (ide (tok_eq (show instT = checkT (badAtomic t) sAtomic t by simp [checkT, hv, hk]))) idd)
      exact entry_facts (E := E) [.tm 0 0 1 0 0, .rel .eq (.tok 0) (.lit 0) true] ⟨⟨rfl, rfl, rfl, rfl⟩, hk, trivial⟩ (tbl_ok (T := [(23, [.tok 0], .val (.bool true)), (36, [], .tok 3)]) ⟨ent_rvalid hv, ein, trivial⟩) [.tok 0] Try.func60 rfl (fun _ _ => by kernel_rfl) (by kernel_rfl) rfl rfl (by simp [Try.ntmps60])
    | false =>
      cases hq : (t.kind == 3) with
      | true =>
        have hB : checkB (badAtomic t) t = false := by simp [checkB, badAtomic, hv, hk, hq]
        rw [hB]
        refine entry_imp (x := .pair (.tok 4) (.val (.bool false))) ?_ (pair_imp (ide (tok_eq (show aboutT sType [sAtomic] t = checkT (badAtomic t) sAtomic t by simp [checkT, badAtomic, hv, hk, hq]))) idd)
        exact entry_facts (E := E) [.tm 0 0 1 0 0, .rel .eq (.tok 0) (.lit 0) false, .rel .eq (.tok 0) (.lit 3) true] ⟨⟨rfl, rfl, rfl, rfl⟩, hk, hq, trivial⟩ (tbl_ok (T := [(23, [.tok 0], .val (.bool true)), (38, [.val (.string sAtomic), .tok 0], .tok 4)]) ⟨ent_rvalid hv, ety, trivial⟩) [.tok 0] Try.func60 rfl (fun _ _ => by kernel_rfl) (by kernel_rfl) rfl rfl (by simp [Try.ntmps60])
      | false =>
        have hB : checkB (badAtomic t) t = true := by simp [checkB, badAtomic, hv, hk, hq]
        rw [hB]
        refine entry_imp (x := .pair (.term zeroT) (.val (.bool true))) ?_ (pair_imp (term_tok' (show checkT (badAtomic t) sAtomic t = zeroT by simp [checkT, badAtomic, hv, hk, hq])) idd)
        exact entry_facts (E := E) [.tm 0 0 1 0 0, .rel .eq (.tok 0) (.lit 0) false, .rel .eq (.tok 0) (.lit 3) false] ⟨⟨rfl, rfl, rfl, rfl⟩, hk, hq, trivial⟩ (tbl_ok (T := [(23, [.tok 0], .val (.bool true))]) ⟨ent_rvalid hv, trivial⟩) [.tok 0] Try.func60 rfl (fun _ _ => by kernel_rfl) (by kernel_rfl) rfl rfl (by simp [Try.ntmps60])

end Go.Proofs.Ytloekfnlidclcaa

namespace Go.Proofs.Ytloekfnlidclcaa
open Go.RowKit
set_option linter.unusedVariables false

open Classical in
noncomputable def pF (F : Nat → Prop) (w : World) : Nat → Option Nat := fun b => if F b ∨ w.heap.size ≤ b then none else some 0

theorem pF_none {F : Nat → Prop} {w : World} {b : Nat} : pF F w b = none ↔ (F b ∨ w.heap.size ≤ b) := by
  unfold pF
  split
  · rename_i h; simp [h]
  · rename_i h; simp [h]

section
variable {w : World} {F : Nat → Prop}

theorem argT {l : List Ar} {vs : List Value} {ds : List D} (h : ArgV w F (.val TT :: l) vs ds) : ∃ v r t ds', vs = v :: r ∧ ds = encT t :: ds' ∧ TmIn w (Fr (pF F w)) t v ∧ ArgV w F l r ds' := by
  obtain ⟨v, r, d, ds', e1, e2, ⟨cs, hp, hr⟩, h⟩ := h
  obtain ⟨t, e, ht⟩ := (tm_of d).1 cs hr
  subst e
  have hpv : v = .agg cs.toArray := hp
  subst hpv
  exact ⟨_, r, t, ds', e1, e2, TmIn.keeps (fun k o hk hd => ⟨hk, pF_none.2 (.inl hd)⟩) _ ht, h⟩
theorem argS {l : List Ar} {vs : List Value} {ds : List D} (h : ArgV w F (.val .str :: l) vs ds) : ∃ s r ds', vs = .string s :: r ∧ ds = .s s :: ds' ∧ s.size ≤ 140737488351232 ∧ ArgV w F l r ds' := by
  obtain ⟨v, r, d, ds', e1, e2, ⟨cs, hp, hr⟩, h⟩ := h
  obtain ⟨s, rfl, hs⟩ := Wf.str ⟨w, F, cs, hr⟩
  obtain ⟨-, rfl, -⟩ := hr
  have hpv : [Value.string s] = [v] := hp
  injection hpv with hpv
  subst hpv
  exact ⟨s, r, ds', e1, e2, hs, h⟩
theorem argI {l : List Ar} {vs : List Value} {ds : List D} (h : ArgV w F (.val (.int .i64) :: l) vs ds) : ∃ n r ds', vs = .int .i64 n :: r ∧ ds = .i n :: ds' ∧ wf64 n ∧ ArgV w F l r ds' := by
  obtain ⟨v, r, d, ds', e1, e2, ⟨cs, hp, hr⟩, h⟩ := h
  obtain ⟨n, rfl, hn⟩ := Wf.int ⟨w, F, cs, hr⟩
  obtain ⟨k, e, rfl, -⟩ := hr
  injection e with e
  subst e
  have hpv : [Value.int .i64 n] = [v] := hp
  injection hpv with hpv
  subst hpv
  exact ⟨n, r, ds', e1, e2, rng_i64.1 hn, h⟩
theorem argTs {l : List Ar} {vs : List Value} {ds : List D} (h : ArgV w F (.val TTs :: l) vs ds) : ∃ ts A cap r ds', vs = .slice A ts.length cap :: r ∧ ds = .r (encL ts) :: ds' ∧ ts.length ≤ cap ∧ ts.length ≤ 140737488351232 ∧ cap ≤ maxLen ∧ ArgsIn w (Fr (pF F w)) ts A 0 ∧ ArgV w F l r ds' := by
  obtain ⟨v, r, d, ds', e1, e2, ⟨cs, hp, hr⟩, h⟩ := h
  obtain ⟨ts, A, cap, rfl, rfl, h1, h2, h3, h4⟩ := (tm_of d).2 cs hr
  have hpv : [Value.slice A ts.length cap] = [v] := hp
  injection hpv with hpv
  subst hpv
  exact ⟨ts, A, cap, r, ds', e1, e2, h1, h2, h3, ArgsIn.keeps (fun k o hk hd => ⟨hk, pF_none.2 (.inl hd)⟩) h4, h⟩
theorem arg0 {vs : List Value} {ds : List D} (h : ArgV w F [] vs ds) : vs = [] ∧ ds = [] := h
end

/-- What the free blocks behind a call are. -/
def Kept' (F : Nat → Prop) (w : World) (p' : Nat → Option Nat) (w' : World) : Prop := ∀ b, p' b = none → F b ∨ w.heap.size ≤ b

section
variable {w w' : World} {F : Nat → Prop} {p' : Nat → Option Nat}

theorem resT {t : Tm} {v : Value} (hk : Kept' F w p' w') (h : TmIn w' (Fr p') t v) : ∃ cs, Pack TT cs v ∧ Rd w' (fun b => F b ∨ w.heap.size ≤ b) (encT t) TT cs :=
  pack_tm (TmIn.keeps (fun k o ho hd => ⟨ho, hk k hd⟩) _ h)
theorem resTs {ts : List Tm} {A : Option Addr} {cap : Nat} (hk : Kept' F w p' w') (h5 : ts.length ≤ cap) (h6 : ts.length ≤ 140737488351232) (h7 : cap ≤ maxLen) (h : ArgsIn w' (Fr p') ts A 0) : ∃ cs, Pack TTs cs (.slice A ts.length cap) ∧ Rd w' (fun b => F b ∨ w.heap.size ≤ b) (.r (encL ts)) TTs cs :=
  ⟨_, rfl, rds_of h5 h6 h7 (ArgsIn.keeps (fun k o ho hd => ⟨ho, hk k hd⟩) h)⟩
theorem resB (b : Bool) {G : Nat → Prop} : ∃ cs, Pack .bool cs (.bool b) ∧ Rd w' G (.b b) .bool cs := ⟨[.bool b], rfl, rfl, rfl⟩
theorem resI {n : Int} (hn : wf64 n) {G : Nat → Prop} : ∃ cs, Pack (.int .i64) cs (.int .i64 n) ∧ Rd w' G (.i n) (.int .i64) cs := ⟨[.int .i64 n], rfl, .i64, rfl, rfl, rng_i64.2 hn⟩
theorem resS {s : ByteArray} (hs : s.size ≤ 140737488351232) {G : Nat → Prop} : ∃ cs, Pack .str cs (.string s) ∧ Rd w' G (.s s) .str cs := ⟨[.string s], rfl, rfl, rfl, hs⟩
end

/-- A call of the abstract run. -/
theorem ent_calls {E : Env} {f : FuncId} {abs : List Ab} {x : Ab} (he : @Entry E f abs x) {w : World} {F : Nat → Prop} {vs : List Value} (ha : @Args E (pF F w) w abs vs) :
    Calls Try.prog f vs.toArray w fun e w' => ∃ v p', e = .returned v ∧ But Nil w w' ∧ Kept' F w p' w' ∧ @Ab.pd E x p' w' v :=
  (he.call (pF F w) w vs ha).mono fun e w' ⟨v, p', e1, hx, hv⟩ => ⟨v, p', e1, hx.but, fun b hb => by
    rcases Nat.lt_or_ge b w.heap.size with hl | hg
    · rw [hx.pin b hl] at hb
      exact pF_none.1 hb
    · exact .inr hg, hv⟩

/-- The old form of a contract. -/
theorem at_calls {f : FuncId} {w : World} {F : Nat → Prop} {vs : List Value} {R : Ending → World → Prop} (h : Calls Try.prog f vs.toArray w R) (hR : ∀ e w', R e w' → ∃ v p', e = .returned v ∧ But Nil w w' ∧ Kept' F w p' w' ∧ True) : Calls Try.prog f vs.toArray w R := h

theorem new_kept {w w' : World} {F : Nat → Prop} {t : Tm} {v : Value} (h : TmNew w' w.heap.size t v) : ∃ cs, Pack TT cs v ∧ Rd w' (fun b => F b ∨ w.heap.size ≤ b) (encT t) TT cs :=
  pack_tm (TmIn.keeps (fun k o ho hd => ⟨ho, .inr hd.1⟩) _ h)

theorem Fr.at_ {w : World} {t : Tm} {v : Value} {F : Nat → Prop} (h : TmIn w (Fr (pF F w)) t v) : TmAt w w.heap.size t v := TmIn.at_w h

/-! ### The forms of contracts -/
def gT0 (u : Tm) : List D → Option (List D)
  | [] => some [encT u]
  | _ => none
def gT1 (f : Tm → Tm) : List D → Option (List D)
  | [d] => some [encT (f (decT d))]
  | _ => none
def gS1 (f : ByteArray → Tm) : List D → Option (List D)
  | [.s s] => some [encT (f s)]
  | _ => none
def gI1 (f : Int → Tm) : List D → Option (List D)
  | [.i n] => some [encT (f n)]
  | _ => none
def gST (f : ByteArray → Tm → Tm) : List D → Option (List D)
  | [.s s, d] => some [encT (f s (decT d))]
  | _ => none
def gSST (f : ByteArray → ByteArray → Tm → Tm) : List D → Option (List D)
  | [.s s, .s r, d] => some [encT (f s r (decT d))]
  | _ => none
def gB1 (f : Tm → Bool) : List D → Option (List D)
  | [d] => some [.b (f (decT d))]
  | _ => none
def gB2 (f : Tm → Tm → Bool) : List D → Option (List D)
  | [d, e] => some [.b (f (decT d) (decT e))]
  | _ => none
def gN1 (f : Tm → Int) : List D → Option (List D)
  | [d] => some [.i (f (decT d))]
  | _ => none
def gTB (f : Tm → Tm) (b : Tm → Bool) : List D → Option (List D)
  | [d] => some [encT (f (decT d)), .b (b (decT d))]
  | _ => none
def gSTB (s : Tm → ByteArray) (f : Tm → Tm) (b : Tm → Bool) : List D → Option (List D)
  | [d] => some [.s (s (decT d)), encT (f (decT d)), .b (b (decT d))]
  | _ => none
def gNTB (n : Tm → Int) (f : Tm → Tm) (b : Tm → Bool) : List D → Option (List D)
  | [d] => some [.i (n (decT d)), encT (f (decT d)), .b (b (decT d))]
  | _ => none
def gLT (f : List Tm → Tm → Tm) : List D → Option (List D)
  | [.r l, d] => some [encT (f (decL l) (decT d))]
  | _ => none
def gLL (f : List Tm → List Tm → Bool) : List D → Option (List D)
  | [.r l, .r m] => some [.b (f (decL l) (decL m))]
  | _ => none
def gTL (f : Tm → List Tm × Tm) : List D → Option (List D)
  | [d] => some [.r (encL (f (decT d)).1), encT (f (decT d)).2]
  | _ => none

section
variable {f : FuncId} (hen : ∀ args w, (callFunc f args).run Try.prog w = .ok (.enter f args) w)
include hen

theorem fok_T0 {u : Tm} (h : ∃ E : Env, ∃ k, @Entry E f [] (.tok k) ∧ E.T k = u) : FOk ⟨f, [], [(TT, false)]⟩ (gT0 u) :=
  fok_still hen (by simp) fun F w vs ds outs hg ha => by
    obtain ⟨rfl, rfl⟩ := arg0 ha
    simp only [gT0, Option.some.injEq] at hg
    subst hg
    obtain ⟨E, k, he, rfl⟩ := h
    refine (ent_calls he (F := F) (vs := []) trivial).mono ?_
    rintro e w' ⟨v, p', rfl, hb, hk, hv⟩
    exact ⟨[v], rfl, hb, ⟨rfl, v, [], _, [], rfl, rfl, resT hk hv, rfl⟩, rfl⟩

theorem fok_T1 {g : Tm → Tm} (h : ∀ t, ∃ E : Env, ∃ j k, @Entry E f [.tok j] (.tok k) ∧ E.T j = t ∧ E.T k = g t) : FOk ⟨f, [.val TT], [(TT, false)]⟩ (gT1 g) :=
  fok_still hen (by simp) fun F w vs ds outs hg ha => by
    obtain ⟨v0, r, t, ds', rfl, rfl, ht, ha⟩ := argT ha
    obtain ⟨rfl, rfl⟩ := arg0 ha
    simp only [gT1, dec_enc, Option.some.injEq] at hg
    subst hg
    obtain ⟨E, j, k, he, e1, e2⟩ := h t
    rw [← e2]
    refine (ent_calls he (F := F) (vs := [v0]) ⟨by subst e1; exact ht, trivial⟩).mono ?_
    rintro e w' ⟨v, p', rfl, hb, hk, hv⟩
    exact ⟨[v], rfl, hb, ⟨rfl, v, [], _, [], rfl, rfl, resT hk hv, rfl⟩, rfl⟩

theorem fok_S1 {g : ByteArray → Tm} (h : ∀ s, s.size ≤ 140737488351232 → ∃ E : Env, ∃ j k, @Entry E f [.stok j] (.tok k) ∧ E.S j = s ∧ E.T k = g s) : FOk ⟨f, [.val .str], [(TT, false)]⟩ (gS1 g) :=
  fok_still hen (by simp) fun F w vs ds outs hg ha => by
    obtain ⟨s, r, ds', rfl, rfl, hs, ha⟩ := argS ha
    obtain ⟨rfl, rfl⟩ := arg0 ha
    simp only [gS1, Option.some.injEq] at hg
    subst hg
    obtain ⟨E, j, k, he, e1, e2⟩ := h s hs
    rw [← e2]
    refine (ent_calls he (F := F) (vs := [.string s]) ⟨by show Value.string s = .string (E.S j); rw [e1], trivial⟩).mono ?_
    rintro e w' ⟨v, p', rfl, hb, hk, hv⟩
    exact ⟨[v], rfl, hb, ⟨rfl, v, [], _, [], rfl, rfl, resT hk hv, rfl⟩, rfl⟩

theorem fok_I1 {g : Int → Tm} (h : ∀ n, wf64 n → ∃ E : Env, ∃ j k, @Entry E f [.vtok j] (.tok k) ∧ E.I j = n ∧ E.T k = g n) : FOk ⟨f, [.val (.int .i64)], [(TT, false)]⟩ (gI1 g) :=
  fok_still hen (by simp) fun F w vs ds outs hg ha => by
    obtain ⟨n, r, ds', rfl, rfl, hs, ha⟩ := argI ha
    obtain ⟨rfl, rfl⟩ := arg0 ha
    simp only [gI1, Option.some.injEq] at hg
    subst hg
    obtain ⟨E, j, k, he, e1, e2⟩ := h n hs
    rw [← e2]
    refine (ent_calls he (F := F) (vs := [.int .i64 n]) ⟨by show Value.int .i64 n = .int .i64 (E.I j); rw [e1], trivial⟩).mono ?_
    rintro e w' ⟨v, p', rfl, hb, hk, hv⟩
    exact ⟨[v], rfl, hb, ⟨rfl, v, [], _, [], rfl, rfl, resT hk hv, rfl⟩, rfl⟩

theorem fok_ST {g : ByteArray → Tm → Tm} (h : ∀ s t, s.size ≤ 140737488351232 → ∃ E : Env, ∃ i j k, @Entry E f [.stok i, .tok j] (.tok k) ∧ E.S i = s ∧ E.T j = t ∧ E.T k = g s t) : FOk ⟨f, [.val .str, .val TT], [(TT, false)]⟩ (gST g) :=
  fok_still hen (by simp) fun F w vs ds outs hg ha => by
    obtain ⟨s, r, ds', rfl, rfl, hs, ha⟩ := argS ha
    obtain ⟨v0, r, t, ds', rfl, rfl, ht, ha⟩ := argT ha
    obtain ⟨rfl, rfl⟩ := arg0 ha
    simp only [gST, dec_enc, Option.some.injEq] at hg
    subst hg
    obtain ⟨E, i, j, k, he, e1, e2, e3⟩ := h s t hs
    rw [← e3]
    refine (ent_calls he (F := F) (vs := [.string s, v0]) ⟨by show Value.string s = .string (E.S i); rw [e1], by subst e2; exact ht, trivial⟩).mono ?_
    rintro e w' ⟨v, p', rfl, hb, hk, hv⟩
    exact ⟨[v], rfl, hb, ⟨rfl, v, [], _, [], rfl, rfl, resT hk hv, rfl⟩, rfl⟩

theorem fok_SST {g : ByteArray → ByteArray → Tm → Tm} (h : ∀ s r t, s.size ≤ 140737488351232 → r.size ≤ 140737488351232 → ∃ E : Env, ∃ i i' j k, @Entry E f [.stok i, .stok i', .tok j] (.tok k) ∧ E.S i = s ∧ E.S i' = r ∧ E.T j = t ∧ E.T k = g s r t) : FOk ⟨f, [.val .str, .val .str, .val TT], [(TT, false)]⟩ (gSST g) :=
  fok_still hen (by simp) fun F w vs ds outs hg ha => by
    obtain ⟨s, r, ds', rfl, rfl, hs, ha⟩ := argS ha
    obtain ⟨s', r, ds', rfl, rfl, hs', ha⟩ := argS ha
    obtain ⟨v0, r, t, ds', rfl, rfl, ht, ha⟩ := argT ha
    obtain ⟨rfl, rfl⟩ := arg0 ha
    simp only [gSST, dec_enc, Option.some.injEq] at hg
    subst hg
    obtain ⟨E, i, i', j, k, he, e1, e1', e2, e3⟩ := h s s' t hs hs'
    rw [← e3]
    refine (ent_calls he (F := F) (vs := [.string s, .string s', v0]) ⟨by show Value.string s = .string (E.S i); rw [e1], by show Value.string s' = .string (E.S i'); rw [e1'], by subst e2; exact ht, trivial⟩).mono ?_
    rintro e w' ⟨v, p', rfl, hb, hk, hv⟩
    exact ⟨[v], rfl, hb, ⟨rfl, v, [], _, [], rfl, rfl, resT hk hv, rfl⟩, rfl⟩

theorem fok_B1 {g : Tm → Bool} (h : ∀ t w v, TmAt w w.heap.size t v → Calls Try.prog f #[v] w fun e w' => e = .returned (.bool (g t)) ∧ But Nil w w') : FOk ⟨f, [.val TT], [(.bool, false)]⟩ (gB1 g) :=
  fok_still hen (by simp) fun F w vs ds outs hg ha => by
    obtain ⟨v0, r, t, ds', rfl, rfl, ht, ha⟩ := argT ha
    obtain ⟨rfl, rfl⟩ := arg0 ha
    simp only [gB1, dec_enc, Option.some.injEq] at hg
    subst hg
    refine (h t w v0 (Fr.at_ ht)).mono ?_
    rintro e w' ⟨rfl, hb⟩
    exact ⟨[.bool (g t)], rfl, hb, ⟨rfl, _, [], _, [], rfl, rfl, resB _, rfl⟩, rfl⟩

theorem fok_B2 {g : Tm → Tm → Bool} (h : ∀ t u w v v', TmAt w w.heap.size t v → TmAt w w.heap.size u v' → Calls Try.prog f #[v, v'] w fun e w' => e = .returned (.bool (g t u)) ∧ But Nil w w') : FOk ⟨f, [.val TT, .val TT], [(.bool, false)]⟩ (gB2 g) :=
  fok_still hen (by simp) fun F w vs ds outs hg ha => by
    obtain ⟨v0, r, t, ds', rfl, rfl, ht, ha⟩ := argT ha
    obtain ⟨v1, r, u, ds', rfl, rfl, hu, ha⟩ := argT ha
    obtain ⟨rfl, rfl⟩ := arg0 ha
    simp only [gB2, dec_enc, Option.some.injEq] at hg
    subst hg
    refine (h t u w v0 v1 (Fr.at_ ht) (Fr.at_ hu)).mono ?_
    rintro e w' ⟨rfl, hb⟩
    exact ⟨[.bool (g t u)], rfl, hb, ⟨rfl, _, [], _, [], rfl, rfl, resB _, rfl⟩, rfl⟩

theorem fok_N1 {g : Tm → Int} (hw : ∀ t, wf64 (g t)) (h : ∀ t w v, TmAt w w.heap.size t v → Calls Try.prog f #[v] w fun e w' => e = .returned (.int .i64 (g t)) ∧ But Nil w w') : FOk ⟨f, [.val TT], [(.int .i64, false)]⟩ (gN1 g) :=
  fok_still hen (by simp) fun F w vs ds outs hg ha => by
    obtain ⟨v0, r, t, ds', rfl, rfl, ht, ha⟩ := argT ha
    obtain ⟨rfl, rfl⟩ := arg0 ha
    simp only [gN1, dec_enc, Option.some.injEq] at hg
    subst hg
    refine (h t w v0 (Fr.at_ ht)).mono ?_
    rintro e w' ⟨rfl, hb⟩
    exact ⟨[.int .i64 (g t)], rfl, hb, ⟨rfl, _, [], _, [], rfl, rfl, resI (hw t), rfl⟩, rfl⟩

theorem fok_new {g : Tm → Tm} (h : ∀ t w v, TmAt w w.heap.size t v → Calls Try.prog f #[v] w fun e w' => ∃ u, e = .returned u ∧ TmNew w' w.heap.size (g t) u ∧ But Nil w w') : FOk ⟨f, [.val TT], [(TT, false)]⟩ (gT1 g) :=
  fok_still hen (by simp) fun F w vs ds outs hg ha => by
    obtain ⟨v0, r, t, ds', rfl, rfl, ht, ha⟩ := argT ha
    obtain ⟨rfl, rfl⟩ := arg0 ha
    simp only [gT1, dec_enc, Option.some.injEq] at hg
    subst hg
    refine (h t w v0 (Fr.at_ ht)).mono ?_
    rintro e w' ⟨u, rfl, hn, hb⟩
    exact ⟨[u], rfl, hb, ⟨rfl, _, [], _, [], rfl, rfl, new_kept hn, rfl⟩, rfl⟩

theorem fok_TB {g : Tm → Tm} {b : Tm → Bool} (h : ∀ t, ∃ E : Env, ∃ j k, @Entry E f [.tok j] (.pair (.tok k) (.val (.bool (b t)))) ∧ E.T j = t ∧ E.T k = g t) : FOk ⟨f, [.val TT], [(TT, false), (.bool, false)]⟩ (gTB g b) :=
  fok_still hen (by simp) fun F w vs ds outs hg ha => by
    obtain ⟨v0, r, t, ds', rfl, rfl, ht, ha⟩ := argT ha
    obtain ⟨rfl, rfl⟩ := arg0 ha
    simp only [gTB, dec_enc, Option.some.injEq] at hg
    subst hg
    obtain ⟨E, j, k, he, e1, e2⟩ := h t
    rw [← e2]
    refine (ent_calls he (F := F) (vs := [v0]) ⟨by subst e1; exact ht, trivial⟩).mono ?_
    rintro e w' ⟨v, p', rfl, hb, hk, a1, a2, rfl, hv, rfl⟩
    exact ⟨[a1, .bool (b t)], rfl, hb, ⟨rfl, _, _, _, _, rfl, rfl, resT hk hv, rfl, _, [], _, [], rfl, rfl, resB _, rfl⟩, rfl⟩

theorem fok_STB {s : Tm → ByteArray} {g : Tm → Tm} {b : Tm → Bool} (hs : ∀ t w (G : Nat → Prop) v, TmIn w G t v → (s t).size ≤ 140737488351232) (h : ∀ t, ∃ E : Env, ∃ i j k, @Entry E f [.tok j] (.tup3 (.stok i) (.tok k) (.val (.bool (b t)))) ∧ E.T j = t ∧ E.T k = g t ∧ E.S i = s t) : FOk ⟨f, [.val TT], [(.str, false), (TT, false), (.bool, false)]⟩ (gSTB s g b) :=
  fok_still hen (by simp) fun F w vs ds outs hg ha => by
    obtain ⟨v0, r, t, ds', rfl, rfl, ht, ha⟩ := argT ha
    obtain ⟨rfl, rfl⟩ := arg0 ha
    simp only [gSTB, dec_enc, Option.some.injEq] at hg
    subst hg
    obtain ⟨E, i, j, k, he, e1, e2, e3⟩ := h t
    have hst := hs t w _ v0 ht
    refine (ent_calls he (F := F) (vs := [v0]) ⟨by rw [show (Ab.tok j).pd (pF F w) w v0 = TmIn w (Fr (pF F w)) (E.T j) v0 from rfl, e1]; exact ht, trivial⟩).mono ?_
    rintro e w' ⟨v, p', rfl, hb, hk, a1, a2, a3, rfl, h1, hv, rfl⟩
    have h1' : a1 = .string (E.S i) := h1
    subst h1'
    rw [e3]
    refine ⟨[_, a2, .bool (b t)], rfl, hb, ⟨rfl, _, _, _, _, rfl, rfl, resS hst, rfl, _, _, _, _, rfl, rfl, ?_, rfl, _, [], _, [], rfl, rfl, resB _, rfl⟩, rfl⟩
    rw [← e2]
    exact resT hk hv

theorem fok_NTB {n : Tm → Int} {g : Tm → Tm} {b : Tm → Bool} (hs : ∀ t w (G : Nat → Prop) v, TmIn w G t v → wf64 (n t)) (h : ∀ t, ∃ E : Env, ∃ i j k, @Entry E f [.tok j] (.tup3 (.vtok i) (.tok k) (.val (.bool (b t)))) ∧ E.T j = t ∧ E.T k = g t ∧ E.I i = n t) : FOk ⟨f, [.val TT], [(.int .i64, false), (TT, false), (.bool, false)]⟩ (gNTB n g b) :=
  fok_still hen (by simp) fun F w vs ds outs hg ha => by
    obtain ⟨v0, r, t, ds', rfl, rfl, ht, ha⟩ := argT ha
    obtain ⟨rfl, rfl⟩ := arg0 ha
    simp only [gNTB, dec_enc, Option.some.injEq] at hg
    subst hg
    obtain ⟨E, i, j, k, he, e1, e2, e3⟩ := h t
    have hst := hs t w _ v0 ht
    refine (ent_calls he (F := F) (vs := [v0]) ⟨by rw [show (Ab.tok j).pd (pF F w) w v0 = TmIn w (Fr (pF F w)) (E.T j) v0 from rfl, e1]; exact ht, trivial⟩).mono ?_
    rintro e w' ⟨v, p', rfl, hb, hk, a1, a2, a3, rfl, h1, hv, rfl⟩
    have h1' : a1 = .int .i64 (E.I i) := h1
    subst h1'
    rw [e3]
    refine ⟨[_, a2, .bool (b t)], rfl, hb, ⟨rfl, _, _, _, _, rfl, rfl, resI hst, rfl, _, _, _, _, rfl, rfl, ?_, rfl, _, [], _, [], rfl, rfl, resB _, rfl⟩, rfl⟩
    rw [← e2]
    exact resT hk hv
end
end Go.Proofs.Ytloekfnlidclcaa

namespace Go.Proofs.Ytloekfnlidclcaa
open Go.ChangeShapes Go.WideShapes Go.ChangeAt Go.RowKit
set_option linter.unusedVariables false

theorem own_knobD : ownKnob Try.prog.godebug = none := by kernel_rfl
theorem laid_outD : laidOutB Try.prog = true := by kernel_rfl

def posB (P : Program) : Bool := tyTab.all fun e => Nat.blt 0 (P.bytesOf e.1)
set_option maxRecDepth 100000 in
theorem pos_ok : posB Try.prog = true := by kernel_rfl
theorem bytes_pos {T : TypeId} {t : Ty} (h : tyOf T = some t) : 0 < Try.prog.bytesOf T := by
  have := List.all_eq_true.1 pos_ok _ (lkA_mem h)
  simpa [Nat.blt_eq] using this

section
variable {H : Type} {enc : TypeId × Value → H} {W : World} {base : Nat} {spare : Nat → Bool} {held : Bool}

def LightD (t : TypeId) (d : DataW H) : Prop := ∀ n ∈ d.weights Try.prog t, n ≤ reachBytes

theorem weightsAll_memD {e : TypeId} : ∀ {l : List (DataW H)} {d : DataW H}, d ∈ l → ∀ n ∈ d.weights Try.prog e, n ∈ DataW.weightsAll Try.prog e l
  | [], _, h, _, _ => by cases h
  | x :: l, d, h, n, hn => by
    simp only [DataW.weightsAll, List.mem_append]
    rcases List.mem_cons.1 h with rfl | h
    · exact .inl hn
    · exact .inr (weightsAll_memD h n hn)

theorem LightD.each {ts : List TypeId} {l : List (DataW H)} {k : Nat} {t : TypeId} {d : DataW H} (h : ∀ n ∈ DataW.weightsEach Try.prog ts l, n ≤ reachBytes) (ht : ts[k]? = some t) (hd : l[k]? = some d) : LightD t d := fun n hn =>
  h n (DataW.weights_mem_each ht hd n hn)

theorem reach_eqD : reachBytes = LIM := rfl

theorem cells_w {T : TypeId} {t : Ty} (h : tyOf T = some t) : Try.prog.cellsOf T = t.w := by
  obtain ⟨i, hi, h1, -⟩ := row_info h
  simp [Program.cellsOf, hi, h1]

theorem rng_wf {k : IntKind} {t : TypeId} (ht : tyOf t = some (.int k)) {n : Int} (h : (Lit.int k n).wf = true) : rngB k n = true := by
  have h0 := (row_int ht).2.1
  cases k <;> first | (simp [rngB] at h0; done) | (simp [Lit.wf, IntKind.min, IntKind.max, IntKind.signed, IntKind.bits] at h; simp [rngB]; omega)

theorem spot_noneD {a : Addr} {v : Value} (h : W.cell? a = some v) : a.spot = none := by
  unfold World.cell? at h
  split at h
  · split at h
    · cases h
    · rename_i hs; simpa using hs
  · cases h

theorem rdF_of {F : Nat → Prop} {cs : List Value} : ∀ {fl : List Field} {fs : List Ty} {o : Nat}, fieldsB fl fs o = true → (∀ (j : Nat) (f : Field) (t : Ty), fl[j]? = some f → fs[j]? = some t → ∃ y, Rd W F y t ((cs.drop f.offset).take t.w)) → cs.length = o + widths fs → ∃ ds, RdF W F ds fs (cs.drop o)
  | [], [], o, _, _, hl => by
    simp [widths] at hl
    exact ⟨[], rfl, by rw [List.drop_eq_nil_iff]; omega⟩
  | f :: l, t :: ts, o, hb, hf, hl => by
    simp only [fieldsB, Bool.and_eq_true] at hb
    obtain ⟨⟨⟨h1, -⟩, -⟩, h3⟩ := hb
    have ho := Nat.eq_of_beq_eq_true h1
    rw [widths_cons] at hl
    obtain ⟨ds, hds⟩ := rdF_of h3 (fun j f' t' hj ht => hf (j + 1) f' t' (by simpa using hj) (by simpa using ht)) (by omega)
    obtain ⟨y, hy⟩ := hf 0 f t rfl rfl
    refine ⟨y :: ds, t, ts, (cs.drop o).take t.w, cs.drop (o + t.w), rfl, ?_, by rw [← ho]; exact hy, hds⟩
    rw [← List.drop_drop, List.take_append_drop]
  | [], _ :: _, o, hb, _, _ => by cases hb
  | _ :: _, [], o, hb, _, _ => by cases hb

theorem open_recD : ∀ (fuel : Nat) {T : TypeId} {t : Ty} (cs : List Value) (x : DataW H × List MemPlace), tyOf T = some t → DataW.trod enc Try.prog W base spare held fuel T cs = some x → LightD T x.1 → ∃ y, Rd W (fun _ => True) y t cs := by
  intro fuel
  induction fuel with
  | zero => intro T t cs x _ h; simp [DataW.trod] at h
  | succ fuel ih =>
    intro T t cs x hT h hL
    cases t with
    | int k =>
      obtain ⟨n, rfl, -, hw⟩ := DataW.trod_int (row_int hT).1 h
      exact ⟨.i n, k, rfl, rfl, rng_wf hT hw⟩
    | bool =>
      obtain ⟨b, rfl, -⟩ := DataW.trod_bool (row_bool hT).1 h
      exact ⟨.b b, rfl, rfl⟩
    | str =>
      obtain ⟨s, rfl, rfl, -⟩ := DataW.trod_string (row_str hT).1 h
      have := hL s.data.toList.length (by simp [DataW.weights])
      exact ⟨.s s, rfl, rfl, by rw [reach_eqD] at this; simpa using this⟩
    | st S =>
      obtain ⟨fields, fs, zc, i, hu, hfs, hfb, hi, hsz, -, -, -, -⟩ := row_st hT
      obtain ⟨xs, n, hn, hx, hlen, hxl, hf⟩ := DataW.trod_struct hu h
      obtain rfl : fuel = n := by omega
      have hw : ∀ n ∈ DataW.weightsEach Try.prog (fields.toList.map (·.type)) (xs.map (·.1)), n ≤ reachBytes := fun n hn => hL n (by rw [hx]; simp only [DataW.weights, hu]; exact hn)
      have hcl : cs.length = 0 + widths fs := by rw [hlen, cells_w hT, (fld_okD hfs).1]; omega
      obtain ⟨ds, hds⟩ := rdF_of (W := W) (F := fun _ => True) hfb (fun j f t hj ht => by
        obtain ⟨f', hf', ho, hty, -⟩ := fieldsB_get hfb ht
        obtain rfl := Option.some.inj (hj.symm.trans hf')
        have h5 := hf j f (by rw [← Array.getElem?_toList]; exact hj)
        have hjl : j < fields.toList.length := (List.getElem?_eq_some_iff.1 hj).1
        have hjx : j < xs.length := by rw [hxl]; simpa using hjl
        rw [cells_w hty, List.getElem?_eq_getElem hjx] at h5
        refine ih _ _ hty h5 (LightD.each (k := j) hw ?_ ?_)
        · rw [List.getElem?_map, hj]; rfl
        · rw [List.getElem?_map, List.getElem?_eq_getElem hjx]; rfl) hcl
      exact ⟨.a ds, S, fs, rfl, hfs, by simpa using hds⟩
    | row E =>
      obtain ⟨hu, ⟨te, hte⟩, -⟩ := row_row hT
      rcases DataW.trod_slice hu h with ⟨rfl, hx⟩ | ⟨a, len, cap, elems, rest, n, hn, rfl, hx, hb, hl, hm, hlen, hel, -⟩
      · exact ⟨.r [], E, te, none, 0, rfl, hte, rfl, by simp, by simp, by simp [maxLen], by simp [RdE]⟩
      · obtain rfl : fuel = n := by omega
        have hwd := tyOf_pos hte
        rw [cells_w hte] at hel
        have hw := hL
        rw [hx] at hw
        simp only [LightD, DataW.weights, hu, List.mem_cons, List.mem_append] at hw
        have hlen2 : len ≤ LIM := by
          have := hw _ (.inl rfl)
          rw [reach_eqD] at this
          have hbp := bytes_pos hte
          simp at this
          have h2 : elems.length * 1 ≤ elems.length * Try.prog.bytesOf E := Nat.mul_le_mul_left _ hbp
          have h3 : (elems.length + rest.length) * 1 ≤ (elems.length + rest.length) * Try.prog.bytesOf E := Nat.mul_le_mul_left _ hbp
          omega
        have spot : 0 < len → a.spot = none := fun h0 => by
          have h2 := hel 0 h0
          rw [List.getElem?_eq_getElem (by omega)] at h2
          cases hc0 : W.cells? base (a.add (0 * te.w)) te.w with
          | none => rw [hc0] at h2; cases h2
          | some cs0 =>
            obtain ⟨_, hcl0, hat0⟩ := World.cells?_some hc0
            have hp : 0 < cs0.length := by omega
            have := hat0 0 (by omega)
            rw [List.getElem?_eq_getElem hp] at this
            exact spot_noneD (a := a) (v := cs0[0]) (by simpa [Addr.add] using this)
        have each : ∀ i, i < len → ∃ y, RdEl W (fun _ => True) y te (some a) i := fun i hi => by
          have h1 := hel i hi
          rw [List.getElem?_eq_getElem (by omega)] at h1
          cases hc : W.cells? base (a.add (i * te.w)) te.w with
          | none => rw [hc] at h1; cases h1
          | some cs' =>
            rw [hc] at h1
            obtain ⟨_, hcl, hat⟩ := World.cells?_some hc
            obtain ⟨y, hy⟩ := ih cs' _ hte h1 (fun n hn => hw n (.inr (.inl (weightsAll_memD (List.mem_map.2 ⟨_, List.getElem_mem (by omega), rfl⟩) n hn))))
            have hsp := spot (by omega)
            obtain ⟨b, o, sp⟩ := a
            obtain rfl : sp = none := hsp
            have add : ∀ k, (Addr.add ⟨b, o, none⟩ (i * te.w)).add k = ⟨b, o + i * te.w + k, none⟩ := fun k => by
              unfold Addr.add
              split <;> split <;> simp <;> omega
            refine ⟨y, b, o, cs', rfl, trivial, fun j v hj => ?_, hy⟩
            have hj' := (List.getElem?_eq_some_iff.1 hj).1
            have := hat j (by omega)
            rw [add, hj] at this
            exact this
        have pick : ∀ n, n ≤ len → ∃ l : List D, l.length = n ∧ ∀ i (h : i < l.length), RdEl W (fun _ => True) l[i] te (some a) i := by
          intro n
          induction n with
          | zero => exact fun _ => ⟨[], rfl, fun i hi => by simp at hi⟩
          | succ n ihn =>
            intro hn
            obtain ⟨l, hl1, hl2⟩ := ihn (by omega)
            obtain ⟨t, ht⟩ := each n (by omega)
            refine ⟨l ++ [t], by simp [hl1], fun i hi => ?_⟩
            by_cases hin : i < l.length
            · rw [List.getElem_append_left hin]; exact hl2 i hin
            · obtain rfl : i = l.length := by simp at hi; omega
              rw [List.getElem_append_right (by omega)]
              simp [hl1]
              exact ht
        obtain ⟨l, hl1, hl2⟩ := pick len (Nat.le_refl _)
        exact ⟨.r l, E, te, some a, cap, rfl, hte, by rw [hl1], by omega, by omega, hm, rdE_iff.2 fun j hj => by rw [Nat.zero_add]; exact hl2 j hj⟩

/-- The value of the type, and its cells. -/
theorem open_D {T : TypeId} {t : Ty} (hT : tyOf T = some t) {v : Value} {d : DataW H} {p : List MemPlace} {b0 : Nat} {r : Reach} (hv : Value.okWide Try.prog W r b0 T v) (h : DataW.Trod enc Try.prog W base spare held T v d p) (hL : LightD T d) :
    ∃ x cs, Pack t cs v ∧ Rd W (fun b => b < W.heap.size) x t cs := by
  obtain ⟨fuel, hf⟩ := h
  obtain ⟨y, hy⟩ := open_recD fuel _ _ hT hf hL
  refine ⟨y, v.cells.toList, ?_, Rd.keeps (fun b o _ ho => ⟨ho, lt_of_heap ho⟩) _ hy⟩
  cases t with
  | int k => obtain ⟨n, rfl⟩ := okWide_int (row_int hT).1 hv; rfl
  | bool => obtain ⟨n, rfl⟩ := okWide_bool (row_bool hT).1 hv; rfl
  | str => obtain ⟨n, rfl⟩ := okWide_string (row_str hT).1 hv; rfl
  | row E => obtain ⟨A, l, c, rfl⟩ := okWide_slice (row_row hT).1 hv; rfl
  | st S =>
    obtain ⟨fields, fs, zc, i, hu, -⟩ := row_st hT
    obtain ⟨cs, rfl, -⟩ := okWide_struct hu hv
    simp [Pack, Value.cells]
end

/-- A law that is true on all data: what its call does. -/
theorem law_calls {ct : Ct} {g : List D → Option (List D)} (h : FOk ct g) (hrs : ct.rs = [(.bool, false)]) (hnr : ∀ x ∈ ct.ar, ∃ t, x = .val t) {W : World} {vs : List Value} {ds : List D} (ha : ArgsOk (fun _ => True) (fun _ => none) W ct.ar 0 vs ds) (hg : g ds = some [.b true]) :
    Calls Try.prog ct.f vs.toArray W fun e W' => e = .returned (.bool true) ∧ But Nil W W' := by
  refine (h.call (fun _ => True) (fun _ => none) W vs ds _ hg (by constructor <;> simp) ha).mono ?_
  rintro e W' ⟨rs, p', rfl, hb, hr, -⟩
  rw [hrs] at hr
  obtain ⟨v, r, d, ds', rfl, hd, ⟨cs, hp, hc⟩, rfl⟩ := hr
  simp at hd
  obtain ⟨rfl, rfl⟩ := hd
  obtain ⟨e1, e2⟩ : D.b true = .b true ∧ cs = [.bool true] := ⟨rfl, by
    have hc' : Rd W' (FFD (fun _ => True) p' []) (.b true) .bool cs := hc
    exact hc'.2⟩
  subst e2
  have hpv : [Value.bool true] = [v] := hp
  injection hpv with hpv
  subst hpv
  exact ⟨rfl, hb.but.mono fun i hi _ => by obtain ⟨x, hx⟩ := hi; cases hx⟩
end Go.Proofs.Ytloekfnlidclcaa

namespace Go.Proofs.Ytloekfnlidclcaa
open Go.RowKit
set_option linter.unusedVariables false

theorem ent_lsame [Env] {x y : Ab} {t u : Tm} {b : Bool} (hx : ∀ p w v, x.pd p w v → TmIn w (Fr p) t v) (hy : ∀ p w v, y.pd p w v → TmIn w (Fr p) u v) (hb : sameT t u = b) : Entry 14 [x, y] (.val (.bool b)) := by
  have run : @Entry { T := fun n => match n with | 0 => t | _ => u } 14 [.tok 0, .tok 1] (.val (.bool b)) := by
    letI E : Env := { T := fun n => match n with | 0 => t | _ => u }
    exact entry_code (tbl_ok (T := [(63, [.tok 0, .tok 1], .val (.bool b))]) ⟨ent_ttv (fun _ _ => by kernel_rfl) fun w y z h h' => hb ▸ rsame_any t u w y z h h', trivial⟩) [.tok 0, .tok 1] Try.func14 rfl (fun _ _ => by kernel_rfl) (by kernel_rfl) (by kernel_rfl) rfl rfl (by simp [Try.ntmps14])
  exact entry_move run ⟨hx, hy, trivial⟩ idd

theorem la_entry (s : ByteArray) (hs : s.size ≤ 140737488351232) : @Entry { T := fun _ => atomR s, S := fun _ => s } 19 [.stok 0] (.tok 0) := by
  letI E : Env := { T := fun _ => atomR s, S := fun _ => s }
  exact entry_facts (E := E) [.mk 0 (.lit 2) (.lit 0) (.tok 0) []] ⟨⟨rfl, by show wf64 2; unfold wf64; omega, by show wf64 0; unfold wf64; omega, hs⟩, trivial⟩ noCalls_ok [.stok 0] Try.func19 rfl (fun _ _ => by kernel_rfl) (by kernel_rfl) rfl rfl (by simp [Try.ntmps19])
theorem ent_la [Env] {s : ByteArray} {k : Nat} (hs : s.size ≤ 140737488351232) (hk : Env.T k = atomR s) : Entry 19 [.val (.string s)] (.tok k) := entry_move (la_entry s hs) ⟨str_tok rfl, trivial⟩ (ide (tok_eq hk.symm))

theorem ln_entry (n : Int) (hn : wf64 n) : @Entry { T := fun _ => intT n, I := fun _ => n } 52 [.vtok 0] (.tok 0) := by
  letI E : Env := { T := fun _ => intT n, I := fun _ => n }
  exact entry_facts (E := E) [.mk 0 (.lit 1) (.tok 0) (.lit ⟨#[]⟩) []] ⟨⟨rfl, by show wf64 1; unfold wf64; omega, hn, by show (⟨#[]⟩ : ByteArray).size ≤ 140737488351232; decide⟩, trivial⟩ noCalls_ok [.vtok 0] Try.func52 rfl (fun _ _ => by kernel_rfl) (by kernel_rfl) rfl rfl (by simp [Try.ntmps52])
theorem ent_ln [Env] {n : Int} {k : Nat} (hn : wf64 n) (hk : Env.T k = intT n) : Entry 52 [.val (.int .i64 n)] (.tok k) := entry_move (ln_entry n hn) ⟨int_tok rfl, trivial⟩ (ide (tok_eq hk.symm))

theorem lx_entry (n : Int) (hn : wf64 n) : @Entry { T := fun _ => V n, I := fun _ => n } 31 [.vtok 0] (.tok 0) := by
  letI E : Env := { T := fun _ => V n, I := fun _ => n }
  exact entry_facts (E := E) [.mk 0 (.lit 0) (.tok 0) (.lit ⟨#[]⟩) []] ⟨⟨rfl, by show wf64 0; unfold wf64; omega, hn, by show (⟨#[]⟩ : ByteArray).size ≤ 140737488351232; decide⟩, trivial⟩ noCalls_ok [.vtok 0] Try.func31 rfl (fun _ _ => by kernel_rfl) (by kernel_rfl) rfl rfl (by simp [Try.ntmps31])
theorem ent_lx [Env] {n : Int} {k : Nat} (hn : wf64 n) (hk : Env.T k = V n) : Entry 31 [.val (.int .i64 n)] (.tok k) := entry_move (lx_entry n hn) ⟨int_tok rfl, trivial⟩ (ide (tok_eq hk.symm))

theorem lf_entry (s : ByteArray) (l : List Tm) (hs : s.size ≤ 140737488351232) : @Entry { T := fun _ => .mk 3 0 s l, S := fun _ => s, R := fun _ => l } 22 [.stok 0, .rtok 0] (.tok 0) := by
  letI E : Env := { T := fun _ => .mk 3 0 s l, S := fun _ => s, R := fun _ => l }
  exact entry_facts (E := E) [.mkr 0 (.lit 3) (.lit 0) (.tok 0) 0] ⟨⟨rfl, by show wf64 3; unfold wf64; omega, by show wf64 0; unfold wf64; omega, hs⟩, trivial⟩ noCalls_ok [.stok 0, .rtok 0] Try.func22 rfl (fun _ _ => by kernel_rfl) (by kernel_rfl) rfl rfl (by simp [Try.ntmps22])
theorem ent_lf [Env] {s : ByteArray} {l : List Nat} {k : Nat} (hs : s.size ≤ 140737488351232) (hk : Env.T k = .mk 3 0 s (l.map Env.T)) : Entry 22 [.val (.string s), .toks l] (.tok k) :=
  entry_move (lf_entry s (l.map Env.T) hs) ⟨str_tok rfl, toks_row rfl, trivial⟩ (ide (tok_eq hk.symm))

theorem lerror1_entry (t : Tm) : @Entry { T := fun k => match k with | 0 => t | 1 => atomR sNil | _ => .mk 3 0 sError [t, atomR sNil] } 18 [.tok 0] (.tok 2) := by
  letI E : Env := { T := fun k => match k with | 0 => t | 1 => atomR sNil | _ => .mk 3 0 sError [t, atomR sNil] }
  exact entry_code (tbl_ok (T := [(19, [.val (.string sNil)], .tok 1), (22, [.val (.string sError), .toks [0, 1]], .tok 2)]) ⟨ent_la (by decide) rfl, ent_lf (by decide) rfl, trivial⟩) [.tok 0] Try.func18 rfl (fun _ _ => by kernel_rfl) (by kernel_rfl) (by kernel_rfl) rfl rfl (by simp [Try.ntmps18])
theorem ent_lerror1 [Env] {n k : Nat} (hk : Env.T k = .mk 3 0 sError [Env.T n, atomR sNil]) : Entry 18 [.tok n] (.tok k) := entry_move (lerror1_entry (Env.T n)) ⟨idd, trivial⟩ (ide (tok_eq hk.symm))

theorem stok_val {E E' : Env} {k : Nat} {s : ByteArray} (h : E.S k = s) : ∀ p w v, @Ab.pd E (.stok k) p w v → @Ab.pd E' (.val (.string s)) p w v := fun p w v hv => by
  obtain rfl : v = .string (E.S k) := hv
  show Value.string (E.S k) = .string s
  rw [h]
theorem vtok_val {E E' : Env} {k : Nat} {n : Int} (h : E.I k = n) : ∀ p w v, @Ab.pd E (.vtok k) p w v → @Ab.pd E' (.val (.int .i64 n)) p w v := fun p w v hv => by
  obtain rfl : v = .int .i64 (E.I k) := hv
  show Value.int .i64 (E.I k) = .int .i64 n
  rw [h]
theorem val_eq {E E' : Env} {b c : Bool} (h : b = c) : ∀ p w v, @Ab.pd E (.val (.bool b)) p w v → @Ab.pd E' (.val (.bool c)) p w v := by subst h; exact idd

def w_f : ByteArray := ⟨#[102]⟩
def w_x47 : ByteArray := ⟨#[47]⟩
def w_modify : ByteArray := ⟨#[109, 111, 100, 105, 102, 121]⟩
def w_staticx95procedure : ByteArray := ⟨#[115, 116, 97, 116, 105, 99, 95, 112, 114, 111, 99, 101, 100, 117, 114, 101]⟩
def w_a : ByteArray := ⟨#[97]⟩
def w_abc : ByteArray := ⟨#[97, 98, 99]⟩
def w_characterx95code : ByteArray := ⟨#[99, 104, 97, 114, 97, 99, 116, 101, 114, 95, 99, 111, 100, 101]⟩
def w_b : ByteArray := ⟨#[98]⟩
def w_x46 : ByteArray := ⟨#[46]⟩

/-! ### The closed calls of Code, List and Indicator -/
theorem code_closed : @Entry { T := fun k => match k with | 0 => intT 256 | 1 => zeroT | _ => namedT sRep w_characterx95code } 48 [.tok 0] (.tup3 (.val (.int .i64 0)) (.tok 2) (.val (.bool false))) := by
  letI E : Env := { T := fun k => match k with | 0 => intT 256 | 1 => zeroT | _ => namedT sRep w_characterx95code }
  have e1 : @Entry E 55 [.tok 0] (.tup3 (.val (.int .i64 256)) (.tok 1) (.val (.bool true))) := entry_move (pInt_entry (intT 256)) ⟨idd, trivial⟩ (tup3_imp (vtok_val (by kernel_rfl)) (ide (tok_eq (by kernel_rfl))) (val_eq (by kernel_rfl)))
  have e2 : @Entry E 33 [.val (.string w_characterx95code)] (.tok 2) := entry_move (pRepresentation_entry w_characterx95code (by decide)) ⟨str_tok rfl, trivial⟩ (ide (tok_eq rfl))
  exact entry_code (tbl_ok (T := [(55, [.tok 0], .tup3 (.val (.int .i64 256)) (.tok 1) (.val (.bool true))), (33, [.val (.string w_characterx95code)], .tok 2)]) ⟨e1, e2, trivial⟩) [.tok 0] Try.func48 rfl (fun _ _ => by kernel_rfl) (by kernel_rfl) (by kernel_rfl) rfl rfl (by simp [Try.ntmps48])

abbrev EnvLc : Env := { T := fun k => match k with | 0 => .mk 3 0 w_x46 [atomR w_a, .mk 3 0 w_x46 [atomR w_b, V 0]] | 1 => atomR w_a | 2 => .mk 3 0 w_x46 [atomR w_b, V 0] | 3 => atomR w_b | 4 => V 0 | _ => instT, I := fun k => match k with | 0 => 3 | 1 => 0 | 2 => 2 | _ => 0, S := fun k => match k with | 0 => w_x46 | _ => ⟨#[]⟩, R := fun k => match k with | 0 => [atomR w_a, .mk 3 0 w_x46 [atomR w_b, V 0]] | 1 => [atomR w_b, V 0] | 2 => [] | 3 => [atomR w_a] | _ => [atomR w_a, atomR w_b] }
theorem list_closed : @Entry EnvLc 17 [.tok 0] (.tup3 (.val (.slice none 0 0)) (.tok 5) (.val (.bool false))) := by
  letI E : Env := EnvLc
  have c1 : @Entry E 62 [.tok 1] (.tok 1) := ent_tt (fun _ _ => by kernel_rfl) fun w y h => clone_any (atomR w_a) w y h
  have c3 : @Entry E 62 [.tok 3] (.tok 3) := ent_tt (fun _ _ => by kernel_rfl) fun w y h => clone_any (atomR w_b) w y h
  have ei : @Entry E 32 [] (.tok 5) := entry_move inst_entry trivial (ide (tok_eq rfl))
  exact entry_facts (E := E) [.tm 0 0 1 0 0, .tm 2 0 1 0 1, .tm 4 1 1 1 2, .rlen 0 2, .rlen 1 2, .rget 0 (.lit 0) 1, .rget 0 (.lit 1) 2, .rget 1 (.lit 0) 3, .rget 1 (.lit 1) 4, .rel .eq (.tok 0) (.lit 3) true, .rel .eq (.tok 2) (.lit 2) true, .seq (.tok 0) (.lit w_x46) true, .rel .eq (.tok 1) (.lit 3) false, .rel .eq (.tok 1) (.lit 0) true, .push none 1 3 false, .push (some 3) 3 4 false]
    ⟨⟨rfl, rfl, rfl, rfl⟩, ⟨rfl, rfl, rfl, rfl⟩, ⟨rfl, rfl, rfl, rfl⟩, rfl, rfl, ⟨by show (0 : Int) ≤ 0; omega, rfl⟩, ⟨by show (0 : Int) ≤ 1; omega, rfl⟩, ⟨by show (0 : Int) ≤ 0; omega, rfl⟩, ⟨by show (0 : Int) ≤ 1; omega, rfl⟩, rfl, rfl, by show decide (w_x46 = w_x46) = true; simp, rfl, rfl, ⟨rfl, by show (1 : Nat) ≤ 1000000; omega⟩, ⟨rfl, by show (2 : Nat) ≤ 1000000; omega⟩, trivial⟩
    (tbl_ok (T := [(61, [.tok 0], .val (.bool true)), (62, [.tok 1], .tok 1), (62, [.tok 3], .tok 3), (32, [], .tok 5)]) ⟨ent_valid (by kernel_rfl), c1, c3, ei, trivial⟩) [.tok 0] Try.func17 rfl (fun _ _ => by kernel_rfl) (by kernel_rfl) rfl rfl (by simp [Try.ntmps17])


end Go.Proofs.Ytloekfnlidclcaa

namespace Go.Proofs.Ytloekfnlidclcaa
open Go.RowKit
set_option linter.unusedVariables false

abbrev EnvIc : Env := { T := fun k => match k with | 0 => .mk 3 0 w_x47 [atomR w_f, intT 2] | 1 => atomR w_f | 2 => intT 2 | _ => zeroT, I := fun k => match k with | 0 => 3 | 1 => 0 | 2 => 2 | _ => 1, S := fun k => match k with | 0 => w_x47 | 1 => w_f | _ => ⟨#[]⟩, R := fun k => match k with | 0 => [atomR w_f, intT 2] | _ => [] }
theorem indicator_closed : @Entry EnvIc 24 [.tok 0] (.tup4 (.val (.string w_f)) (.val (.int .i64 2)) (.term zeroT) (.val (.bool true))) := by
  letI E : Env := EnvIc
  have e0 : @Entry E 67 [.tok 0] (.pair (.tok 3) (.val (.bool true))) := entry_move (bound_entry _) ⟨idd, trivial⟩ (pair_imp (ide (tok_eq (by kernel_rfl))) (val_eq (by kernel_rfl)))
  have e1 : @Entry E 53 [.tok 1] (.tup3 (.val (.string w_f)) (.tok 3) (.val (.bool true))) := entry_move (pAtom_entry (atomR w_f)) ⟨idd, trivial⟩ (tup3_imp (stok_val (by kernel_rfl)) (ide (tok_eq (by kernel_rfl))) (val_eq (by kernel_rfl)))
  have e2 : @Entry E 55 [.tok 2] (.tup3 (.val (.int .i64 2)) (.tok 3) (.val (.bool true))) := entry_move (pInt_entry (intT 2)) ⟨idd, trivial⟩ (tup3_imp (vtok_val (by kernel_rfl)) (ide (tok_eq (by kernel_rfl))) (val_eq (by kernel_rfl)))
  exact entry_facts (E := E) [.tm 0 0 1 0 0, .tm 1 2 1 1 1, .tm 2 3 2 2 1, .rlen 0 2, .rget 0 (.lit 0) 1, .rget 0 (.lit 1) 2, .rel .eq (.tok 0) (.lit 3) true, .rel .eq (.tok 2) (.lit 2) true, .seq (.tok 0) (.lit w_x47) true, .rel .eq (.tok 2) (.lit 0) false, .rel .eq (.tok 3) (.lit 0) false]
    ⟨⟨rfl, rfl, rfl, rfl⟩, ⟨rfl, rfl, rfl, rfl⟩, ⟨rfl, rfl, rfl, rfl⟩, rfl, ⟨by show (0 : Int) ≤ 0; omega, rfl⟩, ⟨by show (0 : Int) ≤ 1; omega, rfl⟩, rfl, rfl, by show decide (w_x47 = w_x47) = true; simp, rfl, rfl, trivial⟩
    (tbl_ok (T := [(67, [.tok 0], .pair (.tok 3) (.val (.bool true))), (53, [.tok 1], .tup3 (.val (.string w_f)) (.tok 3) (.val (.bool true))), (55, [.tok 2], .tup3 (.val (.int .i64 2)) (.tok 3) (.val (.bool true)))]) ⟨e0, e1, e2, trivial⟩) [.tok 0] Try.func24 rfl (fun _ _ => by kernel_rfl) (by kernel_rfl) rfl rfl (by simp [Try.ntmps24])


end Go.Proofs.Ytloekfnlidclcaa

namespace Go.Proofs.Ytloekfnlidclcaa
open Go.RowKit
set_option linter.unusedVariables false

abbrev EnvAw : Env := { T := fun k => match k with | 0 => atomR w_f | 1 => intT 1 | 2 => .mk 3 0 w_x47 [atomR w_f, intT 1] | 3 => aboutT sPermission [w_modify, w_staticx95procedure] (.mk 3 0 w_x47 [atomR w_f, intT 1]) | 4 => atomR w_a | 5 => V 0 | 6 => .mk 3 0 sError [atomR w_a, V 0] | 7 => atomR w_abc | 8 => intT 3 | 9 => aboutT sType [sAtom] (intT 3) | 10 => intT 256 | 11 => namedT sRep w_characterx95code | 12 => atomR w_b | 13 => .mk 3 0 w_x46 [atomR w_b, V 0] | 14 => .mk 3 0 w_x46 [atomR w_a, .mk 3 0 w_x46 [atomR w_b, V 0]] | 15 => instT | 16 => intT 2 | 17 => .mk 3 0 w_x47 [atomR w_f, intT 2] | 18 => atomR w_modify | 19 => atomR w_staticx95procedure | 20 => .mk 3 0 sPermission [atomR w_modify, atomR w_staticx95procedure, .mk 3 0 w_x47 [atomR w_f, intT 1]] | 21 => .mk 3 0 sError [.mk 3 0 sPermission [atomR w_modify, atomR w_staticx95procedure, .mk 3 0 w_x47 [atomR w_f, intT 1]], atomR sNil] | 22 => syntaxT 3 | 23 => .mk 3 0 sSyntax [intT 3] | 24 => .mk 3 0 sError [.mk 3 0 sSyntax [intT 3], atomR sNil] | 25 => atomR sAtom | 26 => .mk 3 0 sType [atomR sAtom, intT 3] | 27 => .mk 3 0 sError [.mk 3 0 sType [atomR sAtom, intT 3], atomR sNil] | 28 => atomR w_characterx95code | 29 => .mk 3 0 sRep [atomR w_characterx95code] | 30 => .mk 3 0 sError [.mk 3 0 sRep [atomR w_characterx95code], atomR sNil] | 31 => atomR sInst | _ => .mk 3 0 sError [(atomR sInst), atomR sNil] }

set_option maxRecDepth 10000 in
set_option maxHeartbeats 2000000 in
theorem awake6_entry : @Entry EnvAw 15 [] (.val (.bool true)) := by
  letI E : Env := EnvAw
  have ents : @Entries E [(19, [.val (.string w_f)], .tok 0),
      (19, [.val (.string w_a)], .tok 4),
      (19, [.val (.string w_abc)], .tok 7),
      (19, [.val (.string w_b)], .tok 12),
      (19, [.val (.string w_modify)], .tok 18),
      (19, [.val (.string w_staticx95procedure)], .tok 19),
      (19, [.val (.string w_characterx95code)], .tok 28),
      (19, [.val (.string sAtom)], .tok 25),
      (19, [.val (.string sInst)], .tok 31),
      (52, [.val (.int .i64 1)], .tok 1),
      (52, [.val (.int .i64 3)], .tok 8),
      (52, [.val (.int .i64 256)], .tok 10),
      (52, [.val (.int .i64 2)], .tok 16),
      (31, [.val (.int .i64 0)], .tok 5),
      (22, [.val (.string w_x47), .toks [0, 1]], .tok 2),
      (22, [.val (.string sError), .toks [4, 5]], .tok 6),
      (22, [.val (.string w_x46), .toks [12, 5]], .tok 13),
      (22, [.val (.string w_x46), .toks [4, 13]], .tok 14),
      (22, [.val (.string w_x47), .toks [0, 16]], .tok 17),
      (22, [.val (.string sPermission), .toks [18, 19, 2]], .tok 20),
      (22, [.val (.string sSyntax), .toks [8]], .tok 23),
      (22, [.val (.string sType), .toks [25, 8]], .tok 26),
      (22, [.val (.string sRep), .toks [28]], .tok 29),
      (18, [.tok 20], .tok 21),
      (18, [.tok 23], .tok 24),
      (18, [.tok 26], .tok 27),
      (18, [.tok 29], .tok 30),
      (18, [.tok 31], .tok 32),
      (30, [.val (.string w_modify), .val (.string w_staticx95procedure), .tok 2], .tok 3),
      (12, [.tok 6], .pair (.tok 4) (.val (.bool true))),
      (53, [.tok 7], .tup3 (.val (.string w_abc)) (.tok 5) (.val (.bool true))),
      (53, [.tok 8], .tup3 (.val (.string ⟨#[]⟩)) (.tok 9) (.val (.bool false))),
      (48, [.tok 10], .tup3 (.val (.int .i64 0)) (.tok 11) (.val (.bool false))),
      (17, [.tok 14], .tup3 (.val (.slice none 0 0)) (.tok 15) (.val (.bool false))),
      (24, [.tok 17], .tup4 (.val (.string w_f)) (.val (.int .i64 2)) (.term zeroT) (.val (.bool true))),
      (35, [.val (.int .i64 3)], .tok 22),
      (14, [.tok 3, .tok 21], .val (.bool true)),
      (14, [.tok 22, .tok 24], .val (.bool true)),
      (14, [.tok 4, .tok 4], .val (.bool true)),
      (14, [.tok 5, .tok 5], .val (.bool true)),
      (14, [.tok 9, .tok 27], .val (.bool true)),
      (14, [.tok 11, .tok 30], .val (.bool true)),
      (14, [.tok 15, .tok 32], .val (.bool true)),
      (14, [.term zeroT, .tok 5], .val (.bool true))] :=
    ⟨ent_la (by decide) rfl,
      ent_la (by decide) rfl,
      ent_la (by decide) rfl,
      ent_la (by decide) rfl,
      ent_la (by decide) rfl,
      ent_la (by decide) rfl,
      ent_la (by decide) rfl,
      ent_la (by decide) rfl,
      ent_la (by decide) rfl,
      ent_ln (by unfold wf64; omega) rfl,
      ent_ln (by unfold wf64; omega) rfl,
      ent_ln (by unfold wf64; omega) rfl,
      ent_ln (by unfold wf64; omega) rfl,
      ent_lx (by unfold wf64; omega) rfl,
      ent_lf (by decide) rfl,
      ent_lf (by decide) rfl,
      ent_lf (by decide) rfl,
      ent_lf (by decide) rfl,
      ent_lf (by decide) rfl,
      ent_lf (by decide) rfl,
      ent_lf (by decide) rfl,
      ent_lf (by decide) rfl,
      ent_lf (by decide) rfl,
      ent_lerror1 rfl,
      ent_lerror1 rfl,
      ent_lerror1 rfl,
      ent_lerror1 rfl,
      ent_lerror1 rfl,
      entry_move (pPermission_entry _ w_modify w_staticx95procedure (by decide) (by decide)) ⟨str_tok rfl, str_tok rfl, idd, trivial⟩ (ide (tok_eq rfl)),
      entry_move (pFormal_entry _) ⟨idd, trivial⟩ (pair_imp (ide (tok_eq (by kernel_rfl))) (val_eq (by kernel_rfl))),
      entry_move (pAtom_entry _) ⟨idd, trivial⟩ (tup3_imp (stok_val (by kernel_rfl)) (ide (tok_eq (by kernel_rfl))) (val_eq (by kernel_rfl))),
      entry_move (pAtom_entry _) ⟨idd, trivial⟩ (tup3_imp (stok_val (by kernel_rfl)) (ide (tok_eq (by kernel_rfl))) (val_eq (by kernel_rfl))),
      entry_move code_closed ⟨idd, trivial⟩ (tup3_imp idd (ide (tok_eq rfl)) idd),
      entry_move list_closed ⟨idd, trivial⟩ (tup3_imp idd (ide (tok_eq rfl)) idd),
      entry_move indicator_closed ⟨idd, trivial⟩ idd,
      entry_move (syntax_entry 3 (by unfold wf64; omega)) ⟨int_tok rfl, trivial⟩ (ide (tok_eq rfl)),
      ent_lsame idd idd (by kernel_rfl),
      ent_lsame idd idd (by kernel_rfl),
      ent_lsame idd idd (by kernel_rfl),
      ent_lsame idd idd (by kernel_rfl),
      ent_lsame idd idd (by kernel_rfl),
      ent_lsame idd idd (by kernel_rfl),
      ent_lsame idd idd (by kernel_rfl),
      ent_lsame idd idd (by kernel_rfl), trivial⟩
  exact entry_facts (E := E) [.seq (.lit w_abc) (.lit w_abc) true, .seq (.lit w_f) (.lit w_f) true] ⟨by show decide (w_abc = w_abc) = true; simp, by show decide (w_f = w_f) = true; simp, trivial⟩ (tbl_ok ents) [] Try.func15 rfl (fun _ _ => by kernel_rfl) (by kernel_rfl) rfl rfl (by simp)

end Go.Proofs.Ytloekfnlidclcaa

namespace Go.Proofs.Ytloekfnlidclcaa
open Go.RowKit
set_option linter.unusedVariables false

abbrev T_Terms : Ty := .row 24
abbrev T_Term : Ty := .st 23
def ct_law06_same : Ct := ⟨14, [.val (.st 23), .val (.st 23)], [(.bool, false)]⟩
theorem enter_law06_same (args : Array Value) (w : World) : (callFunc ct_law06_same.f args).run Try.prog w = .ok (.enter ct_law06_same.f args) w := by kernel_rfl
def ct_ref03_Same : Ct := ⟨63, [.val (.st 23), .val (.st 23)], [(.bool, false)]⟩
theorem enter_ref03_Same (args : Array Value) (w : World) : (callFunc ct_ref03_Same.f args).run Try.prog w = .ok (.enter ct_ref03_Same.f args) w := by kernel_rfl
def ann_law06_same : Ann := ⟨[0, 1, 2, 3, 4], []⟩
def tree_law06_same : Tree := (.need [(.ok 0 [(.tok 0), (.tok 1)])] (.leaf [(.call 0 0 [(.tok 0), (.tok 1)])]))
set_option maxRecDepth 100000 in
theorem code_law06_same (g0 : List D → Option (List D)) : ∀ cd, Try.f14.body = some cd → treeOf Try.prog [(ct_ref03_Same, g0)] ann_law06_same ct_law06_same Try.f14 cd = tree_law06_same := by
  intro cd h
  injection h with h
  subst h
  kernel_rfl
theorem fok_law06_same {g0 : List D → Option (List D)} {g : List D → Option (List D)} (h0 : FOk ct_ref03_Same g0) (h : ∀ ds outs, WfA ct_law06_same.ar ds → g ds = some outs → tree_law06_same.go (tblS [(ct_ref03_Same, g0)]) (fun o => o = outs) ds fun _ _ => False) : FOk ct_law06_same g :=
  fok_of ann_law06_same Try.f14 _ (.cons h0 .nil) rfl rfl enter_law06_same (by decide) fun ds outs hw hg => by rw [code_law06_same g0 _ rfl]; exact h ds outs hw hg

def ct_balls_List : Ct := ⟨17, [.val (.st 23)], [(.row 24, false), (.st 23, false), (.bool, false)]⟩
theorem enter_balls_List (args : Array Value) (w : World) : (callFunc ct_balls_List.f args).run Try.prog w = .ok (.enter ct_balls_List.f args) w := by kernel_rfl
def ct_term_Valid : Ct := ⟨61, [.val (.st 23)], [(.bool, false)]⟩
theorem enter_term_Valid (args : Array Value) (w : World) : (callFunc ct_term_Valid.f args).run Try.prog w = .ok (.enter ct_term_Valid.f args) w := by kernel_rfl
def ct_term_Clone : Ct := ⟨62, [.val (.st 23)], [(.st 23, false)]⟩
theorem enter_term_Clone (args : Array Value) (w : World) : (callFunc ct_term_Clone.f args).run Try.prog w = .ok (.enter ct_term_Clone.f args) w := by kernel_rfl
def ct_balls_Inst : Ct := ⟨32, [], [(.st 23, false)]⟩
theorem enter_balls_Inst (args : Array Value) (w : World) : (callFunc ct_balls_Inst.f args).run Try.prog w = .ok (.enter ct_balls_Inst.f args) w := by kernel_rfl
def ct_balls_Type : Ct := ⟨25, [.val (.str), .val (.st 23)], [(.st 23, false)]⟩
theorem enter_balls_Type (args : Array Value) (w : World) : (callFunc ct_balls_Type.f args).run Try.prog w = .ok (.enter ct_balls_Type.f args) w := by kernel_rfl
def ann_balls_List : Ann := ⟨[0, 1, 2, 3, 4, 5, 8, 11, 38, 43], [(4, ⟨[(2, .row 24, false)], [5], [12, 13, 14, 15, 16, 17, 18, 19, 20, 21, 22, 23, 24, 25, 11, 26, 27, 28, 29, 30, 31, 32, 33, 34, 35, 36, 37], []⟩)]⟩
def tree_balls_List : Tree := (.need [(.ok 0 [(.tok 0)])] (.br (.not (.call 0 0 [(.tok 0)])) (.leaf [(.lit (.r [])), (.lit (.a [(.i 0), (.i 0), (.s ⟨#[]⟩), (.r [])])), (.lit (.b .false))]) (.loop 4 1 [(.lit (.r [])), (.tok 0)] (.br (.and (.and (.eq (.fld (.tok 2) 0) (.lit (.i 3))) (.eq (.fld (.tok 2) 2) (.lit (.s ⟨#[46]⟩)))) (.eq (.len (.fld (.tok 2) 3)) (.lit (.i 2)))) (.need [(.lit (.b .true)), (.lt (.lit (.i 0)) (.len (.fld (.tok 2) 3))), (.ok 1 [(.get (.fld (.tok 2) 3) (.lit (.i 0)))]), (.le (.add (.len (.tok 1)) (.lit (.i 1))) (.lit (.i 34359738368)))] (.need [(.lit (.b .true)), (.lt (.lit (.i 1)) (.len (.fld (.tok 2) 3)))] (.back 4 [(.app (.tok 1) (.row [(.call 1 0 [(.get (.fld (.tok 2) 3) (.lit (.i 0)))])])), (.get (.fld (.tok 2) 3) (.lit (.i 1)))]))) (.br (.eq (.fld (.tok 2) 0) (.lit (.i 0))) (.need [(.ok 2 [])] (.leaf [(.lit (.r [])), (.call 2 0 []), (.lit (.b .false))])) (.br (.and (.eq (.fld (.tok 2) 0) (.lit (.i 2))) (.eq (.fld (.tok 2) 2) (.lit (.s ⟨#[91, 93]⟩)))) (.leaf [(.tok 1), (.lit (.a [(.i 0), (.i 0), (.s ⟨#[]⟩), (.r [])])), (.lit (.b .true))]) (.need [(.ok 3 [(.lit (.s ⟨#[108, 105, 115, 116]⟩)), (.tok 0)])] (.leaf [(.lit (.r [])), (.call 3 0 [(.lit (.s ⟨#[108, 105, 115, 116]⟩)), (.tok 0)]), (.lit (.b .false))]))))))))
set_option maxRecDepth 100000 in
theorem code_balls_List (g0 g1 g2 g3 : List D → Option (List D)) : ∀ cd, Try.f17.body = some cd → treeOf Try.prog [(ct_term_Valid, g0), (ct_term_Clone, g1), (ct_balls_Inst, g2), (ct_balls_Type, g3)] ann_balls_List ct_balls_List Try.f17 cd = tree_balls_List := by
  intro cd h
  injection h with h
  subst h
  kernel_rfl
theorem fok_balls_List {g0 g1 g2 g3 : List D → Option (List D)} {g : List D → Option (List D)} (h0 : FOk ct_term_Valid g0) (h1 : FOk ct_term_Clone g1) (h2 : FOk ct_balls_Inst g2) (h3 : FOk ct_balls_Type g3) (h : ∀ ds outs, WfA ct_balls_List.ar ds → g ds = some outs → tree_balls_List.go (tblS [(ct_term_Valid, g0), (ct_term_Clone, g1), (ct_balls_Inst, g2), (ct_balls_Type, g3)]) (fun o => o = outs) ds fun _ _ => False) : FOk ct_balls_List g :=
  fok_of ann_balls_List Try.f17 _ (.cons h0 (.cons h1 (.cons h2 (.cons h3 .nil)))) rfl rfl enter_balls_List (by decide) fun ds outs hw hg => by rw [code_balls_List g0 g1 g2 g3 _ rfl]; exact h ds outs hw hg

def ct_law06_error1 : Ct := ⟨18, [.val (.st 23)], [(.st 23, false)]⟩
theorem enter_law06_error1 (args : Array Value) (w : World) : (callFunc ct_law06_error1.f args).run Try.prog w = .ok (.enter ct_law06_error1.f args) w := by kernel_rfl
def ct_law06_a : Ct := ⟨19, [.val (.str)], [(.st 23, false)]⟩
theorem enter_law06_a (args : Array Value) (w : World) : (callFunc ct_law06_a.f args).run Try.prog w = .ok (.enter ct_law06_a.f args) w := by kernel_rfl
def ct_law06_f : Ct := ⟨22, [.val (.str), .val (.row 24)], [(.st 23, false)]⟩
theorem enter_law06_f (args : Array Value) (w : World) : (callFunc ct_law06_f.f args).run Try.prog w = .ok (.enter ct_law06_f.f args) w := by kernel_rfl
def ann_law06_error1 : Ann := ⟨[0, 1, 2], []⟩
def tree_law06_error1 : Tree := (.need [(.ok 1 [(.lit (.s ⟨#[101, 114, 114, 111, 114]⟩)), (.row [(.tok 0), (.call 0 0 [(.lit (.s ⟨#[91, 93]⟩))])])]), (.ok 0 [(.lit (.s ⟨#[91, 93]⟩))])] (.leaf [(.call 1 0 [(.lit (.s ⟨#[101, 114, 114, 111, 114]⟩)), (.row [(.tok 0), (.call 0 0 [(.lit (.s ⟨#[91, 93]⟩))])])])]))
set_option maxRecDepth 100000 in
theorem code_law06_error1 (g0 g1 : List D → Option (List D)) : ∀ cd, Try.f18.body = some cd → treeOf Try.prog [(ct_law06_a, g0), (ct_law06_f, g1)] ann_law06_error1 ct_law06_error1 Try.f18 cd = tree_law06_error1 := by
  intro cd h
  injection h with h
  subst h
  kernel_rfl
theorem fok_law06_error1 {g0 g1 : List D → Option (List D)} {g : List D → Option (List D)} (h0 : FOk ct_law06_a g0) (h1 : FOk ct_law06_f g1) (h : ∀ ds outs, WfA ct_law06_error1.ar ds → g ds = some outs → tree_law06_error1.go (tblS [(ct_law06_a, g0), (ct_law06_f, g1)]) (fun o => o = outs) ds fun _ _ => False) : FOk ct_law06_error1 g :=
  fok_of ann_law06_error1 Try.f18 _ (.cons h0 (.cons h1 .nil)) rfl rfl enter_law06_error1 (by decide) fun ds outs hw hg => by rw [code_law06_error1 g0 g1 _ rfl]; exact h ds outs hw hg

def ann_law06_a : Ann := ⟨[0, 2], []⟩
def tree_law06_a : Tree := (.leaf [(.set (.set (.lit (.a [(.i 0), (.i 0), (.s ⟨#[]⟩), (.r [])])) 0 (.lit (.i 2))) 2 (.tok 0))])
set_option maxRecDepth 100000 in
theorem code_law06_a : ∀ cd, Try.f19.body = some cd → treeOf Try.prog [] ann_law06_a ct_law06_a Try.f19 cd = tree_law06_a := by
  intro cd h
  injection h with h
  subst h
  kernel_rfl
theorem fok_law06_a {g : List D → Option (List D)}  (h : ∀ ds outs, WfA ct_law06_a.ar ds → g ds = some outs → tree_law06_a.go (tblS []) (fun o => o = outs) ds fun _ _ => False) : FOk ct_law06_a g :=
  fok_of ann_law06_a Try.f19 _ .nil rfl rfl enter_law06_a (by decide) fun ds outs hw hg => by rw [code_law06_a  _ rfl]; exact h ds outs hw hg

def ann_law06_f : Ann := ⟨[0, 1, 4], []⟩
def tree_law06_f : Tree := (.leaf [(.set (.set (.set (.lit (.a [(.i 0), (.i 0), (.s ⟨#[]⟩), (.r [])])) 0 (.lit (.i 3))) 2 (.tok 0)) 3 (.tok 1))])
set_option maxRecDepth 100000 in
theorem code_law06_f : ∀ cd, Try.f22.body = some cd → treeOf Try.prog [] ann_law06_f ct_law06_f Try.f22 cd = tree_law06_f := by
  intro cd h
  injection h with h
  subst h
  kernel_rfl
theorem fok_law06_f {g : List D → Option (List D)}  (h : ∀ ds outs, WfA ct_law06_f.ar ds → g ds = some outs → tree_law06_f.go (tblS []) (fun o => o = outs) ds fun _ _ => False) : FOk ct_law06_f g :=
  fok_of ann_law06_f Try.f22 _ .nil rfl rfl enter_law06_f (by decide) fun ds outs hw hg => by rw [code_law06_f  _ rfl]; exact h ds outs hw hg

def ct_balls_Indicator : Ct := ⟨24, [.val (.st 23)], [(.str, false), (.int .i64, false), (.st 23, false), (.bool, false)]⟩
theorem enter_balls_Indicator (args : Array Value) (w : World) : (callFunc ct_balls_Indicator.f args).run Try.prog w = .ok (.enter ct_balls_Indicator.f args) w := by kernel_rfl
def ct_balls_bound : Ct := ⟨67, [.val (.st 23)], [(.st 23, false), (.bool, false)]⟩
theorem enter_balls_bound (args : Array Value) (w : World) : (callFunc ct_balls_bound.f args).run Try.prog w = .ok (.enter ct_balls_bound.f args) w := by kernel_rfl
def ct_balls_Atom : Ct := ⟨53, [.val (.st 23)], [(.str, false), (.st 23, false), (.bool, false)]⟩
theorem enter_balls_Atom (args : Array Value) (w : World) : (callFunc ct_balls_Atom.f args).run Try.prog w = .ok (.enter ct_balls_Atom.f args) w := by kernel_rfl
def ct_balls_Int : Ct := ⟨55, [.val (.st 23)], [(.int .i64, false), (.st 23, false), (.bool, false)]⟩
theorem enter_balls_Int (args : Array Value) (w : World) : (callFunc ct_balls_Int.f args).run Try.prog w = .ok (.enter ct_balls_Int.f args) w := by kernel_rfl
def ct_balls_Domain : Ct := ⟨28, [.val (.str), .val (.st 23)], [(.st 23, false)]⟩
theorem enter_balls_Domain (args : Array Value) (w : World) : (callFunc ct_balls_Domain.f args).run Try.prog w = .ok (.enter ct_balls_Domain.f args) w := by kernel_rfl
def ct_balls_Representation : Ct := ⟨33, [.val (.str)], [(.st 23, false)]⟩
theorem enter_balls_Representation (args : Array Value) (w : World) : (callFunc ct_balls_Representation.f args).run Try.prog w = .ok (.enter ct_balls_Representation.f args) w := by kernel_rfl
def ann_balls_Indicator : Ann := ⟨[0, 1, 2, 3, 4, 5, 6, 7, 8, 15, 30, 48, 57, 66, 69, 73], []⟩
def tree_balls_Indicator : Tree := (.need [(.ok 0 [(.tok 0)])] (.br (.not (.call 0 1 [(.tok 0)])) (.leaf [(.lit (.s ⟨#[]⟩)), (.lit (.i 0)), (.call 0 0 [(.tok 0)]), (.lit (.b .false))]) (.br (.or (.or (.not (.eq (.fld (.tok 0) 0) (.lit (.i 3)))) (.not (.eq (.fld (.tok 0) 2) (.lit (.s ⟨#[47]⟩))))) (.not (.eq (.len (.fld (.tok 0) 3)) (.lit (.i 2))))) (.need [(.ok 1 [(.lit (.s ⟨#[112, 114, 101, 100, 105, 99, 97, 116, 101, 95, 105, 110, 100, 105, 99, 97, 116, 111, 114]⟩)), (.tok 0)])] (.leaf [(.lit (.s ⟨#[]⟩)), (.lit (.i 0)), (.call 1 0 [(.lit (.s ⟨#[112, 114, 101, 100, 105, 99, 97, 116, 101, 95, 105, 110, 100, 105, 99, 97, 116, 111, 114]⟩)), (.tok 0)]), (.lit (.b .false))])) (.need [(.lit (.b .true)), (.lt (.lit (.i 1)) (.len (.fld (.tok 0) 3))), (.lit (.b .true)), (.lt (.lit (.i 0)) (.len (.fld (.tok 0) 3)))] (.br (.or (.eq (.fld (.get (.fld (.tok 0) 3) (.lit (.i 0))) 0) (.lit (.i 0))) (.eq (.fld (.get (.fld (.tok 0) 3) (.lit (.i 1))) 0) (.lit (.i 0)))) (.need [(.ok 2 [])] (.leaf [(.lit (.s ⟨#[]⟩)), (.lit (.i 0)), (.call 2 0 []), (.lit (.b .false))])) (.need [(.ok 3 [(.get (.fld (.tok 0) 3) (.lit (.i 0)))])] (.br (.not (.call 3 2 [(.get (.fld (.tok 0) 3) (.lit (.i 0)))])) (.leaf [(.lit (.s ⟨#[]⟩)), (.lit (.i 0)), (.call 3 1 [(.get (.fld (.tok 0) 3) (.lit (.i 0)))]), (.lit (.b .false))]) (.need [(.ok 4 [(.get (.fld (.tok 0) 3) (.lit (.i 1)))])] (.br (.not (.call 4 2 [(.get (.fld (.tok 0) 3) (.lit (.i 1)))])) (.leaf [(.lit (.s ⟨#[]⟩)), (.lit (.i 0)), (.call 4 1 [(.get (.fld (.tok 0) 3) (.lit (.i 1)))]), (.lit (.b .false))]) (.br (.lt (.call 4 0 [(.get (.fld (.tok 0) 3) (.lit (.i 1)))]) (.lit (.i 0))) (.need [(.ok 5 [(.lit (.s ⟨#[110, 111, 116, 95, 108, 101, 115, 115, 95, 116, 104, 97, 110, 95, 122, 101, 114, 111]⟩)), (.get (.fld (.tok 0) 3) (.lit (.i 1)))])] (.leaf [(.lit (.s ⟨#[]⟩)), (.lit (.i 0)), (.call 5 0 [(.lit (.s ⟨#[110, 111, 116, 95, 108, 101, 115, 115, 95, 116, 104, 97, 110, 95, 122, 101, 114, 111]⟩)), (.get (.fld (.tok 0) 3) (.lit (.i 1)))]), (.lit (.b .false))])) (.br (.lt (.lit (.i 8)) (.call 4 0 [(.get (.fld (.tok 0) 3) (.lit (.i 1)))])) (.need [(.ok 6 [(.lit (.s ⟨#[109, 97, 120, 95, 97, 114, 105, 116, 121]⟩))])] (.leaf [(.lit (.s ⟨#[]⟩)), (.lit (.i 0)), (.call 6 0 [(.lit (.s ⟨#[109, 97, 120, 95, 97, 114, 105, 116, 121]⟩))]), (.lit (.b .false))])) (.leaf [(.call 3 0 [(.get (.fld (.tok 0) 3) (.lit (.i 0)))]), (.call 4 0 [(.get (.fld (.tok 0) 3) (.lit (.i 1)))]), (.lit (.a [(.i 0), (.i 0), (.s ⟨#[]⟩), (.r [])])), (.lit (.b .true))]))))))))))))
set_option maxRecDepth 100000 in
theorem code_balls_Indicator (g0 g1 g2 g3 g4 g5 g6 : List D → Option (List D)) : ∀ cd, Try.f24.body = some cd → treeOf Try.prog [(ct_balls_bound, g0), (ct_balls_Type, g1), (ct_balls_Inst, g2), (ct_balls_Atom, g3), (ct_balls_Int, g4), (ct_balls_Domain, g5), (ct_balls_Representation, g6)] ann_balls_Indicator ct_balls_Indicator Try.f24 cd = tree_balls_Indicator := by
  intro cd h
  injection h with h
  subst h
  kernel_rfl
theorem fok_balls_Indicator {g0 g1 g2 g3 g4 g5 g6 : List D → Option (List D)} {g : List D → Option (List D)} (h0 : FOk ct_balls_bound g0) (h1 : FOk ct_balls_Type g1) (h2 : FOk ct_balls_Inst g2) (h3 : FOk ct_balls_Atom g3) (h4 : FOk ct_balls_Int g4) (h5 : FOk ct_balls_Domain g5) (h6 : FOk ct_balls_Representation g6) (h : ∀ ds outs, WfA ct_balls_Indicator.ar ds → g ds = some outs → tree_balls_Indicator.go (tblS [(ct_balls_bound, g0), (ct_balls_Type, g1), (ct_balls_Inst, g2), (ct_balls_Atom, g3), (ct_balls_Int, g4), (ct_balls_Domain, g5), (ct_balls_Representation, g6)]) (fun o => o = outs) ds fun _ _ => False) : FOk ct_balls_Indicator g :=
  fok_of ann_balls_Indicator Try.f24 _ (.cons h0 (.cons h1 (.cons h2 (.cons h3 (.cons h4 (.cons h5 (.cons h6 .nil))))))) rfl rfl enter_balls_Indicator (by decide) fun ds outs hw hg => by rw [code_balls_Indicator g0 g1 g2 g3 g4 g5 g6 _ rfl]; exact h ds outs hw hg

def ct_law06_x : Ct := ⟨31, [.val (.int .i64)], [(.st 23, false)]⟩
theorem enter_law06_x (args : Array Value) (w : World) : (callFunc ct_law06_x.f args).run Try.prog w = .ok (.enter ct_law06_x.f args) w := by kernel_rfl
def ann_law06_x : Ann := ⟨[0, 2], []⟩
def tree_law06_x : Tree := (.leaf [(.set (.lit (.a [(.i 0), (.i 0), (.s ⟨#[]⟩), (.r [])])) 1 (.tok 0))])
set_option maxRecDepth 100000 in
theorem code_law06_x : ∀ cd, Try.f31.body = some cd → treeOf Try.prog [] ann_law06_x ct_law06_x Try.f31 cd = tree_law06_x := by
  intro cd h
  injection h with h
  subst h
  kernel_rfl
theorem fok_law06_x {g : List D → Option (List D)}  (h : ∀ ds outs, WfA ct_law06_x.ar ds → g ds = some outs → tree_law06_x.go (tblS []) (fun o => o = outs) ds fun _ _ => False) : FOk ct_law06_x g :=
  fok_of ann_law06_x Try.f31 _ .nil rfl rfl enter_law06_x (by decide) fun ds outs hw hg => by rw [code_law06_x  _ rfl]; exact h ds outs hw hg

def ct_ref06_structure : Ct := ⟨76, [.val (.str), .val (.row 24)], [(.st 23, false)]⟩
theorem enter_ref06_structure (args : Array Value) (w : World) : (callFunc ct_ref06_structure.f args).run Try.prog w = .ok (.enter ct_ref06_structure.f args) w := by kernel_rfl
def ann_ref06_structure : Ann := ⟨[0, 1, 4], []⟩
def tree_ref06_structure : Tree := (.leaf [(.set (.set (.set (.lit (.a [(.i 0), (.i 0), (.s ⟨#[]⟩), (.r [])])) 0 (.lit (.i 3))) 2 (.tok 0)) 3 (.tok 1))])
set_option maxRecDepth 100000 in
theorem code_ref06_structure : ∀ cd, Try.f76.body = some cd → treeOf Try.prog [] ann_ref06_structure ct_ref06_structure Try.f76 cd = tree_ref06_structure := by
  intro cd h
  injection h with h
  subst h
  kernel_rfl
theorem fok_ref06_structure {g : List D → Option (List D)}  (h : ∀ ds outs, WfA ct_ref06_structure.ar ds → g ds = some outs → tree_ref06_structure.go (tblS []) (fun o => o = outs) ds fun _ _ => False) : FOk ct_ref06_structure g :=
  fok_of ann_ref06_structure Try.f76 _ .nil rfl rfl enter_ref06_structure (by decide) fun ds outs hw hg => by rw [code_ref06_structure  _ rfl]; exact h ds outs hw hg

def ct_ref06_number : Ct := ⟨77, [.val (.int .i64)], [(.st 23, false)]⟩
theorem enter_ref06_number (args : Array Value) (w : World) : (callFunc ct_ref06_number.f args).run Try.prog w = .ok (.enter ct_ref06_number.f args) w := by kernel_rfl
def ann_ref06_number : Ann := ⟨[0, 2], []⟩
def tree_ref06_number : Tree := (.leaf [(.set (.set (.lit (.a [(.i 0), (.i 0), (.s ⟨#[]⟩), (.r [])])) 0 (.lit (.i 1))) 1 (.tok 0))])
set_option maxRecDepth 100000 in
theorem code_ref06_number : ∀ cd, Try.f77.body = some cd → treeOf Try.prog [] ann_ref06_number ct_ref06_number Try.f77 cd = tree_ref06_number := by
  intro cd h
  injection h with h
  subst h
  kernel_rfl
theorem fok_ref06_number {g : List D → Option (List D)}  (h : ∀ ds outs, WfA ct_ref06_number.ar ds → g ds = some outs → tree_ref06_number.go (tblS []) (fun o => o = outs) ds fun _ _ => False) : FOk ct_ref06_number g :=
  fok_of ann_ref06_number Try.f77 _ .nil rfl rfl enter_ref06_number (by decide) fun ds outs hw hg => by rw [code_ref06_number  _ rfl]; exact h ds outs hw hg

def ct_ref06_Syntax : Ct := ⟨44, [.val (.int .i64)], [(.st 23, false)]⟩
theorem enter_ref06_Syntax (args : Array Value) (w : World) : (callFunc ct_ref06_Syntax.f args).run Try.prog w = .ok (.enter ct_ref06_Syntax.f args) w := by kernel_rfl
def ct_ref06_ball : Ct := ⟨73, [.val (.st 23)], [(.st 23, false)]⟩
theorem enter_ref06_ball (args : Array Value) (w : World) : (callFunc ct_ref06_ball.f args).run Try.prog w = .ok (.enter ct_ref06_ball.f args) w := by kernel_rfl
def ann_ref06_Syntax : Ann := ⟨[0, 2, 4], []⟩
def tree_ref06_Syntax : Tree := (.br (.lt (.tok 0) (.lit (.i 0))) (.leaf [(.lit (.a [(.i 0), (.i 0), (.s ⟨#[]⟩), (.r [])]))]) (.need [(.ok 0 [(.tok 0)]), (.ok 1 [(.lit (.s ⟨#[115, 121, 110, 116, 97, 120, 95, 101, 114, 114, 111, 114]⟩)), (.row [(.call 0 0 [(.tok 0)])])]), (.ok 2 [(.call 1 0 [(.lit (.s ⟨#[115, 121, 110, 116, 97, 120, 95, 101, 114, 114, 111, 114]⟩)), (.row [(.call 0 0 [(.tok 0)])])])])] (.leaf [(.call 2 0 [(.call 1 0 [(.lit (.s ⟨#[115, 121, 110, 116, 97, 120, 95, 101, 114, 114, 111, 114]⟩)), (.row [(.call 0 0 [(.tok 0)])])])])])))
set_option maxRecDepth 100000 in
theorem code_ref06_Syntax (g0 g1 g2 : List D → Option (List D)) : ∀ cd, Try.f44.body = some cd → treeOf Try.prog [(ct_ref06_number, g0), (ct_ref06_structure, g1), (ct_ref06_ball, g2)] ann_ref06_Syntax ct_ref06_Syntax Try.f44 cd = tree_ref06_Syntax := by
  intro cd h
  injection h with h
  subst h
  kernel_rfl
theorem fok_ref06_Syntax {g0 g1 g2 : List D → Option (List D)} {g : List D → Option (List D)} (h0 : FOk ct_ref06_number g0) (h1 : FOk ct_ref06_structure g1) (h2 : FOk ct_ref06_ball g2) (h : ∀ ds outs, WfA ct_ref06_Syntax.ar ds → g ds = some outs → tree_ref06_Syntax.go (tblS [(ct_ref06_number, g0), (ct_ref06_structure, g1), (ct_ref06_ball, g2)]) (fun o => o = outs) ds fun _ _ => False) : FOk ct_ref06_Syntax g :=
  fok_of ann_ref06_Syntax Try.f44 _ (.cons h0 (.cons h1 (.cons h2 .nil))) rfl rfl enter_ref06_Syntax (by decide) fun ds outs hw hg => by rw [code_ref06_Syntax g0 g1 g2 _ rfl]; exact h ds outs hw hg

def ct_ref06_List : Ct := ⟨45, [.val (.st 23)], [(.row 24, false), (.st 23, false), (.bool, false)]⟩
theorem enter_ref06_List (args : Array Value) (w : World) : (callFunc ct_ref06_List.f args).run Try.prog w = .ok (.enter ct_ref06_List.f args) w := by kernel_rfl
def ct_ref03_Valid : Ct := ⟨23, [.val (.st 23)], [(.bool, false)]⟩
theorem enter_ref03_Valid (args : Array Value) (w : World) : (callFunc ct_ref03_Valid.f args).run Try.prog w = .ok (.enter ct_ref03_Valid.f args) w := by kernel_rfl
def ct_ref03_Elems : Ct := ⟨78, [.val (.st 23)], [(.row 24, false), (.st 23, false)]⟩
theorem enter_ref03_Elems (args : Array Value) (w : World) : (callFunc ct_ref03_Elems.f args).run Try.prog w = .ok (.enter ct_ref03_Elems.f args) w := by kernel_rfl
def ct_ref06_Inst : Ct := ⟨36, [], [(.st 23, false)]⟩
theorem enter_ref06_Inst (args : Array Value) (w : World) : (callFunc ct_ref06_Inst.f args).run Try.prog w = .ok (.enter ct_ref06_Inst.f args) w := by kernel_rfl
def ct_ref06_Type : Ct := ⟨38, [.val (.str), .val (.st 23)], [(.st 23, false)]⟩
theorem enter_ref06_Type (args : Array Value) (w : World) : (callFunc ct_ref06_Type.f args).run Try.prog w = .ok (.enter ct_ref06_Type.f args) w := by kernel_rfl
def ann_ref06_List : Ann := ⟨[0, 1, 2, 3, 4, 5, 6, 9, 18, 27], []⟩
def tree_ref06_List : Tree := (.need [(.ok 0 [(.tok 0)])] (.br (.not (.call 0 0 [(.tok 0)])) (.leaf [(.lit (.r [])), (.lit (.a [(.i 0), (.i 0), (.s ⟨#[]⟩), (.r [])])), (.lit (.b .false))]) (.need [(.ok 1 [(.tok 0)])] (.br (.eq (.fld (.call 1 1 [(.tok 0)]) 0) (.lit (.i 0))) (.need [(.ok 2 [])] (.leaf [(.lit (.r [])), (.call 2 0 []), (.lit (.b .false))])) (.br (.or (.not (.eq (.fld (.call 1 1 [(.tok 0)]) 0) (.lit (.i 2)))) (.not (.eq (.fld (.call 1 1 [(.tok 0)]) 2) (.lit (.s ⟨#[91, 93]⟩))))) (.need [(.ok 3 [(.lit (.s ⟨#[108, 105, 115, 116]⟩)), (.tok 0)])] (.leaf [(.lit (.r [])), (.call 3 0 [(.lit (.s ⟨#[108, 105, 115, 116]⟩)), (.tok 0)]), (.lit (.b .false))])) (.leaf [(.call 1 0 [(.tok 0)]), (.lit (.a [(.i 0), (.i 0), (.s ⟨#[]⟩), (.r [])])), (.lit (.b .true))]))))))
set_option maxRecDepth 100000 in
theorem code_ref06_List (g0 g1 g2 g3 : List D → Option (List D)) : ∀ cd, Try.f45.body = some cd → treeOf Try.prog [(ct_ref03_Valid, g0), (ct_ref03_Elems, g1), (ct_ref06_Inst, g2), (ct_ref06_Type, g3)] ann_ref06_List ct_ref06_List Try.f45 cd = tree_ref06_List := by
  intro cd h
  injection h with h
  subst h
  kernel_rfl
theorem fok_ref06_List {g0 g1 g2 g3 : List D → Option (List D)} {g : List D → Option (List D)} (h0 : FOk ct_ref03_Valid g0) (h1 : FOk ct_ref03_Elems g1) (h2 : FOk ct_ref06_Inst g2) (h3 : FOk ct_ref06_Type g3) (h : ∀ ds outs, WfA ct_ref06_List.ar ds → g ds = some outs → tree_ref06_List.go (tblS [(ct_ref03_Valid, g0), (ct_ref03_Elems, g1), (ct_ref06_Inst, g2), (ct_ref06_Type, g3)]) (fun o => o = outs) ds fun _ _ => False) : FOk ct_ref06_List g :=
  fok_of ann_ref06_List Try.f45 _ (.cons h0 (.cons h1 (.cons h2 (.cons h3 .nil)))) rfl rfl enter_ref06_List (by decide) fun ds outs hw hg => by rw [code_ref06_List g0 g1 g2 g3 _ rfl]; exact h ds outs hw hg

def ct_balls_Char : Ct := ⟨46, [.val (.st 23)], [(.int .i64, false), (.st 23, false), (.bool, false)]⟩
theorem enter_balls_Char (args : Array Value) (w : World) : (callFunc ct_balls_Char.f args).run Try.prog w = .ok (.enter ct_balls_Char.f args) w := by kernel_rfl
def ann_balls_Char : Ann := ⟨[0, 1, 2, 3, 4, 11, 21], []⟩
def tree_balls_Char : Tree := (.need [(.ok 0 [(.tok 0)])] (.br (.not (.call 0 1 [(.tok 0)])) (.leaf [(.lit (.i 0)), (.call 0 0 [(.tok 0)]), (.lit (.b .false))]) (.br (.or (.not (.eq (.fld (.tok 0) 0) (.lit (.i 2)))) (.not (.eq (.slen (.fld (.tok 0) 2)) (.lit (.i 1))))) (.need [(.ok 1 [(.lit (.s ⟨#[99, 104, 97, 114, 97, 99, 116, 101, 114]⟩)), (.tok 0)])] (.leaf [(.lit (.i 0)), (.call 1 0 [(.lit (.s ⟨#[99, 104, 97, 114, 97, 99, 116, 101, 114]⟩)), (.tok 0)]), (.lit (.b .false))])) (.need [(.lit (.b .true)), (.lt (.lit (.i 0)) (.slen (.fld (.tok 0) 2))), (.rng .i64 (.sget (.fld (.tok 0) 2) (.lit (.i 0))))] (.leaf [(.sget (.fld (.tok 0) 2) (.lit (.i 0))), (.lit (.a [(.i 0), (.i 0), (.s ⟨#[]⟩), (.r [])])), (.lit (.b .true))])))))
set_option maxRecDepth 100000 in
theorem code_balls_Char (g0 g1 : List D → Option (List D)) : ∀ cd, Try.f46.body = some cd → treeOf Try.prog [(ct_balls_bound, g0), (ct_balls_Type, g1)] ann_balls_Char ct_balls_Char Try.f46 cd = tree_balls_Char := by
  intro cd h
  injection h with h
  subst h
  kernel_rfl
theorem fok_balls_Char {g0 g1 : List D → Option (List D)} {g : List D → Option (List D)} (h0 : FOk ct_balls_bound g0) (h1 : FOk ct_balls_Type g1) (h : ∀ ds outs, WfA ct_balls_Char.ar ds → g ds = some outs → tree_balls_Char.go (tblS [(ct_balls_bound, g0), (ct_balls_Type, g1)]) (fun o => o = outs) ds fun _ _ => False) : FOk ct_balls_Char g :=
  fok_of ann_balls_Char Try.f46 _ (.cons h0 (.cons h1 .nil)) rfl rfl enter_balls_Char (by decide) fun ds outs hw hg => by rw [code_balls_Char g0 g1 _ rfl]; exact h ds outs hw hg

def ct_ref06_Char : Ct := ⟨47, [.val (.st 23)], [(.int .i64, false), (.st 23, false), (.bool, false)]⟩
theorem enter_ref06_Char (args : Array Value) (w : World) : (callFunc ct_ref06_Char.f args).run Try.prog w = .ok (.enter ct_ref06_Char.f args) w := by kernel_rfl
def ann_ref06_Char : Ann := ⟨[0, 1, 2, 3, 4, 7, 11, 21], []⟩
def tree_ref06_Char : Tree := (.need [(.ok 0 [(.tok 0)])] (.br (.not (.call 0 0 [(.tok 0)])) (.leaf [(.lit (.i 0)), (.lit (.a [(.i 0), (.i 0), (.s ⟨#[]⟩), (.r [])])), (.lit (.b .false))]) (.br (.eq (.fld (.tok 0) 0) (.lit (.i 0))) (.need [(.ok 1 [])] (.leaf [(.lit (.i 0)), (.call 1 0 []), (.lit (.b .false))])) (.br (.or (.not (.eq (.fld (.tok 0) 0) (.lit (.i 2)))) (.not (.eq (.slen (.fld (.tok 0) 2)) (.lit (.i 1))))) (.need [(.ok 2 [(.lit (.s ⟨#[99, 104, 97, 114, 97, 99, 116, 101, 114]⟩)), (.tok 0)])] (.leaf [(.lit (.i 0)), (.call 2 0 [(.lit (.s ⟨#[99, 104, 97, 114, 97, 99, 116, 101, 114]⟩)), (.tok 0)]), (.lit (.b .false))])) (.need [(.lit (.b .true)), (.lt (.lit (.i 0)) (.slen (.fld (.tok 0) 2))), (.rng .i64 (.sget (.fld (.tok 0) 2) (.lit (.i 0))))] (.leaf [(.sget (.fld (.tok 0) 2) (.lit (.i 0))), (.lit (.a [(.i 0), (.i 0), (.s ⟨#[]⟩), (.r [])])), (.lit (.b .true))]))))))
set_option maxRecDepth 100000 in
theorem code_ref06_Char (g0 g1 g2 : List D → Option (List D)) : ∀ cd, Try.f47.body = some cd → treeOf Try.prog [(ct_ref03_Valid, g0), (ct_ref06_Inst, g1), (ct_ref06_Type, g2)] ann_ref06_Char ct_ref06_Char Try.f47 cd = tree_ref06_Char := by
  intro cd h
  injection h with h
  subst h
  kernel_rfl
theorem fok_ref06_Char {g0 g1 g2 : List D → Option (List D)} {g : List D → Option (List D)} (h0 : FOk ct_ref03_Valid g0) (h1 : FOk ct_ref06_Inst g1) (h2 : FOk ct_ref06_Type g2) (h : ∀ ds outs, WfA ct_ref06_Char.ar ds → g ds = some outs → tree_ref06_Char.go (tblS [(ct_ref03_Valid, g0), (ct_ref06_Inst, g1), (ct_ref06_Type, g2)]) (fun o => o = outs) ds fun _ _ => False) : FOk ct_ref06_Char g :=
  fok_of ann_ref06_Char Try.f47 _ (.cons h0 (.cons h1 (.cons h2 .nil))) rfl rfl enter_ref06_Char (by decide) fun ds outs hw hg => by rw [code_ref06_Char g0 g1 g2 _ rfl]; exact h ds outs hw hg

def ct_balls_Code : Ct := ⟨48, [.val (.st 23)], [(.int .i64, false), (.st 23, false), (.bool, false)]⟩
theorem enter_balls_Code (args : Array Value) (w : World) : (callFunc ct_balls_Code.f args).run Try.prog w = .ok (.enter ct_balls_Code.f args) w := by kernel_rfl
def ann_balls_Code : Ann := ⟨[0, 1, 2, 3, 4, 5, 13, 20], []⟩
def tree_balls_Code : Tree := (.need [(.ok 0 [(.tok 0)])] (.br (.not (.call 0 2 [(.tok 0)])) (.leaf [(.lit (.i 0)), (.call 0 1 [(.tok 0)]), (.lit (.b .false))]) (.br (.or (.lt (.call 0 0 [(.tok 0)]) (.lit (.i 0))) (.lt (.lit (.i 255)) (.call 0 0 [(.tok 0)]))) (.need [(.ok 1 [(.lit (.s ⟨#[99, 104, 97, 114, 97, 99, 116, 101, 114, 95, 99, 111, 100, 101]⟩))])] (.leaf [(.lit (.i 0)), (.call 1 0 [(.lit (.s ⟨#[99, 104, 97, 114, 97, 99, 116, 101, 114, 95, 99, 111, 100, 101]⟩))]), (.lit (.b .false))])) (.leaf [(.call 0 0 [(.tok 0)]), (.lit (.a [(.i 0), (.i 0), (.s ⟨#[]⟩), (.r [])])), (.lit (.b .true))]))))
set_option maxRecDepth 100000 in
theorem code_balls_Code (g0 g1 : List D → Option (List D)) : ∀ cd, Try.f48.body = some cd → treeOf Try.prog [(ct_balls_Int, g0), (ct_balls_Representation, g1)] ann_balls_Code ct_balls_Code Try.f48 cd = tree_balls_Code := by
  intro cd h
  injection h with h
  subst h
  kernel_rfl
theorem fok_balls_Code {g0 g1 : List D → Option (List D)} {g : List D → Option (List D)} (h0 : FOk ct_balls_Int g0) (h1 : FOk ct_balls_Representation g1) (h : ∀ ds outs, WfA ct_balls_Code.ar ds → g ds = some outs → tree_balls_Code.go (tblS [(ct_balls_Int, g0), (ct_balls_Representation, g1)]) (fun o => o = outs) ds fun _ _ => False) : FOk ct_balls_Code g :=
  fok_of ann_balls_Code Try.f48 _ (.cons h0 (.cons h1 .nil)) rfl rfl enter_balls_Code (by decide) fun ds outs hw hg => by rw [code_balls_Code g0 g1 _ rfl]; exact h ds outs hw hg

def ct_ref06_Code : Ct := ⟨49, [.val (.st 23)], [(.int .i64, false), (.st 23, false), (.bool, false)]⟩
theorem enter_ref06_Code (args : Array Value) (w : World) : (callFunc ct_ref06_Code.f args).run Try.prog w = .ok (.enter ct_ref06_Code.f args) w := by kernel_rfl
def ct_ref06_Int : Ct := ⟨56, [.val (.st 23)], [(.int .i64, false), (.st 23, false), (.bool, false)]⟩
theorem enter_ref06_Int (args : Array Value) (w : World) : (callFunc ct_ref06_Int.f args).run Try.prog w = .ok (.enter ct_ref06_Int.f args) w := by kernel_rfl
def ct_ref06_Representation : Ct := ⟨42, [.val (.str)], [(.st 23, false)]⟩
theorem enter_ref06_Representation (args : Array Value) (w : World) : (callFunc ct_ref06_Representation.f args).run Try.prog w = .ok (.enter ct_ref06_Representation.f args) w := by kernel_rfl
def ann_ref06_Code : Ann := ⟨[0, 1, 2, 3, 4, 5, 6, 7, 15, 22], []⟩
def tree_ref06_Code : Tree := (.need [(.ok 0 [(.tok 0)])] (.br (.not (.call 0 2 [(.tok 0)])) (.leaf [(.lit (.i 0)), (.call 0 1 [(.tok 0)]), (.lit (.b .false))]) (.br (.or (.lt (.call 0 0 [(.tok 0)]) (.lit (.i 0))) (.lt (.lit (.i 255)) (.call 0 0 [(.tok 0)]))) (.need [(.ok 1 [(.lit (.s ⟨#[99, 104, 97, 114, 97, 99, 116, 101, 114, 95, 99, 111, 100, 101]⟩))])] (.leaf [(.lit (.i 0)), (.call 1 0 [(.lit (.s ⟨#[99, 104, 97, 114, 97, 99, 116, 101, 114, 95, 99, 111, 100, 101]⟩))]), (.lit (.b .false))])) (.leaf [(.call 0 0 [(.tok 0)]), (.lit (.a [(.i 0), (.i 0), (.s ⟨#[]⟩), (.r [])])), (.lit (.b .true))]))))
set_option maxRecDepth 100000 in
theorem code_ref06_Code (g0 g1 : List D → Option (List D)) : ∀ cd, Try.f49.body = some cd → treeOf Try.prog [(ct_ref06_Int, g0), (ct_ref06_Representation, g1)] ann_ref06_Code ct_ref06_Code Try.f49 cd = tree_ref06_Code := by
  intro cd h
  injection h with h
  subst h
  kernel_rfl
theorem fok_ref06_Code {g0 g1 : List D → Option (List D)} {g : List D → Option (List D)} (h0 : FOk ct_ref06_Int g0) (h1 : FOk ct_ref06_Representation g1) (h : ∀ ds outs, WfA ct_ref06_Code.ar ds → g ds = some outs → tree_ref06_Code.go (tblS [(ct_ref06_Int, g0), (ct_ref06_Representation, g1)]) (fun o => o = outs) ds fun _ _ => False) : FOk ct_ref06_Code g :=
  fok_of ann_ref06_Code Try.f49 _ (.cons h0 (.cons h1 .nil)) rfl rfl enter_ref06_Code (by decide) fun ds outs hw hg => by rw [code_ref06_Code g0 g1 _ rfl]; exact h ds outs hw hg

def ct_ref06_Indicator : Ct := ⟨50, [.val (.st 23)], [(.str, false), (.int .i64, false), (.st 23, false), (.bool, false)]⟩
theorem enter_ref06_Indicator (args : Array Value) (w : World) : (callFunc ct_ref06_Indicator.f args).run Try.prog w = .ok (.enter ct_ref06_Indicator.f args) w := by kernel_rfl
def ct_ref06_Domain : Ct := ⟨39, [.val (.str), .val (.st 23)], [(.st 23, false)]⟩
theorem enter_ref06_Domain (args : Array Value) (w : World) : (callFunc ct_ref06_Domain.f args).run Try.prog w = .ok (.enter ct_ref06_Domain.f args) w := by kernel_rfl
def ann_ref06_Indicator : Ann := ⟨[0, 1, 2, 3, 4, 5, 6, 7, 10, 14, 29, 47, 51, 56, 61, 66], []⟩
def tree_ref06_Indicator : Tree := (.need [(.ok 0 [(.tok 0)])] (.br (.not (.call 0 0 [(.tok 0)])) (.leaf [(.lit (.s ⟨#[]⟩)), (.lit (.i 0)), (.lit (.a [(.i 0), (.i 0), (.s ⟨#[]⟩), (.r [])])), (.lit (.b .false))]) (.br (.eq (.fld (.tok 0) 0) (.lit (.i 0))) (.need [(.ok 1 [])] (.leaf [(.lit (.s ⟨#[]⟩)), (.lit (.i 0)), (.call 1 0 []), (.lit (.b .false))])) (.br (.or (.or (.not (.eq (.fld (.tok 0) 0) (.lit (.i 3)))) (.not (.eq (.fld (.tok 0) 2) (.lit (.s ⟨#[47]⟩))))) (.not (.eq (.len (.fld (.tok 0) 3)) (.lit (.i 2))))) (.need [(.ok 2 [(.lit (.s ⟨#[112, 114, 101, 100, 105, 99, 97, 116, 101, 95, 105, 110, 100, 105, 99, 97, 116, 111, 114]⟩)), (.tok 0)])] (.leaf [(.lit (.s ⟨#[]⟩)), (.lit (.i 0)), (.call 2 0 [(.lit (.s ⟨#[112, 114, 101, 100, 105, 99, 97, 116, 101, 95, 105, 110, 100, 105, 99, 97, 116, 111, 114]⟩)), (.tok 0)]), (.lit (.b .false))])) (.need [(.lit (.b .true)), (.lt (.lit (.i 1)) (.len (.fld (.tok 0) 3))), (.lit (.b .true)), (.lt (.lit (.i 0)) (.len (.fld (.tok 0) 3)))] (.br (.or (.eq (.fld (.get (.fld (.tok 0) 3) (.lit (.i 0))) 0) (.lit (.i 0))) (.eq (.fld (.get (.fld (.tok 0) 3) (.lit (.i 1))) 0) (.lit (.i 0)))) (.need [(.ok 1 [])] (.leaf [(.lit (.s ⟨#[]⟩)), (.lit (.i 0)), (.call 1 0 []), (.lit (.b .false))])) (.br (.not (.eq (.fld (.get (.fld (.tok 0) 3) (.lit (.i 0))) 0) (.lit (.i 2)))) (.need [(.ok 2 [(.lit (.s ⟨#[97, 116, 111, 109]⟩)), (.get (.fld (.tok 0) 3) (.lit (.i 0)))])] (.leaf [(.lit (.s ⟨#[]⟩)), (.lit (.i 0)), (.call 2 0 [(.lit (.s ⟨#[97, 116, 111, 109]⟩)), (.get (.fld (.tok 0) 3) (.lit (.i 0)))]), (.lit (.b .false))])) (.br (.not (.eq (.fld (.get (.fld (.tok 0) 3) (.lit (.i 1))) 0) (.lit (.i 1)))) (.need [(.ok 2 [(.lit (.s ⟨#[105, 110, 116, 101, 103, 101, 114]⟩)), (.get (.fld (.tok 0) 3) (.lit (.i 1)))])] (.leaf [(.lit (.s ⟨#[]⟩)), (.lit (.i 0)), (.call 2 0 [(.lit (.s ⟨#[105, 110, 116, 101, 103, 101, 114]⟩)), (.get (.fld (.tok 0) 3) (.lit (.i 1)))]), (.lit (.b .false))])) (.br (.lt (.fld (.get (.fld (.tok 0) 3) (.lit (.i 1))) 1) (.lit (.i 0))) (.need [(.ok 3 [(.lit (.s ⟨#[110, 111, 116, 95, 108, 101, 115, 115, 95, 116, 104, 97, 110, 95, 122, 101, 114, 111]⟩)), (.get (.fld (.tok 0) 3) (.lit (.i 1)))])] (.leaf [(.lit (.s ⟨#[]⟩)), (.lit (.i 0)), (.call 3 0 [(.lit (.s ⟨#[110, 111, 116, 95, 108, 101, 115, 115, 95, 116, 104, 97, 110, 95, 122, 101, 114, 111]⟩)), (.get (.fld (.tok 0) 3) (.lit (.i 1)))]), (.lit (.b .false))])) (.br (.lt (.lit (.i 8)) (.fld (.get (.fld (.tok 0) 3) (.lit (.i 1))) 1)) (.need [(.ok 4 [(.lit (.s ⟨#[109, 97, 120, 95, 97, 114, 105, 116, 121]⟩))])] (.leaf [(.lit (.s ⟨#[]⟩)), (.lit (.i 0)), (.call 4 0 [(.lit (.s ⟨#[109, 97, 120, 95, 97, 114, 105, 116, 121]⟩))]), (.lit (.b .false))])) (.leaf [(.fld (.get (.fld (.tok 0) 3) (.lit (.i 0))) 2), (.fld (.get (.fld (.tok 0) 3) (.lit (.i 1))) 1), (.lit (.a [(.i 0), (.i 0), (.s ⟨#[]⟩), (.r [])])), (.lit (.b .true))])))))))))))
set_option maxRecDepth 100000 in
theorem code_ref06_Indicator (g0 g1 g2 g3 g4 : List D → Option (List D)) : ∀ cd, Try.f50.body = some cd → treeOf Try.prog [(ct_ref03_Valid, g0), (ct_ref06_Inst, g1), (ct_ref06_Type, g2), (ct_ref06_Domain, g3), (ct_ref06_Representation, g4)] ann_ref06_Indicator ct_ref06_Indicator Try.f50 cd = tree_ref06_Indicator := by
  intro cd h
  injection h with h
  subst h
  kernel_rfl
theorem fok_ref06_Indicator {g0 g1 g2 g3 g4 : List D → Option (List D)} {g : List D → Option (List D)} (h0 : FOk ct_ref03_Valid g0) (h1 : FOk ct_ref06_Inst g1) (h2 : FOk ct_ref06_Type g2) (h3 : FOk ct_ref06_Domain g3) (h4 : FOk ct_ref06_Representation g4) (h : ∀ ds outs, WfA ct_ref06_Indicator.ar ds → g ds = some outs → tree_ref06_Indicator.go (tblS [(ct_ref03_Valid, g0), (ct_ref06_Inst, g1), (ct_ref06_Type, g2), (ct_ref06_Domain, g3), (ct_ref06_Representation, g4)]) (fun o => o = outs) ds fun _ _ => False) : FOk ct_ref06_Indicator g :=
  fok_of ann_ref06_Indicator Try.f50 _ (.cons h0 (.cons h1 (.cons h2 (.cons h3 (.cons h4 .nil))))) rfl rfl enter_ref06_Indicator (by decide) fun ds outs hw hg => by rw [code_ref06_Indicator g0 g1 g2 g3 g4 _ rfl]; exact h ds outs hw hg

def ct_law06_n : Ct := ⟨52, [.val (.int .i64)], [(.st 23, false)]⟩
theorem enter_law06_n (args : Array Value) (w : World) : (callFunc ct_law06_n.f args).run Try.prog w = .ok (.enter ct_law06_n.f args) w := by kernel_rfl
def ann_law06_n : Ann := ⟨[0, 2], []⟩
def tree_law06_n : Tree := (.leaf [(.set (.set (.lit (.a [(.i 0), (.i 0), (.s ⟨#[]⟩), (.r [])])) 0 (.lit (.i 1))) 1 (.tok 0))])
set_option maxRecDepth 100000 in
theorem code_law06_n : ∀ cd, Try.f52.body = some cd → treeOf Try.prog [] ann_law06_n ct_law06_n Try.f52 cd = tree_law06_n := by
  intro cd h
  injection h with h
  subst h
  kernel_rfl
theorem fok_law06_n {g : List D → Option (List D)}  (h : ∀ ds outs, WfA ct_law06_n.ar ds → g ds = some outs → tree_law06_n.go (tblS []) (fun o => o = outs) ds fun _ _ => False) : FOk ct_law06_n g :=
  fok_of ann_law06_n Try.f52 _ .nil rfl rfl enter_law06_n (by decide) fun ds outs hw hg => by rw [code_law06_n  _ rfl]; exact h ds outs hw hg

def ct_law06_BallsLists : Ct := ⟨4, [.val (.row 24), .val (.st 23)], [(.bool, false)]⟩
theorem enter_law06_BallsLists (args : Array Value) (w : World) : (callFunc ct_law06_BallsLists.f args).run Try.prog w = .ok (.enter ct_law06_BallsLists.f args) w := by kernel_rfl
def ct_ref03_List : Ct := ⟨16, [.val (.row 24), .val (.st 23)], [(.st 23, false)]⟩
theorem enter_ref03_List (args : Array Value) (w : World) : (callFunc ct_ref03_List.f args).run Try.prog w = .ok (.enter ct_ref03_List.f args) w := by kernel_rfl
def ct_law06_awake : Ct := ⟨15, [], [(.bool, false)]⟩
theorem enter_law06_awake (args : Array Value) (w : World) : (callFunc ct_law06_awake.f args).run Try.prog w = .ok (.enter ct_law06_awake.f args) w := by kernel_rfl
def ct_ref03_SameAll : Ct := ⟨20, [.val (.row 24), .val (.row 24)], [(.bool, false)]⟩
theorem enter_ref03_SameAll (args : Array Value) (w : World) : (callFunc ct_ref03_SameAll.f args).run Try.prog w = .ok (.enter ct_ref03_SameAll.f args) w := by kernel_rfl
def ct_ref03_Size : Ct := ⟨21, [.val (.st 23)], [(.int .i64, false)]⟩
theorem enter_ref03_Size (args : Array Value) (w : World) : (callFunc ct_ref03_Size.f args).run Try.prog w = .ok (.enter ct_ref03_Size.f args) w := by kernel_rfl
def ann_law06_BallsLists : Ann := ⟨[0, 1, 3, 4, 5, 6, 7, 8, 9, 10, 11, 12, 24, 32, 52, 70, 93, 94, 120], []⟩
def tree_law06_BallsLists : Tree := (.need [(.ok 0 [(.tok 0), (.tok 1)])] (.br (.or (.eq (.len (.tok 0)) (.lit (.i 0))) (.not (.eq (.len (.fld (.call 0 0 [(.tok 0), (.tok 1)]) 3)) (.lit (.i 2))))) (.need [(.ok 1 [])] (.leaf [(.call 1 0 [])])) (.need [(.ok 2 [(.call 0 0 [(.tok 0), (.tok 1)])])] (.br (.eq (.fld (.tok 1) 0) (.lit (.i 0))) (.need [(.imp (.and (.and (.not (.call 2 2 [(.call 0 0 [(.tok 0), (.tok 1)])])) (.eq (.len (.call 2 0 [(.call 0 0 [(.tok 0), (.tok 1)])])) (.lit (.i 0)))) (.call 5 0 [(.call 2 1 [(.call 0 0 [(.tok 0), (.tok 1)])]), (.call 4 0 [(.call 3 0 [(.lit (.s ⟨#[105, 110, 115, 116, 97, 110, 116, 105, 97, 116, 105, 111, 110, 95, 101, 114, 114, 111, 114]⟩))])])])) (.ok 1 [])), (.imp (.and (.not (.call 2 2 [(.call 0 0 [(.tok 0), (.tok 1)])])) (.eq (.len (.call 2 0 [(.call 0 0 [(.tok 0), (.tok 1)])])) (.lit (.i 0)))) (.ok 5 [(.call 2 1 [(.call 0 0 [(.tok 0), (.tok 1)])]), (.call 4 0 [(.call 3 0 [(.lit (.s ⟨#[105, 110, 115, 116, 97, 110, 116, 105, 97, 116, 105, 111, 110, 95, 101, 114, 114, 111, 114]⟩))])])])), (.imp (.and (.not (.call 2 2 [(.call 0 0 [(.tok 0), (.tok 1)])])) (.eq (.len (.call 2 0 [(.call 0 0 [(.tok 0), (.tok 1)])])) (.lit (.i 0)))) (.ok 4 [(.call 3 0 [(.lit (.s ⟨#[105, 110, 115, 116, 97, 110, 116, 105, 97, 116, 105, 111, 110, 95, 101, 114, 114, 111, 114]⟩))])])), (.imp (.and (.not (.call 2 2 [(.call 0 0 [(.tok 0), (.tok 1)])])) (.eq (.len (.call 2 0 [(.call 0 0 [(.tok 0), (.tok 1)])])) (.lit (.i 0)))) (.ok 3 [(.lit (.s ⟨#[105, 110, 115, 116, 97, 110, 116, 105, 97, 116, 105, 111, 110, 95, 101, 114, 114, 111, 114]⟩))]))] (.leaf [(.and (.and (.and (.not (.call 2 2 [(.call 0 0 [(.tok 0), (.tok 1)])])) (.eq (.len (.call 2 0 [(.call 0 0 [(.tok 0), (.tok 1)])])) (.lit (.i 0)))) (.call 5 0 [(.call 2 1 [(.call 0 0 [(.tok 0), (.tok 1)])]), (.call 4 0 [(.call 3 0 [(.lit (.s ⟨#[105, 110, 115, 116, 97, 110, 116, 105, 97, 116, 105, 111, 110, 95, 101, 114, 114, 111, 114]⟩))])])])) (.call 1 0 []))])) (.need [(.ok 5 [(.tok 1), (.call 3 0 [(.lit (.s ⟨#[91, 93]⟩))])]), (.ok 3 [(.lit (.s ⟨#[91, 93]⟩))])] (.br (.call 5 0 [(.tok 1), (.call 3 0 [(.lit (.s ⟨#[91, 93]⟩))])]) (.need [(.imp (.call 2 2 [(.call 0 0 [(.tok 0), (.tok 1)])]) (.ok 6 [(.call 2 0 [(.call 0 0 [(.tok 0), (.tok 1)])]), (.tok 0)])), (.imp (.and (.call 2 2 [(.call 0 0 [(.tok 0), (.tok 1)])]) (.call 6 0 [(.call 2 0 [(.call 0 0 [(.tok 0), (.tok 1)])]), (.tok 0)])) (.ok 5 [(.call 2 1 [(.call 0 0 [(.tok 0), (.tok 1)])]), (.lit (.a [(.i 0), (.i 0), (.s ⟨#[]⟩), (.r [])]))])), (.imp (.and (.and (.call 2 2 [(.call 0 0 [(.tok 0), (.tok 1)])]) (.call 6 0 [(.call 2 0 [(.call 0 0 [(.tok 0), (.tok 1)])]), (.tok 0)])) (.call 5 0 [(.call 2 1 [(.call 0 0 [(.tok 0), (.tok 1)])]), (.lit (.a [(.i 0), (.i 0), (.s ⟨#[]⟩), (.r [])]))])) (.ok 1 []))] (.leaf [(.and (.and (.and (.call 2 2 [(.call 0 0 [(.tok 0), (.tok 1)])]) (.call 6 0 [(.call 2 0 [(.call 0 0 [(.tok 0), (.tok 1)])]), (.tok 0)])) (.call 5 0 [(.call 2 1 [(.call 0 0 [(.tok 0), (.tok 1)])]), (.lit (.a [(.i 0), (.i 0), (.s ⟨#[]⟩), (.r [])]))])) (.call 1 0 []))])) (.br (.and (.and (.eq (.fld (.tok 1) 0) (.lit (.i 3))) (.eq (.fld (.tok 1) 2) (.lit (.s ⟨#[46]⟩)))) (.eq (.len (.fld (.tok 1) 3)) (.lit (.i 2)))) (.need [(.ok 2 [(.tok 1)])] (.br (.not (.eq (.call 2 2 [(.call 0 0 [(.tok 0), (.tok 1)])]) (.call 2 2 [(.tok 1)]))) (.leaf [(.lit (.b .false))]) (.br (.call 2 2 [(.call 0 0 [(.tok 0), (.tok 1)])]) (.need [(.le (.len (.tok 0)) (.lit (.i 34359738368))), (.le (.add (.len (.app (.lit (.r [])) (.tok 0))) (.len (.call 2 0 [(.tok 1)]))) (.lit (.i 34359738368))), (.ok 6 [(.call 2 0 [(.call 0 0 [(.tok 0), (.tok 1)])]), (.app (.app (.lit (.r [])) (.tok 0)) (.call 2 0 [(.tok 1)]))]), (.imp (.call 6 0 [(.call 2 0 [(.call 0 0 [(.tok 0), (.tok 1)])]), (.app (.app (.lit (.r [])) (.tok 0)) (.call 2 0 [(.tok 1)]))]) (.ok 1 []))] (.leaf [(.and (.call 6 0 [(.call 2 0 [(.call 0 0 [(.tok 0), (.tok 1)])]), (.app (.app (.lit (.r [])) (.tok 0)) (.call 2 0 [(.tok 1)]))]) (.call 1 0 []))])) (.need [(.imp (.eq (.call 5 0 [(.call 2 1 [(.call 0 0 [(.tok 0), (.tok 1)])]), (.call 4 0 [(.call 3 0 [(.lit (.s ⟨#[105, 110, 115, 116, 97, 110, 116, 105, 97, 116, 105, 111, 110, 95, 101, 114, 114, 111, 114]⟩))])])]) (.call 5 0 [(.call 2 1 [(.tok 1)]), (.call 4 0 [(.call 3 0 [(.lit (.s ⟨#[105, 110, 115, 116, 97, 110, 116, 105, 97, 116, 105, 111, 110, 95, 101, 114, 114, 111, 114]⟩))])])])) (.ok 1 [])), (.ok 5 [(.call 2 1 [(.tok 1)]), (.call 4 0 [(.call 3 0 [(.lit (.s ⟨#[105, 110, 115, 116, 97, 110, 116, 105, 97, 116, 105, 111, 110, 95, 101, 114, 114, 111, 114]⟩))])])]), (.ok 4 [(.call 3 0 [(.lit (.s ⟨#[105, 110, 115, 116, 97, 110, 116, 105, 97, 116, 105, 111, 110, 95, 101, 114, 114, 111, 114]⟩))])]), (.ok 3 [(.lit (.s ⟨#[105, 110, 115, 116, 97, 110, 116, 105, 97, 116, 105, 111, 110, 95, 101, 114, 114, 111, 114]⟩))]), (.ok 5 [(.call 2 1 [(.call 0 0 [(.tok 0), (.tok 1)])]), (.call 4 0 [(.call 3 0 [(.lit (.s ⟨#[105, 110, 115, 116, 97, 110, 116, 105, 97, 116, 105, 111, 110, 95, 101, 114, 114, 111, 114]⟩))])])]), (.ok 4 [(.call 3 0 [(.lit (.s ⟨#[105, 110, 115, 116, 97, 110, 116, 105, 97, 116, 105, 111, 110, 95, 101, 114, 114, 111, 114]⟩))])]), (.ok 3 [(.lit (.s ⟨#[105, 110, 115, 116, 97, 110, 116, 105, 97, 116, 105, 111, 110, 95, 101, 114, 114, 111, 114]⟩))])] (.leaf [(.and (.eq (.call 5 0 [(.call 2 1 [(.call 0 0 [(.tok 0), (.tok 1)])]), (.call 4 0 [(.call 3 0 [(.lit (.s ⟨#[105, 110, 115, 116, 97, 110, 116, 105, 97, 116, 105, 111, 110, 95, 101, 114, 114, 111, 114]⟩))])])]) (.call 5 0 [(.call 2 1 [(.tok 1)]), (.call 4 0 [(.call 3 0 [(.lit (.s ⟨#[105, 110, 115, 116, 97, 110, 116, 105, 97, 116, 105, 111, 110, 95, 101, 114, 114, 111, 114]⟩))])])])) (.call 1 0 []))]))))) (.need [(.ok 7 [(.call 0 0 [(.tok 0), (.tok 1)])]), (.rng .i64 (.add (.call 7 0 [(.call 0 0 [(.tok 0), (.tok 1)])]) (.lit (.i 4))))] (.br (.lt (.lit (.i 2000)) (.add (.call 7 0 [(.call 0 0 [(.tok 0), (.tok 1)])]) (.lit (.i 4)))) (.need [(.ok 3 [(.lit (.s ⟨#[46, 46, 46]⟩))])] (.need [(.imp (.and (.and (.not (.call 2 2 [(.call 0 0 [(.tok 0), (.tok 1)])])) (.eq (.len (.call 2 0 [(.call 0 0 [(.tok 0), (.tok 1)])])) (.lit (.i 0)))) (.call 5 0 [(.call 2 1 [(.call 0 0 [(.tok 0), (.tok 1)])]), (.call 4 0 [(.call 8 0 [(.lit (.s ⟨#[116, 121, 112, 101, 95, 101, 114, 114, 111, 114]⟩)), (.row [(.call 3 0 [(.lit (.s ⟨#[108, 105, 115, 116]⟩))]), (.call 3 0 [(.lit (.s ⟨#[46, 46, 46]⟩))])])])])])) (.ok 1 [])), (.imp (.and (.not (.call 2 2 [(.call 0 0 [(.tok 0), (.tok 1)])])) (.eq (.len (.call 2 0 [(.call 0 0 [(.tok 0), (.tok 1)])])) (.lit (.i 0)))) (.ok 5 [(.call 2 1 [(.call 0 0 [(.tok 0), (.tok 1)])]), (.call 4 0 [(.call 8 0 [(.lit (.s ⟨#[116, 121, 112, 101, 95, 101, 114, 114, 111, 114]⟩)), (.row [(.call 3 0 [(.lit (.s ⟨#[108, 105, 115, 116]⟩))]), (.call 3 0 [(.lit (.s ⟨#[46, 46, 46]⟩))])])])])])), (.imp (.and (.not (.call 2 2 [(.call 0 0 [(.tok 0), (.tok 1)])])) (.eq (.len (.call 2 0 [(.call 0 0 [(.tok 0), (.tok 1)])])) (.lit (.i 0)))) (.ok 4 [(.call 8 0 [(.lit (.s ⟨#[116, 121, 112, 101, 95, 101, 114, 114, 111, 114]⟩)), (.row [(.call 3 0 [(.lit (.s ⟨#[108, 105, 115, 116]⟩))]), (.call 3 0 [(.lit (.s ⟨#[46, 46, 46]⟩))])])])])), (.imp (.and (.not (.call 2 2 [(.call 0 0 [(.tok 0), (.tok 1)])])) (.eq (.len (.call 2 0 [(.call 0 0 [(.tok 0), (.tok 1)])])) (.lit (.i 0)))) (.ok 8 [(.lit (.s ⟨#[116, 121, 112, 101, 95, 101, 114, 114, 111, 114]⟩)), (.row [(.call 3 0 [(.lit (.s ⟨#[108, 105, 115, 116]⟩))]), (.call 3 0 [(.lit (.s ⟨#[46, 46, 46]⟩))])])])), (.imp (.and (.not (.call 2 2 [(.call 0 0 [(.tok 0), (.tok 1)])])) (.eq (.len (.call 2 0 [(.call 0 0 [(.tok 0), (.tok 1)])])) (.lit (.i 0)))) (.ok 3 [(.lit (.s ⟨#[108, 105, 115, 116]⟩))])), (.imp (.and (.not (.call 2 2 [(.call 0 0 [(.tok 0), (.tok 1)])])) (.eq (.len (.call 2 0 [(.call 0 0 [(.tok 0), (.tok 1)])])) (.lit (.i 0)))) (.ok 3 [(.lit (.s ⟨#[108, 105, 115, 116]⟩))]))] (.leaf [(.and (.and (.and (.not (.call 2 2 [(.call 0 0 [(.tok 0), (.tok 1)])])) (.eq (.len (.call 2 0 [(.call 0 0 [(.tok 0), (.tok 1)])])) (.lit (.i 0)))) (.call 5 0 [(.call 2 1 [(.call 0 0 [(.tok 0), (.tok 1)])]), (.call 4 0 [(.call 8 0 [(.lit (.s ⟨#[116, 121, 112, 101, 95, 101, 114, 114, 111, 114]⟩)), (.row [(.call 3 0 [(.lit (.s ⟨#[108, 105, 115, 116]⟩))]), (.call 3 0 [(.lit (.s ⟨#[46, 46, 46]⟩))])])])])])) (.call 1 0 []))]))) (.need [(.imp (.and (.and (.not (.call 2 2 [(.call 0 0 [(.tok 0), (.tok 1)])])) (.eq (.len (.call 2 0 [(.call 0 0 [(.tok 0), (.tok 1)])])) (.lit (.i 0)))) (.call 5 0 [(.call 2 1 [(.call 0 0 [(.tok 0), (.tok 1)])]), (.call 4 0 [(.call 8 0 [(.lit (.s ⟨#[116, 121, 112, 101, 95, 101, 114, 114, 111, 114]⟩)), (.row [(.call 3 0 [(.lit (.s ⟨#[108, 105, 115, 116]⟩))]), (.call 0 0 [(.tok 0), (.tok 1)])])])])])) (.ok 1 [])), (.imp (.and (.not (.call 2 2 [(.call 0 0 [(.tok 0), (.tok 1)])])) (.eq (.len (.call 2 0 [(.call 0 0 [(.tok 0), (.tok 1)])])) (.lit (.i 0)))) (.ok 5 [(.call 2 1 [(.call 0 0 [(.tok 0), (.tok 1)])]), (.call 4 0 [(.call 8 0 [(.lit (.s ⟨#[116, 121, 112, 101, 95, 101, 114, 114, 111, 114]⟩)), (.row [(.call 3 0 [(.lit (.s ⟨#[108, 105, 115, 116]⟩))]), (.call 0 0 [(.tok 0), (.tok 1)])])])])])), (.imp (.and (.not (.call 2 2 [(.call 0 0 [(.tok 0), (.tok 1)])])) (.eq (.len (.call 2 0 [(.call 0 0 [(.tok 0), (.tok 1)])])) (.lit (.i 0)))) (.ok 4 [(.call 8 0 [(.lit (.s ⟨#[116, 121, 112, 101, 95, 101, 114, 114, 111, 114]⟩)), (.row [(.call 3 0 [(.lit (.s ⟨#[108, 105, 115, 116]⟩))]), (.call 0 0 [(.tok 0), (.tok 1)])])])])), (.imp (.and (.not (.call 2 2 [(.call 0 0 [(.tok 0), (.tok 1)])])) (.eq (.len (.call 2 0 [(.call 0 0 [(.tok 0), (.tok 1)])])) (.lit (.i 0)))) (.ok 8 [(.lit (.s ⟨#[116, 121, 112, 101, 95, 101, 114, 114, 111, 114]⟩)), (.row [(.call 3 0 [(.lit (.s ⟨#[108, 105, 115, 116]⟩))]), (.call 0 0 [(.tok 0), (.tok 1)])])])), (.imp (.and (.not (.call 2 2 [(.call 0 0 [(.tok 0), (.tok 1)])])) (.eq (.len (.call 2 0 [(.call 0 0 [(.tok 0), (.tok 1)])])) (.lit (.i 0)))) (.ok 3 [(.lit (.s ⟨#[108, 105, 115, 116]⟩))])), (.imp (.and (.not (.call 2 2 [(.call 0 0 [(.tok 0), (.tok 1)])])) (.eq (.len (.call 2 0 [(.call 0 0 [(.tok 0), (.tok 1)])])) (.lit (.i 0)))) (.ok 3 [(.lit (.s ⟨#[108, 105, 115, 116]⟩))]))] (.leaf [(.and (.and (.and (.not (.call 2 2 [(.call 0 0 [(.tok 0), (.tok 1)])])) (.eq (.len (.call 2 0 [(.call 0 0 [(.tok 0), (.tok 1)])])) (.lit (.i 0)))) (.call 5 0 [(.call 2 1 [(.call 0 0 [(.tok 0), (.tok 1)])]), (.call 4 0 [(.call 8 0 [(.lit (.s ⟨#[116, 121, 112, 101, 95, 101, 114, 114, 111, 114]⟩)), (.row [(.call 3 0 [(.lit (.s ⟨#[108, 105, 115, 116]⟩))]), (.call 0 0 [(.tok 0), (.tok 1)])])])])])) (.call 1 0 []))])))))))))))
set_option maxRecDepth 100000 in
theorem code_law06_BallsLists (g0 g1 g2 g3 g4 g5 g6 g7 g8 : List D → Option (List D)) : ∀ cd, Try.f4.body = some cd → treeOf Try.prog [(ct_ref03_List, g0), (ct_law06_awake, g1), (ct_balls_List, g2), (ct_law06_a, g3), (ct_law06_error1, g4), (ct_law06_same, g5), (ct_ref03_SameAll, g6), (ct_ref03_Size, g7), (ct_law06_f, g8)] ann_law06_BallsLists ct_law06_BallsLists Try.f4 cd = tree_law06_BallsLists := by
  intro cd h
  injection h with h
  subst h
  kernel_rfl
theorem fok_law06_BallsLists {g0 g1 g2 g3 g4 g5 g6 g7 g8 : List D → Option (List D)} {g : List D → Option (List D)} (h0 : FOk ct_ref03_List g0) (h1 : FOk ct_law06_awake g1) (h2 : FOk ct_balls_List g2) (h3 : FOk ct_law06_a g3) (h4 : FOk ct_law06_error1 g4) (h5 : FOk ct_law06_same g5) (h6 : FOk ct_ref03_SameAll g6) (h7 : FOk ct_ref03_Size g7) (h8 : FOk ct_law06_f g8) (h : ∀ ds outs, WfA ct_law06_BallsLists.ar ds → g ds = some outs → tree_law06_BallsLists.go (tblS [(ct_ref03_List, g0), (ct_law06_awake, g1), (ct_balls_List, g2), (ct_law06_a, g3), (ct_law06_error1, g4), (ct_law06_same, g5), (ct_ref03_SameAll, g6), (ct_ref03_Size, g7), (ct_law06_f, g8)]) (fun o => o = outs) ds fun _ _ => False) : FOk ct_law06_BallsLists g :=
  fok_of ann_law06_BallsLists Try.f4 _ (.cons h0 (.cons h1 (.cons h2 (.cons h3 (.cons h4 (.cons h5 (.cons h6 (.cons h7 (.cons h8 .nil))))))))) rfl rfl enter_law06_BallsLists (by decide) fun ds outs hw hg => by rw [code_law06_BallsLists g0 g1 g2 g3 g4 g5 g6 g7 g8 _ rfl]; exact h ds outs hw hg

def ct_law06_BallsIndicators : Ct := ⟨5, [.val (.st 23), .val (.st 23)], [(.bool, false)]⟩
theorem enter_law06_BallsIndicators (args : Array Value) (w : World) : (callFunc ct_law06_BallsIndicators.f args).run Try.prog w = .ok (.enter ct_law06_BallsIndicators.f args) w := by kernel_rfl
def ann_law06_BallsIndicators : Ann := ⟨[0, 1, 2, 3, 4, 5, 6, 7, 8, 9, 10, 17, 49, 58, 64, 70, 79], []⟩
def tree_law06_BallsIndicators : Tree := (.need [(.ok 0 [(.lit (.s ⟨#[47]⟩)), (.row [(.tok 0), (.tok 1)])])] (.need [(.ok 1 [(.call 0 0 [(.lit (.s ⟨#[47]⟩)), (.row [(.tok 0), (.tok 1)])])])] (.br (.not (.call 1 0 [(.call 0 0 [(.lit (.s ⟨#[47]⟩)), (.row [(.tok 0), (.tok 1)])])])) (.need [(.ok 2 [])] (.leaf [(.call 2 0 [])])) (.need [(.ok 3 [(.call 0 0 [(.lit (.s ⟨#[47]⟩)), (.row [(.tok 0), (.tok 1)])])])] (.need [(.ok 4 [(.lit (.s ⟨#[105, 110, 115, 116, 97, 110, 116, 105, 97, 116, 105, 111, 110, 95, 101, 114, 114, 111, 114]⟩))]), (.ok 5 [(.call 4 0 [(.lit (.s ⟨#[105, 110, 115, 116, 97, 110, 116, 105, 97, 116, 105, 111, 110, 95, 101, 114, 114, 111, 114]⟩))])])] (.br (.or (.eq (.fld (.tok 0) 0) (.lit (.i 0))) (.eq (.fld (.tok 1) 0) (.lit (.i 0)))) (.need [(.imp (.and (.and (.not (.call 3 3 [(.call 0 0 [(.lit (.s ⟨#[47]⟩)), (.row [(.tok 0), (.tok 1)])])])) (.eq (.call 3 0 [(.call 0 0 [(.lit (.s ⟨#[47]⟩)), (.row [(.tok 0), (.tok 1)])])]) (.lit (.s ⟨#[]⟩)))) (.eq (.call 3 1 [(.call 0 0 [(.lit (.s ⟨#[47]⟩)), (.row [(.tok 0), (.tok 1)])])]) (.lit (.i 0)))) (.ok 7 [(.call 3 2 [(.call 0 0 [(.lit (.s ⟨#[47]⟩)), (.row [(.tok 0), (.tok 1)])])]), (.call 5 0 [(.call 4 0 [(.lit (.s ⟨#[105, 110, 115, 116, 97, 110, 116, 105, 97, 116, 105, 111, 110, 95, 101, 114, 114, 111, 114]⟩))])])])), (.imp (.and (.and (.and (.not (.call 3 3 [(.call 0 0 [(.lit (.s ⟨#[47]⟩)), (.row [(.tok 0), (.tok 1)])])])) (.eq (.call 3 0 [(.call 0 0 [(.lit (.s ⟨#[47]⟩)), (.row [(.tok 0), (.tok 1)])])]) (.lit (.s ⟨#[]⟩)))) (.eq (.call 3 1 [(.call 0 0 [(.lit (.s ⟨#[47]⟩)), (.row [(.tok 0), (.tok 1)])])]) (.lit (.i 0)))) (.call 7 0 [(.call 3 2 [(.call 0 0 [(.lit (.s ⟨#[47]⟩)), (.row [(.tok 0), (.tok 1)])])]), (.call 5 0 [(.call 4 0 [(.lit (.s ⟨#[105, 110, 115, 116, 97, 110, 116, 105, 97, 116, 105, 111, 110, 95, 101, 114, 114, 111, 114]⟩))])])])) (.ok 2 []))] (.leaf [(.and (.and (.and (.and (.not (.call 3 3 [(.call 0 0 [(.lit (.s ⟨#[47]⟩)), (.row [(.tok 0), (.tok 1)])])])) (.eq (.call 3 0 [(.call 0 0 [(.lit (.s ⟨#[47]⟩)), (.row [(.tok 0), (.tok 1)])])]) (.lit (.s ⟨#[]⟩)))) (.eq (.call 3 1 [(.call 0 0 [(.lit (.s ⟨#[47]⟩)), (.row [(.tok 0), (.tok 1)])])]) (.lit (.i 0)))) (.call 7 0 [(.call 3 2 [(.call 0 0 [(.lit (.s ⟨#[47]⟩)), (.row [(.tok 0), (.tok 1)])])]), (.call 5 0 [(.call 4 0 [(.lit (.s ⟨#[105, 110, 115, 116, 97, 110, 116, 105, 97, 116, 105, 111, 110, 95, 101, 114, 114, 111, 114]⟩))])])])) (.call 2 0 []))])) (.br (.not (.eq (.fld (.tok 0) 0) (.lit (.i 2)))) (.need [(.ok 6 [(.lit (.s ⟨#[97, 116, 111, 109]⟩)), (.tok 0)])] (.need [(.imp (.and (.and (.not (.call 3 3 [(.call 0 0 [(.lit (.s ⟨#[47]⟩)), (.row [(.tok 0), (.tok 1)])])])) (.eq (.call 3 0 [(.call 0 0 [(.lit (.s ⟨#[47]⟩)), (.row [(.tok 0), (.tok 1)])])]) (.lit (.s ⟨#[]⟩)))) (.eq (.call 3 1 [(.call 0 0 [(.lit (.s ⟨#[47]⟩)), (.row [(.tok 0), (.tok 1)])])]) (.lit (.i 0)))) (.ok 7 [(.call 3 2 [(.call 0 0 [(.lit (.s ⟨#[47]⟩)), (.row [(.tok 0), (.tok 1)])])]), (.call 6 0 [(.lit (.s ⟨#[97, 116, 111, 109]⟩)), (.tok 0)])])), (.imp (.and (.and (.and (.not (.call 3 3 [(.call 0 0 [(.lit (.s ⟨#[47]⟩)), (.row [(.tok 0), (.tok 1)])])])) (.eq (.call 3 0 [(.call 0 0 [(.lit (.s ⟨#[47]⟩)), (.row [(.tok 0), (.tok 1)])])]) (.lit (.s ⟨#[]⟩)))) (.eq (.call 3 1 [(.call 0 0 [(.lit (.s ⟨#[47]⟩)), (.row [(.tok 0), (.tok 1)])])]) (.lit (.i 0)))) (.call 7 0 [(.call 3 2 [(.call 0 0 [(.lit (.s ⟨#[47]⟩)), (.row [(.tok 0), (.tok 1)])])]), (.call 6 0 [(.lit (.s ⟨#[97, 116, 111, 109]⟩)), (.tok 0)])])) (.ok 2 []))] (.leaf [(.and (.and (.and (.and (.not (.call 3 3 [(.call 0 0 [(.lit (.s ⟨#[47]⟩)), (.row [(.tok 0), (.tok 1)])])])) (.eq (.call 3 0 [(.call 0 0 [(.lit (.s ⟨#[47]⟩)), (.row [(.tok 0), (.tok 1)])])]) (.lit (.s ⟨#[]⟩)))) (.eq (.call 3 1 [(.call 0 0 [(.lit (.s ⟨#[47]⟩)), (.row [(.tok 0), (.tok 1)])])]) (.lit (.i 0)))) (.call 7 0 [(.call 3 2 [(.call 0 0 [(.lit (.s ⟨#[47]⟩)), (.row [(.tok 0), (.tok 1)])])]), (.call 6 0 [(.lit (.s ⟨#[97, 116, 111, 109]⟩)), (.tok 0)])])) (.call 2 0 []))]))) (.br (.not (.eq (.fld (.tok 1) 0) (.lit (.i 1)))) (.need [(.ok 6 [(.lit (.s ⟨#[105, 110, 116, 101, 103, 101, 114]⟩)), (.tok 1)])] (.need [(.imp (.and (.and (.not (.call 3 3 [(.call 0 0 [(.lit (.s ⟨#[47]⟩)), (.row [(.tok 0), (.tok 1)])])])) (.eq (.call 3 0 [(.call 0 0 [(.lit (.s ⟨#[47]⟩)), (.row [(.tok 0), (.tok 1)])])]) (.lit (.s ⟨#[]⟩)))) (.eq (.call 3 1 [(.call 0 0 [(.lit (.s ⟨#[47]⟩)), (.row [(.tok 0), (.tok 1)])])]) (.lit (.i 0)))) (.ok 7 [(.call 3 2 [(.call 0 0 [(.lit (.s ⟨#[47]⟩)), (.row [(.tok 0), (.tok 1)])])]), (.call 6 0 [(.lit (.s ⟨#[105, 110, 116, 101, 103, 101, 114]⟩)), (.tok 1)])])), (.imp (.and (.and (.and (.not (.call 3 3 [(.call 0 0 [(.lit (.s ⟨#[47]⟩)), (.row [(.tok 0), (.tok 1)])])])) (.eq (.call 3 0 [(.call 0 0 [(.lit (.s ⟨#[47]⟩)), (.row [(.tok 0), (.tok 1)])])]) (.lit (.s ⟨#[]⟩)))) (.eq (.call 3 1 [(.call 0 0 [(.lit (.s ⟨#[47]⟩)), (.row [(.tok 0), (.tok 1)])])]) (.lit (.i 0)))) (.call 7 0 [(.call 3 2 [(.call 0 0 [(.lit (.s ⟨#[47]⟩)), (.row [(.tok 0), (.tok 1)])])]), (.call 6 0 [(.lit (.s ⟨#[105, 110, 116, 101, 103, 101, 114]⟩)), (.tok 1)])])) (.ok 2 []))] (.leaf [(.and (.and (.and (.and (.not (.call 3 3 [(.call 0 0 [(.lit (.s ⟨#[47]⟩)), (.row [(.tok 0), (.tok 1)])])])) (.eq (.call 3 0 [(.call 0 0 [(.lit (.s ⟨#[47]⟩)), (.row [(.tok 0), (.tok 1)])])]) (.lit (.s ⟨#[]⟩)))) (.eq (.call 3 1 [(.call 0 0 [(.lit (.s ⟨#[47]⟩)), (.row [(.tok 0), (.tok 1)])])]) (.lit (.i 0)))) (.call 7 0 [(.call 3 2 [(.call 0 0 [(.lit (.s ⟨#[47]⟩)), (.row [(.tok 0), (.tok 1)])])]), (.call 6 0 [(.lit (.s ⟨#[105, 110, 116, 101, 103, 101, 114]⟩)), (.tok 1)])])) (.call 2 0 []))]))) (.br (.lt (.fld (.tok 1) 1) (.lit (.i 0))) (.need [(.ok 5 [(.call 0 0 [(.lit (.s ⟨#[100, 111, 109, 97, 105, 110, 95, 101, 114, 114, 111, 114]⟩)), (.row [(.call 4 0 [(.lit (.s ⟨#[110, 111, 116, 95, 108, 101, 115, 115, 95, 116, 104, 97, 110, 95, 122, 101, 114, 111]⟩))]), (.tok 1)])])]), (.ok 0 [(.lit (.s ⟨#[100, 111, 109, 97, 105, 110, 95, 101, 114, 114, 111, 114]⟩)), (.row [(.call 4 0 [(.lit (.s ⟨#[110, 111, 116, 95, 108, 101, 115, 115, 95, 116, 104, 97, 110, 95, 122, 101, 114, 111]⟩))]), (.tok 1)])]), (.ok 4 [(.lit (.s ⟨#[110, 111, 116, 95, 108, 101, 115, 115, 95, 116, 104, 97, 110, 95, 122, 101, 114, 111]⟩))])] (.need [(.imp (.and (.and (.not (.call 3 3 [(.call 0 0 [(.lit (.s ⟨#[47]⟩)), (.row [(.tok 0), (.tok 1)])])])) (.eq (.call 3 0 [(.call 0 0 [(.lit (.s ⟨#[47]⟩)), (.row [(.tok 0), (.tok 1)])])]) (.lit (.s ⟨#[]⟩)))) (.eq (.call 3 1 [(.call 0 0 [(.lit (.s ⟨#[47]⟩)), (.row [(.tok 0), (.tok 1)])])]) (.lit (.i 0)))) (.ok 7 [(.call 3 2 [(.call 0 0 [(.lit (.s ⟨#[47]⟩)), (.row [(.tok 0), (.tok 1)])])]), (.call 5 0 [(.call 0 0 [(.lit (.s ⟨#[100, 111, 109, 97, 105, 110, 95, 101, 114, 114, 111, 114]⟩)), (.row [(.call 4 0 [(.lit (.s ⟨#[110, 111, 116, 95, 108, 101, 115, 115, 95, 116, 104, 97, 110, 95, 122, 101, 114, 111]⟩))]), (.tok 1)])])])])), (.imp (.and (.and (.and (.not (.call 3 3 [(.call 0 0 [(.lit (.s ⟨#[47]⟩)), (.row [(.tok 0), (.tok 1)])])])) (.eq (.call 3 0 [(.call 0 0 [(.lit (.s ⟨#[47]⟩)), (.row [(.tok 0), (.tok 1)])])]) (.lit (.s ⟨#[]⟩)))) (.eq (.call 3 1 [(.call 0 0 [(.lit (.s ⟨#[47]⟩)), (.row [(.tok 0), (.tok 1)])])]) (.lit (.i 0)))) (.call 7 0 [(.call 3 2 [(.call 0 0 [(.lit (.s ⟨#[47]⟩)), (.row [(.tok 0), (.tok 1)])])]), (.call 5 0 [(.call 0 0 [(.lit (.s ⟨#[100, 111, 109, 97, 105, 110, 95, 101, 114, 114, 111, 114]⟩)), (.row [(.call 4 0 [(.lit (.s ⟨#[110, 111, 116, 95, 108, 101, 115, 115, 95, 116, 104, 97, 110, 95, 122, 101, 114, 111]⟩))]), (.tok 1)])])])])) (.ok 2 []))] (.leaf [(.and (.and (.and (.and (.not (.call 3 3 [(.call 0 0 [(.lit (.s ⟨#[47]⟩)), (.row [(.tok 0), (.tok 1)])])])) (.eq (.call 3 0 [(.call 0 0 [(.lit (.s ⟨#[47]⟩)), (.row [(.tok 0), (.tok 1)])])]) (.lit (.s ⟨#[]⟩)))) (.eq (.call 3 1 [(.call 0 0 [(.lit (.s ⟨#[47]⟩)), (.row [(.tok 0), (.tok 1)])])]) (.lit (.i 0)))) (.call 7 0 [(.call 3 2 [(.call 0 0 [(.lit (.s ⟨#[47]⟩)), (.row [(.tok 0), (.tok 1)])])]), (.call 5 0 [(.call 0 0 [(.lit (.s ⟨#[100, 111, 109, 97, 105, 110, 95, 101, 114, 114, 111, 114]⟩)), (.row [(.call 4 0 [(.lit (.s ⟨#[110, 111, 116, 95, 108, 101, 115, 115, 95, 116, 104, 97, 110, 95, 122, 101, 114, 111]⟩))]), (.tok 1)])])])])) (.call 2 0 []))]))) (.br (.lt (.lit (.i 8)) (.fld (.tok 1) 1)) (.need [(.ok 4 [(.lit (.s ⟨#[109, 97, 120, 95, 97, 114, 105, 116, 121]⟩))]), (.ok 0 [(.lit (.s ⟨#[114, 101, 112, 114, 101, 115, 101, 110, 116, 97, 116, 105, 111, 110, 95, 101, 114, 114, 111, 114]⟩)), (.row [(.call 4 0 [(.lit (.s ⟨#[109, 97, 120, 95, 97, 114, 105, 116, 121]⟩))])])]), (.ok 5 [(.call 0 0 [(.lit (.s ⟨#[114, 101, 112, 114, 101, 115, 101, 110, 116, 97, 116, 105, 111, 110, 95, 101, 114, 114, 111, 114]⟩)), (.row [(.call 4 0 [(.lit (.s ⟨#[109, 97, 120, 95, 97, 114, 105, 116, 121]⟩))])])])])] (.need [(.imp (.and (.and (.not (.call 3 3 [(.call 0 0 [(.lit (.s ⟨#[47]⟩)), (.row [(.tok 0), (.tok 1)])])])) (.eq (.call 3 0 [(.call 0 0 [(.lit (.s ⟨#[47]⟩)), (.row [(.tok 0), (.tok 1)])])]) (.lit (.s ⟨#[]⟩)))) (.eq (.call 3 1 [(.call 0 0 [(.lit (.s ⟨#[47]⟩)), (.row [(.tok 0), (.tok 1)])])]) (.lit (.i 0)))) (.ok 7 [(.call 3 2 [(.call 0 0 [(.lit (.s ⟨#[47]⟩)), (.row [(.tok 0), (.tok 1)])])]), (.call 5 0 [(.call 0 0 [(.lit (.s ⟨#[114, 101, 112, 114, 101, 115, 101, 110, 116, 97, 116, 105, 111, 110, 95, 101, 114, 114, 111, 114]⟩)), (.row [(.call 4 0 [(.lit (.s ⟨#[109, 97, 120, 95, 97, 114, 105, 116, 121]⟩))])])])])])), (.imp (.and (.and (.and (.not (.call 3 3 [(.call 0 0 [(.lit (.s ⟨#[47]⟩)), (.row [(.tok 0), (.tok 1)])])])) (.eq (.call 3 0 [(.call 0 0 [(.lit (.s ⟨#[47]⟩)), (.row [(.tok 0), (.tok 1)])])]) (.lit (.s ⟨#[]⟩)))) (.eq (.call 3 1 [(.call 0 0 [(.lit (.s ⟨#[47]⟩)), (.row [(.tok 0), (.tok 1)])])]) (.lit (.i 0)))) (.call 7 0 [(.call 3 2 [(.call 0 0 [(.lit (.s ⟨#[47]⟩)), (.row [(.tok 0), (.tok 1)])])]), (.call 5 0 [(.call 0 0 [(.lit (.s ⟨#[114, 101, 112, 114, 101, 115, 101, 110, 116, 97, 116, 105, 111, 110, 95, 101, 114, 114, 111, 114]⟩)), (.row [(.call 4 0 [(.lit (.s ⟨#[109, 97, 120, 95, 97, 114, 105, 116, 121]⟩))])])])])])) (.ok 2 []))] (.leaf [(.and (.and (.and (.and (.not (.call 3 3 [(.call 0 0 [(.lit (.s ⟨#[47]⟩)), (.row [(.tok 0), (.tok 1)])])])) (.eq (.call 3 0 [(.call 0 0 [(.lit (.s ⟨#[47]⟩)), (.row [(.tok 0), (.tok 1)])])]) (.lit (.s ⟨#[]⟩)))) (.eq (.call 3 1 [(.call 0 0 [(.lit (.s ⟨#[47]⟩)), (.row [(.tok 0), (.tok 1)])])]) (.lit (.i 0)))) (.call 7 0 [(.call 3 2 [(.call 0 0 [(.lit (.s ⟨#[47]⟩)), (.row [(.tok 0), (.tok 1)])])]), (.call 5 0 [(.call 0 0 [(.lit (.s ⟨#[114, 101, 112, 114, 101, 115, 101, 110, 116, 97, 116, 105, 111, 110, 95, 101, 114, 114, 111, 114]⟩)), (.row [(.call 4 0 [(.lit (.s ⟨#[109, 97, 120, 95, 97, 114, 105, 116, 121]⟩))])])])])])) (.call 2 0 []))]))) (.need [(.imp (.and (.and (.call 3 3 [(.call 0 0 [(.lit (.s ⟨#[47]⟩)), (.row [(.tok 0), (.tok 1)])])]) (.eq (.call 3 0 [(.call 0 0 [(.lit (.s ⟨#[47]⟩)), (.row [(.tok 0), (.tok 1)])])]) (.fld (.tok 0) 2))) (.eq (.call 3 1 [(.call 0 0 [(.lit (.s ⟨#[47]⟩)), (.row [(.tok 0), (.tok 1)])])]) (.fld (.tok 1) 1))) (.ok 7 [(.call 3 2 [(.call 0 0 [(.lit (.s ⟨#[47]⟩)), (.row [(.tok 0), (.tok 1)])])]), (.lit (.a [(.i 0), (.i 0), (.s ⟨#[]⟩), (.r [])]))])), (.imp (.and (.and (.and (.call 3 3 [(.call 0 0 [(.lit (.s ⟨#[47]⟩)), (.row [(.tok 0), (.tok 1)])])]) (.eq (.call 3 0 [(.call 0 0 [(.lit (.s ⟨#[47]⟩)), (.row [(.tok 0), (.tok 1)])])]) (.fld (.tok 0) 2))) (.eq (.call 3 1 [(.call 0 0 [(.lit (.s ⟨#[47]⟩)), (.row [(.tok 0), (.tok 1)])])]) (.fld (.tok 1) 1))) (.call 7 0 [(.call 3 2 [(.call 0 0 [(.lit (.s ⟨#[47]⟩)), (.row [(.tok 0), (.tok 1)])])]), (.lit (.a [(.i 0), (.i 0), (.s ⟨#[]⟩), (.r [])]))])) (.ok 2 []))] (.leaf [(.and (.and (.and (.and (.call 3 3 [(.call 0 0 [(.lit (.s ⟨#[47]⟩)), (.row [(.tok 0), (.tok 1)])])]) (.eq (.call 3 0 [(.call 0 0 [(.lit (.s ⟨#[47]⟩)), (.row [(.tok 0), (.tok 1)])])]) (.fld (.tok 0) 2))) (.eq (.call 3 1 [(.call 0 0 [(.lit (.s ⟨#[47]⟩)), (.row [(.tok 0), (.tok 1)])])]) (.fld (.tok 1) 1))) (.call 7 0 [(.call 3 2 [(.call 0 0 [(.lit (.s ⟨#[47]⟩)), (.row [(.tok 0), (.tok 1)])])]), (.lit (.a [(.i 0), (.i 0), (.s ⟨#[]⟩), (.r [])]))])) (.call 2 0 []))]))))))))))))
set_option maxRecDepth 100000 in
theorem code_law06_BallsIndicators (g0 g1 g2 g3 g4 g5 g6 g7 : List D → Option (List D)) : ∀ cd, Try.f5.body = some cd → treeOf Try.prog [(ct_law06_f, g0), (ct_ref03_Valid, g1), (ct_law06_awake, g2), (ct_balls_Indicator, g3), (ct_law06_a, g4), (ct_law06_error1, g5), (ct_balls_Type, g6), (ct_law06_same, g7)] ann_law06_BallsIndicators ct_law06_BallsIndicators Try.f5 cd = tree_law06_BallsIndicators := by
  intro cd h
  injection h with h
  subst h
  kernel_rfl
theorem fok_law06_BallsIndicators {g0 g1 g2 g3 g4 g5 g6 g7 : List D → Option (List D)} {g : List D → Option (List D)} (h0 : FOk ct_law06_f g0) (h1 : FOk ct_ref03_Valid g1) (h2 : FOk ct_law06_awake g2) (h3 : FOk ct_balls_Indicator g3) (h4 : FOk ct_law06_a g4) (h5 : FOk ct_law06_error1 g5) (h6 : FOk ct_balls_Type g6) (h7 : FOk ct_law06_same g7) (h : ∀ ds outs, WfA ct_law06_BallsIndicators.ar ds → g ds = some outs → tree_law06_BallsIndicators.go (tblS [(ct_law06_f, g0), (ct_ref03_Valid, g1), (ct_law06_awake, g2), (ct_balls_Indicator, g3), (ct_law06_a, g4), (ct_law06_error1, g5), (ct_balls_Type, g6), (ct_law06_same, g7)]) (fun o => o = outs) ds fun _ _ => False) : FOk ct_law06_BallsIndicators g :=
  fok_of ann_law06_BallsIndicators Try.f5 _ (.cons h0 (.cons h1 (.cons h2 (.cons h3 (.cons h4 (.cons h5 (.cons h6 (.cons h7 .nil)))))))) rfl rfl enter_law06_BallsIndicators (by decide) fun ds outs hw hg => by rw [code_law06_BallsIndicators g0 g1 g2 g3 g4 g5 g6 g7 _ rfl]; exact h ds outs hw hg

def ct_law06_BallsMake : Ct := ⟨7, [.val (.str), .val (.str), .val (.st 23), .val (.int .i64)], [(.bool, false)]⟩
theorem enter_law06_BallsMake (args : Array Value) (w : World) : (callFunc ct_law06_BallsMake.f args).run Try.prog w = .ok (.enter ct_law06_BallsMake.f args) w := by kernel_rfl
def ct_balls_Uninst : Ct := ⟨27, [.val (.st 23)], [(.st 23, false)]⟩
theorem enter_balls_Uninst (args : Array Value) (w : World) : (callFunc ct_balls_Uninst.f args).run Try.prog w = .ok (.enter ct_balls_Uninst.f args) w := by kernel_rfl
def ct_balls_Existence : Ct := ⟨29, [.val (.str), .val (.st 23)], [(.st 23, false)]⟩
theorem enter_balls_Existence (args : Array Value) (w : World) : (callFunc ct_balls_Existence.f args).run Try.prog w = .ok (.enter ct_balls_Existence.f args) w := by kernel_rfl
def ct_balls_Permission : Ct := ⟨30, [.val (.str), .val (.str), .val (.st 23)], [(.st 23, false)]⟩
theorem enter_balls_Permission (args : Array Value) (w : World) : (callFunc ct_balls_Permission.f args).run Try.prog w = .ok (.enter ct_balls_Permission.f args) w := by kernel_rfl
def ct_balls_Evaluation : Ct := ⟨34, [.val (.str)], [(.st 23, false)]⟩
theorem enter_balls_Evaluation (args : Array Value) (w : World) : (callFunc ct_balls_Evaluation.f args).run Try.prog w = .ok (.enter ct_balls_Evaluation.f args) w := by kernel_rfl
def ct_balls_Syntax : Ct := ⟨35, [.val (.int .i64)], [(.st 23, false)]⟩
theorem enter_balls_Syntax (args : Array Value) (w : World) : (callFunc ct_balls_Syntax.f args).run Try.prog w = .ok (.enter ct_balls_Syntax.f args) w := by kernel_rfl
def ct_ref06_Uninst : Ct := ⟨37, [.val (.st 23)], [(.st 23, false)]⟩
theorem enter_ref06_Uninst (args : Array Value) (w : World) : (callFunc ct_ref06_Uninst.f args).run Try.prog w = .ok (.enter ct_ref06_Uninst.f args) w := by kernel_rfl
def ct_ref06_Existence : Ct := ⟨40, [.val (.str), .val (.st 23)], [(.st 23, false)]⟩
theorem enter_ref06_Existence (args : Array Value) (w : World) : (callFunc ct_ref06_Existence.f args).run Try.prog w = .ok (.enter ct_ref06_Existence.f args) w := by kernel_rfl
def ct_ref06_Permission : Ct := ⟨41, [.val (.str), .val (.str), .val (.st 23)], [(.st 23, false)]⟩
theorem enter_ref06_Permission (args : Array Value) (w : World) : (callFunc ct_ref06_Permission.f args).run Try.prog w = .ok (.enter ct_ref06_Permission.f args) w := by kernel_rfl
def ct_ref06_Evaluation : Ct := ⟨43, [.val (.str)], [(.st 23, false)]⟩
theorem enter_ref06_Evaluation (args : Array Value) (w : World) : (callFunc ct_ref06_Evaluation.f args).run Try.prog w = .ok (.enter ct_ref06_Evaluation.f args) w := by kernel_rfl
def ann_law06_BallsMake : Ann := ⟨[0, 1, 2, 3, 6, 8, 9, 10], []⟩
def tree_law06_BallsMake : Tree := (.need [(.ok 8 [(.tok 3)]), (.ok 7 [(.tok 1)]), (.ok 6 [(.tok 0)]), (.ok 5 [(.tok 1), (.tok 0), (.tok 2)]), (.ok 4 [(.tok 0), (.tok 2)]), (.ok 3 [(.tok 0), (.tok 2)]), (.ok 2 [(.tok 0), (.tok 2)]), (.ok 1 [(.tok 2)]), (.ok 0 [])] (.need [(.ok 17 [(.tok 3)]), (.ok 16 [(.tok 1)]), (.ok 15 [(.tok 0)]), (.ok 14 [(.tok 1), (.tok 0), (.tok 2)]), (.ok 13 [(.tok 0), (.tok 2)]), (.ok 12 [(.tok 0), (.tok 2)]), (.ok 11 [(.tok 0), (.tok 2)]), (.ok 10 [(.tok 2)]), (.ok 9 [])] (.need [(.ok 18 [(.row [(.call 0 0 []), (.call 1 0 [(.tok 2)]), (.call 2 0 [(.tok 0), (.tok 2)]), (.call 3 0 [(.tok 0), (.tok 2)]), (.call 4 0 [(.tok 0), (.tok 2)]), (.call 5 0 [(.tok 1), (.tok 0), (.tok 2)]), (.call 6 0 [(.tok 0)]), (.call 7 0 [(.tok 1)]), (.call 8 0 [(.tok 3)])]), (.row [(.call 9 0 []), (.call 10 0 [(.tok 2)]), (.call 11 0 [(.tok 0), (.tok 2)]), (.call 12 0 [(.tok 0), (.tok 2)]), (.call 13 0 [(.tok 0), (.tok 2)]), (.call 14 0 [(.tok 1), (.tok 0), (.tok 2)]), (.call 15 0 [(.tok 0)]), (.call 16 0 [(.tok 1)]), (.call 17 0 [(.tok 3)])])]), (.imp (.call 18 0 [(.row [(.call 0 0 []), (.call 1 0 [(.tok 2)]), (.call 2 0 [(.tok 0), (.tok 2)]), (.call 3 0 [(.tok 0), (.tok 2)]), (.call 4 0 [(.tok 0), (.tok 2)]), (.call 5 0 [(.tok 1), (.tok 0), (.tok 2)]), (.call 6 0 [(.tok 0)]), (.call 7 0 [(.tok 1)]), (.call 8 0 [(.tok 3)])]), (.row [(.call 9 0 []), (.call 10 0 [(.tok 2)]), (.call 11 0 [(.tok 0), (.tok 2)]), (.call 12 0 [(.tok 0), (.tok 2)]), (.call 13 0 [(.tok 0), (.tok 2)]), (.call 14 0 [(.tok 1), (.tok 0), (.tok 2)]), (.call 15 0 [(.tok 0)]), (.call 16 0 [(.tok 1)]), (.call 17 0 [(.tok 3)])])]) (.ok 19 []))] (.leaf [(.and (.call 18 0 [(.row [(.call 0 0 []), (.call 1 0 [(.tok 2)]), (.call 2 0 [(.tok 0), (.tok 2)]), (.call 3 0 [(.tok 0), (.tok 2)]), (.call 4 0 [(.tok 0), (.tok 2)]), (.call 5 0 [(.tok 1), (.tok 0), (.tok 2)]), (.call 6 0 [(.tok 0)]), (.call 7 0 [(.tok 1)]), (.call 8 0 [(.tok 3)])]), (.row [(.call 9 0 []), (.call 10 0 [(.tok 2)]), (.call 11 0 [(.tok 0), (.tok 2)]), (.call 12 0 [(.tok 0), (.tok 2)]), (.call 13 0 [(.tok 0), (.tok 2)]), (.call 14 0 [(.tok 1), (.tok 0), (.tok 2)]), (.call 15 0 [(.tok 0)]), (.call 16 0 [(.tok 1)]), (.call 17 0 [(.tok 3)])])]) (.call 19 0 []))]))))
set_option maxRecDepth 100000 in
theorem code_law06_BallsMake (g0 g1 g2 g3 g4 g5 g6 g7 g8 g9 g10 g11 g12 g13 g14 g15 g16 g17 g18 g19 : List D → Option (List D)) : ∀ cd, Try.f7.body = some cd → treeOf Try.prog [(ct_balls_Inst, g0), (ct_balls_Uninst, g1), (ct_balls_Type, g2), (ct_balls_Domain, g3), (ct_balls_Existence, g4), (ct_balls_Permission, g5), (ct_balls_Representation, g6), (ct_balls_Evaluation, g7), (ct_balls_Syntax, g8), (ct_ref06_Inst, g9), (ct_ref06_Uninst, g10), (ct_ref06_Type, g11), (ct_ref06_Domain, g12), (ct_ref06_Existence, g13), (ct_ref06_Permission, g14), (ct_ref06_Representation, g15), (ct_ref06_Evaluation, g16), (ct_ref06_Syntax, g17), (ct_ref03_SameAll, g18), (ct_law06_awake, g19)] ann_law06_BallsMake ct_law06_BallsMake Try.f7 cd = tree_law06_BallsMake := by
  intro cd h
  injection h with h
  subst h
  kernel_rfl
theorem fok_law06_BallsMake {g0 g1 g2 g3 g4 g5 g6 g7 g8 g9 g10 g11 g12 g13 g14 g15 g16 g17 g18 g19 : List D → Option (List D)} {g : List D → Option (List D)} (h0 : FOk ct_balls_Inst g0) (h1 : FOk ct_balls_Uninst g1) (h2 : FOk ct_balls_Type g2) (h3 : FOk ct_balls_Domain g3) (h4 : FOk ct_balls_Existence g4) (h5 : FOk ct_balls_Permission g5) (h6 : FOk ct_balls_Representation g6) (h7 : FOk ct_balls_Evaluation g7) (h8 : FOk ct_balls_Syntax g8) (h9 : FOk ct_ref06_Inst g9) (h10 : FOk ct_ref06_Uninst g10) (h11 : FOk ct_ref06_Type g11) (h12 : FOk ct_ref06_Domain g12) (h13 : FOk ct_ref06_Existence g13) (h14 : FOk ct_ref06_Permission g14) (h15 : FOk ct_ref06_Representation g15) (h16 : FOk ct_ref06_Evaluation g16) (h17 : FOk ct_ref06_Syntax g17) (h18 : FOk ct_ref03_SameAll g18) (h19 : FOk ct_law06_awake g19) (h : ∀ ds outs, WfA ct_law06_BallsMake.ar ds → g ds = some outs → tree_law06_BallsMake.go (tblS [(ct_balls_Inst, g0), (ct_balls_Uninst, g1), (ct_balls_Type, g2), (ct_balls_Domain, g3), (ct_balls_Existence, g4), (ct_balls_Permission, g5), (ct_balls_Representation, g6), (ct_balls_Evaluation, g7), (ct_balls_Syntax, g8), (ct_ref06_Inst, g9), (ct_ref06_Uninst, g10), (ct_ref06_Type, g11), (ct_ref06_Domain, g12), (ct_ref06_Existence, g13), (ct_ref06_Permission, g14), (ct_ref06_Representation, g15), (ct_ref06_Evaluation, g16), (ct_ref06_Syntax, g17), (ct_ref03_SameAll, g18), (ct_law06_awake, g19)]) (fun o => o = outs) ds fun _ _ => False) : FOk ct_law06_BallsMake g :=
  fok_of ann_law06_BallsMake Try.f7 _ (.cons h0 (.cons h1 (.cons h2 (.cons h3 (.cons h4 (.cons h5 (.cons h6 (.cons h7 (.cons h8 (.cons h9 (.cons h10 (.cons h11 (.cons h12 (.cons h13 (.cons h14 (.cons h15 (.cons h16 (.cons h17 (.cons h18 (.cons h19 .nil)))))))))))))))))))) rfl rfl enter_law06_BallsMake (by decide) fun ds outs hw hg => by rw [code_law06_BallsMake g0 g1 g2 g3 g4 g5 g6 g7 g8 g9 g10 g11 g12 g13 g14 g15 g16 g17 g18 g19 _ rfl]; exact h ds outs hw hg

def ct_law06_BallsParts : Ct := ⟨8, [.val (.st 23)], [(.bool, false)]⟩
theorem enter_law06_BallsParts (args : Array Value) (w : World) : (callFunc ct_law06_BallsParts.f args).run Try.prog w = .ok (.enter ct_law06_BallsParts.f args) w := by kernel_rfl
def ann_law06_BallsParts : Ann := ⟨[0, 1, 2, 3, 4, 5, 6, 7, 8, 9, 10, 11, 12, 13, 14, 15, 16, 17, 18, 19, 20, 21, 22, 49, 75, 101], []⟩
def tree_law06_BallsParts : Tree := (.need [(.ok 0 [(.tok 0)])] (.need [(.ok 1 [(.tok 0)])] (.need [(.ok 2 [(.call 0 0 [(.tok 0)]), (.call 1 0 [(.tok 0)])]), (.imp (.not (.not (.call 2 0 [(.call 0 0 [(.tok 0)]), (.call 1 0 [(.tok 0)])]))) (.ok 3 [(.call 0 1 [(.tok 0)]), (.call 1 1 [(.tok 0)])]))] (.br (.or (.or (.not (.call 2 0 [(.call 0 0 [(.tok 0)]), (.call 1 0 [(.tok 0)])])) (.not (.call 3 0 [(.call 0 1 [(.tok 0)]), (.call 1 1 [(.tok 0)])]))) (.not (.eq (.call 0 2 [(.tok 0)]) (.call 1 2 [(.tok 0)])))) (.leaf [(.lit (.b .false))]) (.need [(.ok 4 [(.tok 0)])] (.need [(.ok 5 [(.tok 0)])] (.need [(.imp (.not (.not (.eq (.call 4 0 [(.tok 0)]) (.call 5 0 [(.tok 0)])))) (.ok 3 [(.call 4 1 [(.tok 0)]), (.call 5 1 [(.tok 0)])]))] (.br (.or (.or (.not (.eq (.call 4 0 [(.tok 0)]) (.call 5 0 [(.tok 0)]))) (.not (.call 3 0 [(.call 4 1 [(.tok 0)]), (.call 5 1 [(.tok 0)])]))) (.not (.eq (.call 4 2 [(.tok 0)]) (.call 5 2 [(.tok 0)])))) (.leaf [(.lit (.b .false))]) (.need [(.ok 6 [(.tok 0)])] (.need [(.ok 7 [(.tok 0)])] (.need [(.imp (.not (.not (.eq (.call 6 0 [(.tok 0)]) (.call 7 0 [(.tok 0)])))) (.ok 3 [(.call 6 1 [(.tok 0)]), (.call 7 1 [(.tok 0)])]))] (.br (.or (.or (.not (.eq (.call 6 0 [(.tok 0)]) (.call 7 0 [(.tok 0)]))) (.not (.call 3 0 [(.call 6 1 [(.tok 0)]), (.call 7 1 [(.tok 0)])]))) (.not (.eq (.call 6 2 [(.tok 0)]) (.call 7 2 [(.tok 0)])))) (.leaf [(.lit (.b .false))]) (.need [(.ok 8 [(.tok 0)])] (.need [(.ok 9 [(.tok 0)])] (.need [(.imp (.and (.eq (.call 8 0 [(.tok 0)]) (.call 9 0 [(.tok 0)])) (.eq (.call 8 1 [(.tok 0)]) (.call 9 1 [(.tok 0)]))) (.ok 3 [(.call 8 2 [(.tok 0)]), (.call 9 2 [(.tok 0)])])), (.imp (.and (.and (.and (.eq (.call 8 0 [(.tok 0)]) (.call 9 0 [(.tok 0)])) (.eq (.call 8 1 [(.tok 0)]) (.call 9 1 [(.tok 0)]))) (.call 3 0 [(.call 8 2 [(.tok 0)]), (.call 9 2 [(.tok 0)])])) (.eq (.call 8 3 [(.tok 0)]) (.call 9 3 [(.tok 0)]))) (.ok 10 []))] (.leaf [(.and (.and (.and (.and (.eq (.call 8 0 [(.tok 0)]) (.call 9 0 [(.tok 0)])) (.eq (.call 8 1 [(.tok 0)]) (.call 9 1 [(.tok 0)]))) (.call 3 0 [(.call 8 2 [(.tok 0)]), (.call 9 2 [(.tok 0)])])) (.eq (.call 8 3 [(.tok 0)]) (.call 9 3 [(.tok 0)]))) (.call 10 0 []))]))))))))))))))))
set_option maxRecDepth 100000 in
theorem code_law06_BallsParts (g0 g1 g2 g3 g4 g5 g6 g7 g8 g9 g10 : List D → Option (List D)) : ∀ cd, Try.f8.body = some cd → treeOf Try.prog [(ct_balls_List, g0), (ct_ref06_List, g1), (ct_ref03_SameAll, g2), (ct_law06_same, g3), (ct_balls_Char, g4), (ct_ref06_Char, g5), (ct_balls_Code, g6), (ct_ref06_Code, g7), (ct_balls_Indicator, g8), (ct_ref06_Indicator, g9), (ct_law06_awake, g10)] ann_law06_BallsParts ct_law06_BallsParts Try.f8 cd = tree_law06_BallsParts := by
  intro cd h
  injection h with h
  subst h
  kernel_rfl
theorem fok_law06_BallsParts {g0 g1 g2 g3 g4 g5 g6 g7 g8 g9 g10 : List D → Option (List D)} {g : List D → Option (List D)} (h0 : FOk ct_balls_List g0) (h1 : FOk ct_ref06_List g1) (h2 : FOk ct_ref03_SameAll g2) (h3 : FOk ct_law06_same g3) (h4 : FOk ct_balls_Char g4) (h5 : FOk ct_ref06_Char g5) (h6 : FOk ct_balls_Code g6) (h7 : FOk ct_ref06_Code g7) (h8 : FOk ct_balls_Indicator g8) (h9 : FOk ct_ref06_Indicator g9) (h10 : FOk ct_law06_awake g10) (h : ∀ ds outs, WfA ct_law06_BallsParts.ar ds → g ds = some outs → tree_law06_BallsParts.go (tblS [(ct_balls_List, g0), (ct_ref06_List, g1), (ct_ref03_SameAll, g2), (ct_law06_same, g3), (ct_balls_Char, g4), (ct_ref06_Char, g5), (ct_balls_Code, g6), (ct_ref06_Code, g7), (ct_balls_Indicator, g8), (ct_ref06_Indicator, g9), (ct_law06_awake, g10)]) (fun o => o = outs) ds fun _ _ => False) : FOk ct_law06_BallsParts g :=
  fok_of ann_law06_BallsParts Try.f8 _ (.cons h0 (.cons h1 (.cons h2 (.cons h3 (.cons h4 (.cons h5 (.cons h6 (.cons h7 (.cons h8 (.cons h9 (.cons h10 .nil))))))))))) rfl rfl enter_law06_BallsParts (by decide) fun ds outs hw hg => by rw [code_law06_BallsParts g0 g1 g2 g3 g4 g5 g6 g7 g8 g9 g10 _ rfl]; exact h ds outs hw hg

end Go.Proofs.Ytloekfnlidclcaa

namespace Go.Proofs.Ytloekfnlidclcaa
open Go.RowKit
set_option linter.unusedVariables false

theorem enc_f0 (t : Tm) : (encT t).fld 0 = .i t.kind := by cases t; rfl
theorem enc_f1 (t : Tm) : (encT t).fld 1 = .i t.num := by cases t; rfl
theorem enc_f2 (t : Tm) : (encT t).fld 2 = .s t.name := by cases t; rfl
theorem enc_f3 (t : Tm) : (encT t).fld 3 = .r (encL t.args) := by cases t; rfl
theorem int_i (n : Int) : (D.i n).int = n := rfl
theorem tt_b (x : Bool) : (D.b x).tt = x := by cases x <;> rfl
theorem rs_r (l : List D) : (D.r l).rs = l := rfl
theorem str_s (x : ByteArray) : (D.s x).str = x := rfl
theorem get_enc {l : List Tm} {i : Nat} (h : i < l.length) : (D.r (encL l)).get (i : Int) = encT l[i] := by
  simp [D.get, rs_r, encL_map, List.getD_eq_getElem?_getD, h]
theorem i_inj {m n : Int} : (D.i m = D.i n) = (m = n) := by simp
theorem s_inj {m n : ByteArray} : (D.s m = D.s n) = (m = n) := by simp

theorem ok_term_Valid : FOk ct_term_Valid (gB1 validT) := fok_B1 enter_term_Valid fun t w v h => valid_any t w v h
theorem ok_ref03_Valid : FOk ct_ref03_Valid (gB1 validT) := fok_B1 enter_ref03_Valid fun t w v h => rvalid_any t w v h
theorem ok_term_Clone : FOk ct_term_Clone (gT1 cloneT) := fok_new enter_term_Clone fun t w v h => clone_any t w v h
theorem ok_ref03_Same : FOk ct_ref03_Same (gB2 sameT) := fok_B2 enter_ref03_Same fun t u w v v' h h' => rsame_any t u w v v' h h'
theorem ok_law06_same : FOk ct_law06_same (gB2 sameT) := fok_law06_same ok_ref03_Same fun ds outs hw hg => by
  obtain ⟨d, r, rfl, hd, e, r', rfl, he, rfl⟩ := hw
  simp only [gB2, Option.some.injEq] at hg
  subst hg
  simp [tree_law06_same, Tree.go, allSay, X.says, X.ev, X.evs, evl, tblS, gB2, tt_b]

theorem ok_balls_Inst : FOk ct_balls_Inst (gT0 instT) := fok_T0 enter_balls_Inst ⟨_, 0, inst_entry, rfl⟩
theorem ok_balls_Uninst : FOk ct_balls_Uninst (gT1 (aboutT sUninst [])) := fok_T1 enter_balls_Uninst fun t => ⟨_, 0, 1, pUninst_entry t, rfl, rfl⟩
theorem ok_balls_Type : FOk ct_balls_Type (gST fun s t => aboutT sType [s] t) := fok_ST enter_balls_Type fun s t hs => ⟨_, 0, 0, 1, pType_entry t s hs, rfl, rfl, rfl⟩
theorem ok_balls_Domain : FOk ct_balls_Domain (gST fun s t => aboutT sDomain [s] t) := fok_ST enter_balls_Domain fun s t hs => ⟨_, 0, 0, 1, pDomain_entry t s hs, rfl, rfl, rfl⟩
theorem ok_balls_Existence : FOk ct_balls_Existence (gST fun s t => aboutT sExistence [s] t) := fok_ST enter_balls_Existence fun s t hs => ⟨_, 0, 0, 1, pExistence_entry t s hs, rfl, rfl, rfl⟩
theorem ok_balls_Permission : FOk ct_balls_Permission (gSST fun s r t => aboutT sPermission [s, r] t) := fok_SST enter_balls_Permission fun s r t hs hr => ⟨_, 0, 1, 0, 1, pPermission_entry t s r hs hr, rfl, rfl, rfl, rfl⟩
theorem ok_balls_Representation : FOk ct_balls_Representation (gS1 (namedT sRep)) := fok_S1 enter_balls_Representation fun s hs => ⟨_, 0, 0, pRepresentation_entry s hs, rfl, rfl⟩
theorem ok_balls_Evaluation : FOk ct_balls_Evaluation (gS1 (namedT sEval)) := fok_S1 enter_balls_Evaluation fun s hs => ⟨_, 0, 0, pEvaluation_entry s hs, rfl, rfl⟩
theorem ok_balls_Syntax : FOk ct_balls_Syntax (gI1 syntaxT) := fok_I1 enter_balls_Syntax fun n hn => ⟨_, 0, 0, syntax_entry n hn, rfl, rfl⟩
theorem ok_ref06_Inst : FOk ct_ref06_Inst (gT0 (ballR (atomR sInst))) := fok_T0 enter_ref06_Inst ⟨_, 0, rinst_entry, rfl⟩
theorem ok_ref06_Uninst : FOk ct_ref06_Uninst (gT1 (withR sUninst [])) := fok_T1 enter_ref06_Uninst fun t => ⟨_, 0, 1, rUninst_entry t, rfl, rfl⟩
theorem ok_ref06_Type : FOk ct_ref06_Type (gST fun s t => withR sType [s] t) := fok_ST enter_ref06_Type fun s t hs => ⟨_, 0, 0, 1, rType_entry t s hs, rfl, rfl, rfl⟩
theorem ok_ref06_Domain : FOk ct_ref06_Domain (gST fun s t => withR sDomain [s] t) := fok_ST enter_ref06_Domain fun s t hs => ⟨_, 0, 0, 1, rDomain_entry t s hs, rfl, rfl, rfl⟩
theorem ok_ref06_Existence : FOk ct_ref06_Existence (gST fun s t => withR sExistence [s] t) := fok_ST enter_ref06_Existence fun s t hs => ⟨_, 0, 0, 1, rExistence_entry t s hs, rfl, rfl, rfl⟩
theorem ok_ref06_Permission : FOk ct_ref06_Permission (gSST fun s r t => withR sPermission [s, r] t) := fok_SST enter_ref06_Permission fun s r t hs hr => ⟨_, 0, 1, 0, 1, rPermission_entry t s r hs hr, rfl, rfl, rfl, rfl⟩
theorem ok_ref06_Representation : FOk ct_ref06_Representation (gS1 fun s => ballR (.mk 3 0 sRep [atomR s])) := fok_S1 enter_ref06_Representation fun s hs => ⟨_, 0, 0, rRepresentation_entry s hs, rfl, rfl⟩
theorem ok_ref06_Evaluation : FOk ct_ref06_Evaluation (gS1 fun s => ballR (.mk 3 0 sEval [atomR s])) := fok_S1 enter_ref06_Evaluation fun s hs => ⟨_, 0, 0, rEvaluation_entry s hs, rfl, rfl⟩
theorem ok_ref06_ball : FOk ct_ref06_ball (gT1 ballR) := fok_T1 enter_ref06_ball fun t => ⟨_, 0, 3, ball_entry t, rfl, rfl⟩

theorem ok_balls_bound : FOk ct_balls_bound (gTB boundT boundB) := fok_TB enter_balls_bound fun t => ⟨_, 0, 2, bound_entry t, rfl, rfl⟩
theorem name_size {t : Tm} {w : World} {G : Nat → Prop} {v : Value} (h : TmIn w G t v) : t.name.size ≤ 140737488351232 := by
  obtain ⟨A, cap, e, -, -, h3, -⟩ := h.form
  exact h3
theorem num_wf {t : Tm} {w : World} {G : Nat → Prop} {v : Value} (h : TmIn w G t v) : wf64 t.num := by
  obtain ⟨A, cap, e, -, h2, -⟩ := h.form
  exact h2
theorem ok_balls_Atom : FOk ct_balls_Atom (gSTB strAtom (fun t => checkT (badAtom t) sAtom t) fun t => checkB (badAtom t) t) :=
  fok_STB enter_balls_Atom (fun t w G v h => by unfold strAtom; split; exact name_size h; decide) fun t => ⟨_, 1, 0, 2, pAtom_entry t, rfl, rfl, rfl⟩
theorem ok_balls_Int : FOk ct_balls_Int (gNTB numInt (fun t => checkT (badInt t) sInteger t) fun t => checkB (badInt t) t) :=
  fok_NTB enter_balls_Int (fun t w G v h => by unfold numInt; split; exact num_wf h; unfold wf64; omega) fun t => ⟨_, 3, 0, 2, pInt_entry t, rfl, rfl, rfl⟩
theorem ok_ref06_Int : FOk ct_ref06_Int (gNTB numInt (fun t => checkT (badInt t) sInteger t) fun t => checkB (badInt t) t) :=
  fok_NTB enter_ref06_Int (fun t w G v h => by unfold numInt; split; exact num_wf h; unfold wf64; omega) fun t => ⟨_, 3, 0, 2, rInt_entry t, rfl, rfl, rfl⟩

theorem ok_ref03_SameAll : FOk ct_ref03_SameAll (gLL sameAllT) :=
  fok_still enter_ref03_SameAll (by simp [ct_ref03_SameAll]) fun F w vs ds outs hg ha => by
    obtain ⟨l, A, cap, r, ds', rfl, rfl, h1, h2, h3, h4, ha⟩ := argTs ha
    obtain ⟨m, A', cap', r, ds', rfl, rfl, g1, g2, g3, g4, ha⟩ := argTs ha
    obtain ⟨rfl, rfl⟩ := arg0 ha
    simp only [gLL, decL_encL, Option.some.injEq] at hg
    subst hg
    refine (ent_calls (sameAll_entry l m h2) (F := F) (vs := [_, _]) ⟨⟨A, cap, rfl, h1, h2, h3, h4⟩, ⟨A', cap', rfl, g1, g2, g3, g4⟩, trivial⟩).mono ?_
    rintro e w' ⟨v, p', rfl, hb, hk, rfl⟩
    exact ⟨[_], rfl, hb, ⟨rfl, _, [], _, [], rfl, rfl, resB _, rfl⟩, rfl⟩

theorem ok_law06_awake : FOk ct_law06_awake fun _ => some [.b true] :=
  fok_still enter_law06_awake (by simp [ct_law06_awake]) fun F w vs ds outs hg ha => by
    obtain ⟨rfl, rfl⟩ := arg0 ha
    simp only [Option.some.injEq] at hg
    subst hg
    refine (ent_calls awake6_entry (F := F) (vs := []) trivial).mono ?_
    rintro e w' ⟨v, p', rfl, hb, hk, rfl⟩
    exact ⟨[_], rfl, hb, ⟨rfl, _, [], _, [], rfl, rfl, resB _, rfl⟩, rfl⟩
end Go.Proofs.Ytloekfnlidclcaa
