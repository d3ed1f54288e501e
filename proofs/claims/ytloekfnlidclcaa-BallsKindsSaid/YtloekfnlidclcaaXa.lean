/-
  The law's makers of terms: the walks; and the table of the calls, on what is known.
-/
import Derived.Test.YtloekfnlidclcaaRa
namespace Go.Proofs.Ytloekfnlidclcaa
open Go.RowKit Go.Maps
set_option linter.unusedVariables false

def okI (n : Int) : Bool := decide (-9223372036854775808 ≤ n) && decide (n ≤ 9223372036854775807)
def okS (s : ByteArray) : Bool := decide (s.size ≤ 140737488351232)

theorem okI_wf {n : Int} (h : okI n = true) : wf64 n := by
  simp only [okI, Bool.and_eq_true, decide_eq_true_eq] at h
  exact h

def rowOf : Ab → Option (List Tm)
  | .row l => some l
  | .val (.slice none 0 0) => some []
  | _ => none

variable [Env]

theorem rowOf_ok {x : Ab} {l : List Tm} (h : rowOf x = some l) {p : Nat → Option Nat} {w : World} {v : Value} (hv : x.pd p w v) : (Ab.row l).pd p w v := by
  unfold rowOf at h
  split at h
  · injection h with h; subst h; exact hv
  · injection h with h
    subst h
    obtain rfl : v = _ := hv
    exact ⟨none, 0, rfl, by simp, by simp, by unfold maxLen; omega, by unfold ArgsIn; trivial⟩
  · cases h

def c1i : List Ab → Option Int
  | [.val (.int .i64 n)] => if okI n then some n else none
  | _ => none
def c1s : List Ab → Option ByteArray
  | [.val (.string s)] => if okS s then some s else none
  | _ => none
def c1t : List Ab → Option Tm
  | [.term t] => some t
  | _ => none
def c2t : List Ab → Option (Tm × Tm)
  | [.term t, .term u] => some (t, u)
  | _ => none
def csr : List Ab → Option (ByteArray × List Tm)
  | [.val (.string s), y] => match rowOf y with
    | some l => if okS s then some (s, l) else none
    | none => none
  | _ => none
def cti : List Ab → Option (Tm × Int)
  | [.term t, .val (.int .i64 n)] => if okI n then some (t, n) else none
  | _ => none
def ctit : List Ab → Option (Tm × Int × Tm)
  | [.term t, .val (.int .i64 n), .term u] => some (t, n, u)
  | _ => none
def crt : List Ab → Option (List Tm × Tm)
  | [x, .term u] => match rowOf x with
    | some l => some (l, u)
    | none => none
  | _ => none

theorem c1i_ok {l : List Ab} {n : Int} (h : c1i l = some n) {p : Nat → Option Nat} {w : World} {vs : List Value} (hv : Args p w l vs) : vs = [.int .i64 n] ∧ wf64 n := by
  unfold c1i at h
  split at h
  · split at h
    · rename_i hk
      injection h with h
      subst h
      match vs, hv with
      | [v], ⟨h1, _⟩ => exact ⟨by rw [show v = _ from h1], okI_wf hk⟩
    · cases h
  · cases h

theorem c1s_ok {l : List Ab} {s : ByteArray} (h : c1s l = some s) {p : Nat → Option Nat} {w : World} {vs : List Value} (hv : Args p w l vs) : vs = [.string s] ∧ s.size ≤ 140737488351232 := by
  unfold c1s at h
  split at h
  · split at h
    · rename_i hk
      injection h with h
      subst h
      match vs, hv with
      | [v], ⟨h1, _⟩ => exact ⟨by rw [show v = _ from h1], by simpa [okS] using hk⟩
    · cases h
  · cases h

theorem c1t_ok {l : List Ab} {t : Tm} (h : c1t l = some t) {p : Nat → Option Nat} {w : World} {vs : List Value} (hv : Args p w l vs) : ∃ v, vs = [v] ∧ TmIn w (Fr p) t v := by
  unfold c1t at h
  split at h
  · injection h with h
    subst h
    match vs, hv with
    | [v], ⟨h1, _⟩ => exact ⟨v, rfl, h1⟩
  · cases h

theorem c2t_ok {l : List Ab} {t u : Tm} (h : c2t l = some (t, u)) {p : Nat → Option Nat} {w : World} {vs : List Value} (hv : Args p w l vs) : ∃ v v', vs = [v, v'] ∧ TmIn w (Fr p) t v ∧ TmIn w (Fr p) u v' := by
  unfold c2t at h
  split at h
  · injection h with h
    injection h with h h'
    subst h h'
    match vs, hv with
    | [v, v'], ⟨h1, h2, _⟩ => exact ⟨v, v', rfl, h1, h2⟩
  · cases h

theorem csr_ok {l : List Ab} {s : ByteArray} {ts : List Tm} (h : csr l = some (s, ts)) {p : Nat → Option Nat} {w : World} {vs : List Value} (hv : Args p w l vs) :
    s.size ≤ 140737488351232 ∧ ∃ A cap, vs = [.string s, .slice A ts.length cap] ∧ ts.length ≤ cap ∧ ts.length ≤ 140737488351232 ∧ cap ≤ maxLen ∧ ArgsIn w (Fr p) ts A 0 := by
  unfold csr at h
  split at h
  · split at h
    · rename_i l' hr
      split at h
      · rename_i hk
        injection h with h
        injection h with h h'
        subst h h'
        match vs, hv with
        | [v, v'], ⟨h1, h2, _⟩ =>
          obtain ⟨A, cap, he, h3⟩ := rowOf_ok hr h2
          exact ⟨by simpa [okS] using hk, A, cap, by rw [show v = _ from h1, he], h3⟩
      · cases h
    · cases h
  · cases h

theorem cti_ok {l : List Ab} {t : Tm} {n : Int} (h : cti l = some (t, n)) {p : Nat → Option Nat} {w : World} {vs : List Value} (hv : Args p w l vs) : wf64 n ∧ ∃ v, vs = [v, .int .i64 n] ∧ TmIn w (Fr p) t v := by
  unfold cti at h
  split at h
  · split at h
    · rename_i hk
      injection h with h
      injection h with h h'
      subst h h'
      match vs, hv with
      | [v, v'], ⟨h1, h2, _⟩ => exact ⟨okI_wf hk, v, by rw [show v' = _ from h2], h1⟩
    · cases h
  · cases h

theorem ctit_ok {l : List Ab} {t u : Tm} {n : Int} (h : ctit l = some (t, n, u)) {p : Nat → Option Nat} {w : World} {vs : List Value} (hv : Args p w l vs) : ∃ v v', vs = [v, .int .i64 n, v'] ∧ TmIn w (Fr p) t v ∧ TmIn w (Fr p) u v' := by
  unfold ctit at h
  split at h
  · injection h with h
    injection h with h h'
    injection h' with h' h''
    subst h h' h''
    match vs, hv with
    | [v, v', v''], ⟨h1, h2, h3, _⟩ => exact ⟨v, v'', by rw [show v' = _ from h2], h1, h3⟩
  · cases h

theorem crt_ok {l : List Ab} {u : Tm} {ts : List Tm} (h : crt l = some (ts, u)) {p : Nat → Option Nat} {w : World} {vs : List Value} (hv : Args p w l vs) :
    ∃ A cap v, vs = [.slice A ts.length cap, v] ∧ ts.length ≤ cap ∧ ts.length ≤ 140737488351232 ∧ cap ≤ maxLen ∧ ArgsIn w (Fr p) ts A 0 ∧ TmIn w (Fr p) u v := by
  unfold crt at h
  split at h
  · split at h
    · rename_i l' hr
      injection h with h
      injection h with h h'
      subst h h'
      match vs, hv with
      | [v, v'], ⟨h1, h2, _⟩ =>
        obtain ⟨A, cap, he, h3, h4, h5, h6⟩ := rowOf_ok hr h1
        exact ⟨A, cap, v', by rw [he], h3, h4, h5, h6, h2⟩
    · cases h
  · cases h

theorem ret_new {t : Tm} {p : Nat → Option Nat} {w : World} {e : Ending} {w' : World} (h : ∃ u, e = .returned u ∧ TmNew w' w.heap.size t u ∧ But Nil w w') : ∃ v p', e = .returned v ∧ Ext p w p' w' ∧ (Ab.term t).pd p' w' v := by
  obtain ⟨u, rfl, hn, hb⟩ := h
  exact ⟨u, pin0 p w, rfl, Ext.plain hb, hn.pins⟩

theorem ret_val {v : Value} {p : Nat → Option Nat} {w : World} {e : Ending} {w' : World} (h : e = .returned v ∧ But Nil w w') : ∃ v' p', e = .returned v' ∧ Ext p w p' w' ∧ (Ab.val v).pd p' w' v' := by
  obtain ⟨rfl, hb⟩ := h
  exact ⟨v, pin0 p w, rfl, Ext.plain hb, rfl⟩

end Go.Proofs.Ytloekfnlidclcaa

