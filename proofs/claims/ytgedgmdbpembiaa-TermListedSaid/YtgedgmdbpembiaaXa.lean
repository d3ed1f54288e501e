/-
  The law's makers of terms: the walks; and the table of the calls, on what is known.
-/
import Derived.Test.YtgedgmdbpembiaaRa
namespace Go.Proofs.Ytgedgmdbpembiaa
open Go.RowKit Go.Maps
set_option linter.unusedVariables false

theorem x_any (n : Int) (w : World) (h : wf64 n) : Calls Try.prog 56 #[.int .i64 n] w fun e w' => ∃ u, e = .returned u ∧ TmNew w' w.heap.size (.mk 0 n ⟨#[]⟩ []) u ∧ But Nil w w' := by
  go_enter Try.func56, Try.ntmps56
  go_wp2_with fail
  exact bodyPost_ret (v := .agg #[.int .i64 0, .int .i64 n, .string ⟨#[]⟩, .slice none 0 0]) (by simp [results, Try.results56, go_sem]) rfl
    ⟨_, rfl, flat_new (by unfold wf64; omega) h (by decide), (But.refl _ _).alloc _⟩

theorem a_any (s : ByteArray) (w : World) (h : s.size ≤ 140737488351232) : Calls Try.prog 57 #[.string s] w fun e w' => ∃ u, e = .returned u ∧ TmNew w' w.heap.size (.mk 2 0 s []) u ∧ But Nil w w' := by
  go_enter Try.func57, Try.ntmps57
  go_wp2_with fail
  exact bodyPost_ret (v := .agg #[.int .i64 2, .int .i64 0, .string s, .slice none 0 0]) (by simp [results, Try.results57, go_sem]) rfl
    ⟨_, rfl, flat_new (by unfold wf64; omega) (by unfold wf64; omega) h, (But.refl _ _).alloc _⟩

/-- The maker of a structure: its arguments are the caller's. -/
theorem f_any (s : ByteArray) (l : List Tm) (A : Option Addr) (cap : Nat) (w : World) (D : Nat → Prop) (h : s.size ≤ 140737488351232) (h5 : l.length ≤ cap) (h6 : l.length ≤ 140737488351232) (hm : cap ≤ maxLen) (hl : ArgsIn w D l A 0) :
    Calls Try.prog 55 #[.string s, .slice A l.length cap] w fun e w' => ∃ u, e = .returned u ∧ TmIn w D (.mk 3 0 s l) u ∧ But Nil w w' := by
  go_enter Try.func55, Try.ntmps55
  go_wp2_with fail
  refine bodyPost_ret (v := .agg #[.int .i64 3, .int .i64 0, .string s, .slice A l.length cap]) (by simp [results, Try.results55, go_sem]) rfl ⟨_, rfl, ?_, (But.refl _ _).alloc _⟩
  unfold TmIn
  exact ⟨A, l.length, cap, rfl, by unfold wf64; omega, by unfold wf64; omega, h, rfl, h5, h6, hm, hl⟩

def okI (n : Int) : Bool := decide (-9223372036854775808 ≤ n) && decide (n ≤ 9223372036854775807)
def okS (s : ByteArray) : Bool := decide (s.size ≤ 140737488351232)

theorem okI_wf {n : Int} (h : okI n = true) : wf64 n := by
  simp only [okI, Bool.and_eq_true, decide_eq_true_eq] at h
  exact h

def rowOf : Ab → Option (List Tm)
  | .row l => some l
  | .val (.slice none 0 0) => some []
  | _ => none

variable [Env]

theorem rowOf_ok {x : Ab} {l : List Tm} (h : rowOf x = some l) {p : Nat → Option Nat} {w : World} {v : Value} (hv : x.pd p w v) : (Ab.row l).pd p w v := by
  unfold rowOf at h
  split at h
  · injection h with h; subst h; exact hv
  · injection h with h
    subst h
    obtain rfl : v = _ := hv
    exact ⟨none, 0, rfl, by simp, by simp, by unfold maxLen; omega, by unfold ArgsIn; trivial⟩
  · cases h

def c1i : List Ab → Option Int
  | [.val (.int .i64 n)] => if okI n then some n else none
  | _ => none
def c1s : List Ab → Option ByteArray
  | [.val (.string s)] => if okS s then some s else none
  | _ => none
def c1t : List Ab → Option Tm
  | [.term t] => some t
  | _ => none
def c2t : List Ab → Option (Tm × Tm)
  | [.term t, .term u] => some (t, u)
  | _ => none
def csr : List Ab → Option (ByteArray × List Tm)
  | [.val (.string s), y] => match rowOf y with
    | some l => if okS s then some (s, l) else none
    | none => none
  | _ => none
def cti : List Ab → Option (Tm × Int)
  | [.term t, .val (.int .i64 n)] => if okI n then some (t, n) else none
  | _ => none
def ctit : List Ab → Option (Tm × Int × Tm)
  | [.term t, .val (.int .i64 n), .term u] => some (t, n, u)
  | _ => none
def crt : List Ab → Option (List Tm × Tm)
  | [x, .term u] => match rowOf x with
    | some l => some (l, u)
    | none => none
  | _ => none

theorem c1i_ok {l : List Ab} {n : Int} (h : c1i l = some n) {p : Nat → Option Nat} {w : World} {vs : List Value} (hv : Args p w l vs) : vs = [.int .i64 n] ∧ wf64 n := by
  unfold c1i at h
  split at h
  · split at h
    · rename_i hk
      injection h with h
      subst h
      match vs, hv with
      | [v], ⟨h1, _⟩ => exact ⟨by rw [show v = _ from h1], okI_wf hk⟩
    · cases h
  · cases h

theorem c1s_ok {l : List Ab} {s : ByteArray} (h : c1s l = some s) {p : Nat → Option Nat} {w : World} {vs : List Value} (hv : Args p w l vs) : vs = [.string s] ∧ s.size ≤ 140737488351232 := by
  unfold c1s at h
  split at h
  · split at h
    · rename_i hk
      injection h with h
      subst h
      match vs, hv with
      | [v], ⟨h1, _⟩ => exact ⟨by rw [show v = _ from h1], by simpa [okS] using hk⟩
    · cases h
  · cases h

theorem c1t_ok {l : List Ab} {t : Tm} (h : c1t l = some t) {p : Nat → Option Nat} {w : World} {vs : List Value} (hv : Args p w l vs) : ∃ v, vs = [v] ∧ TmIn w (Fr p) t v := by
  unfold c1t at h
  split at h
  · injection h with h
    subst h
    match vs, hv with
    | [v], ⟨h1, _⟩ => exact ⟨v, rfl, h1⟩
  · cases h

theorem c2t_ok {l : List Ab} {t u : Tm} (h : c2t l = some (t, u)) {p : Nat → Option Nat} {w : World} {vs : List Value} (hv : Args p w l vs) : ∃ v v', vs = [v, v'] ∧ TmIn w (Fr p) t v ∧ TmIn w (Fr p) u v' := by
  unfold c2t at h
  split at h
  · injection h with h
    injection h with h h'
    subst h h'
    match vs, hv with
    | [v, v'], ⟨h1, h2, _⟩ => exact ⟨v, v', rfl, h1, h2⟩
  · cases h

theorem csr_ok {l : List Ab} {s : ByteArray} {ts : List Tm} (h : csr l = some (s, ts)) {p : Nat → Option Nat} {w : World} {vs : List Value} (hv : Args p w l vs) :
    s.size ≤ 140737488351232 ∧ ∃ A cap, vs = [.string s, .slice A ts.length cap] ∧ ts.length ≤ cap ∧ ts.length ≤ 140737488351232 ∧ cap ≤ maxLen ∧ ArgsIn w (Fr p) ts A 0 := by
  unfold csr at h
  split at h
  · split at h
    · rename_i l' hr
      split at h
      · rename_i hk
        injection h with h
        injection h with h h'
        subst h h'
        match vs, hv with
        | [v, v'], ⟨h1, h2, _⟩ =>
          obtain ⟨A, cap, he, h3⟩ := rowOf_ok hr h2
          exact ⟨by simpa [okS] using hk, A, cap, by rw [show v = _ from h1, he], h3⟩
      · cases h
    · cases h
  · cases h

theorem cti_ok {l : List Ab} {t : Tm} {n : Int} (h : cti l = some (t, n)) {p : Nat → Option Nat} {w : World} {vs : List Value} (hv : Args p w l vs) : wf64 n ∧ ∃ v, vs = [v, .int .i64 n] ∧ TmIn w (Fr p) t v := by
  unfold cti at h
  split at h
  · split at h
    · rename_i hk
      injection h with h
      injection h with h h'
      subst h h'
      match vs, hv with
      | [v, v'], ⟨h1, h2, _⟩ => exact ⟨okI_wf hk, v, by rw [show v' = _ from h2], h1⟩
    · cases h
  · cases h

theorem ctit_ok {l : List Ab} {t u : Tm} {n : Int} (h : ctit l = some (t, n, u)) {p : Nat → Option Nat} {w : World} {vs : List Value} (hv : Args p w l vs) : ∃ v v', vs = [v, .int .i64 n, v'] ∧ TmIn w (Fr p) t v ∧ TmIn w (Fr p) u v' := by
  unfold ctit at h
  split at h
  · injection h with h
    injection h with h h'
    injection h' with h' h''
    subst h h' h''
    match vs, hv with
    | [v, v', v''], ⟨h1, h2, h3, _⟩ => exact ⟨v, v'', by rw [show v' = _ from h2], h1, h3⟩
  · cases h

theorem crt_ok {l : List Ab} {u : Tm} {ts : List Tm} (h : crt l = some (ts, u)) {p : Nat → Option Nat} {w : World} {vs : List Value} (hv : Args p w l vs) :
    ∃ A cap v, vs = [.slice A ts.length cap, v] ∧ ts.length ≤ cap ∧ ts.length ≤ 140737488351232 ∧ cap ≤ maxLen ∧ ArgsIn w (Fr p) ts A 0 ∧ TmIn w (Fr p) u v := by
  unfold crt at h
  split at h
  · split at h
    · rename_i l' hr
      injection h with h
      injection h with h h'
      subst h h'
      match vs, hv with
      | [v, v'], ⟨h1, h2, _⟩ =>
        obtain ⟨A, cap, he, h3, h4, h5, h6⟩ := rowOf_ok hr h1
        exact ⟨A, cap, v', by rw [he], h3, h4, h5, h6, h2⟩
    · cases h
  · cases h

/-- The calls of this chapter's programs. -/
def callT (f : FuncId) (l : List Ab) : Option Ab :=
  if f == 56 then (c1i l).map fun n => .term (.mk 0 n ⟨#[]⟩ [])
  else if f == 57 then (c1s l).map fun s => .term (.mk 2 0 s [])
  else if f == 55 then (csr l).map fun x => .term (.mk 3 0 x.1 x.2)
  else if f == 44 then (c1i l).map fun n => .term (intT n)
  else if f == 42 then (csr l).map fun x => .term (structT x.1 x.2)
  else if f == 13 then (c1t l).map fun t => .val (.bool (validT t))
  else if f == 15 then (c1t l).map fun t => .val (.int .i64 (sizeT t))
  else if f == 18 then (c2t l).map fun x => .val (.bool (sameT x.1 x.2))
  else if f == 20 then (c2t l).map fun x => .val (.bool (variantT x.1 x.2))
  else if f == 22 then (c1t l).map fun t => .term (canonT t)
  else if f == 25 then (c1t l).map fun t => .ints (varsT t)
  else if f == 31 then (cti l).map fun x => .pair (.term (renameT x.1 x.2).1) (.val (.int .i64 (renameT x.1 x.2).2))
  else if f == 33 then (ctit l).map fun x => .pair (.term (replaceT x.1 x.2.1 x.2.2).1) (.val (.int .i64 (replaceT x.1 x.2.1 x.2.2).2))
  else if f == 35 then (crt l).map fun x => .term (listT x.1 x.2)
  else if f == 37 then (c1t l).map fun t => .pair (.row (elemsT t).1) (.term (elemsT t).2)
  else none

theorem ret_new {t : Tm} {p : Nat → Option Nat} {w : World} {e : Ending} {w' : World} (h : ∃ u, e = .returned u ∧ TmNew w' w.heap.size t u ∧ But Nil w w') : ∃ v p', e = .returned v ∧ Ext p w p' w' ∧ (Ab.term t).pd p' w' v := by
  obtain ⟨u, rfl, hn, hb⟩ := h
  exact ⟨u, pin0 p w, rfl, Ext.plain hb, hn.pins⟩

theorem ret_val {v : Value} {p : Nat → Option Nat} {w : World} {e : Ending} {w' : World} (h : e = .returned v ∧ But Nil w w') : ∃ v' p', e = .returned v' ∧ Ext p w p' w' ∧ (Ab.val v).pd p' w' v' := by
  obtain ⟨rfl, hb⟩ := h
  exact ⟨v, pin0 p w, rfl, Ext.plain hb, rfl⟩

theorem callT_ok : CallsOk callT := by
  intro f l x h
  unfold callT at h
  by_cases hf : (f == 56) = true
  · rw [if_pos hf] at h
    obtain rfl := eq_of_beq hf
    obtain ⟨n, hn, rfl⟩ := Option.map_eq_some_iff.1 h
    refine ⟨fun _ _ => by kernel_rfl, fun p w vs hv => ?_⟩
    obtain ⟨rfl, h1⟩ := c1i_ok hn hv
    exact (x_any n w h1).mono fun _ _ => ret_new
  rw [if_neg hf] at h
  by_cases hf : (f == 57) = true
  · rw [if_pos hf] at h
    obtain rfl := eq_of_beq hf
    obtain ⟨n, hn, rfl⟩ := Option.map_eq_some_iff.1 h
    refine ⟨fun _ _ => by kernel_rfl, fun p w vs hv => ?_⟩
    obtain ⟨rfl, h1⟩ := c1s_ok hn hv
    exact (a_any n w h1).mono fun _ _ => ret_new
  rw [if_neg hf] at h
  by_cases hf : (f == 55) = true
  · rw [if_pos hf] at h
    obtain rfl := eq_of_beq hf
    obtain ⟨⟨s, ts⟩, hn, rfl⟩ := Option.map_eq_some_iff.1 h
    refine ⟨fun _ _ => by kernel_rfl, fun p w vs hv => ?_⟩
    obtain ⟨h0, A, cap, rfl, h1, h2, h3, h4⟩ := csr_ok hn hv
    exact (f_any s ts A cap w (Fr p) h0 h1 h2 h3 h4).mono fun e w' ⟨u, he, ht, hb⟩ => ⟨u, pin0 p w, he, Ext.plain hb, TmIn.keeps (Ext.plain hb).keepsIn _ ht⟩
  rw [if_neg hf] at h
  by_cases hf : (f == 44) = true
  · rw [if_pos hf] at h
    obtain rfl := eq_of_beq hf
    obtain ⟨n, hn, rfl⟩ := Option.map_eq_some_iff.1 h
    refine ⟨fun _ _ => by kernel_rfl, fun p w vs hv => ?_⟩
    obtain ⟨rfl, h1⟩ := c1i_ok hn hv
    exact (int_any n w h1).mono fun _ _ => ret_new
  rw [if_neg hf] at h
  by_cases hf : (f == 42) = true
  · rw [if_pos hf] at h
    obtain rfl := eq_of_beq hf
    obtain ⟨⟨s, ts⟩, hn, rfl⟩ := Option.map_eq_some_iff.1 h
    refine ⟨fun _ _ => by kernel_rfl, fun p w vs hv => ?_⟩
    obtain ⟨h0, A, cap, rfl, h1, h2, h3, h4⟩ := csr_ok hn hv
    exact (struct_any s ts A cap w h0 h1 h2 h3 h4.at_w).mono fun _ _ => ret_new
  rw [if_neg hf] at h
  by_cases hf : (f == 13) = true
  · rw [if_pos hf] at h
    obtain rfl := eq_of_beq hf
    obtain ⟨t, hn, rfl⟩ := Option.map_eq_some_iff.1 h
    refine ⟨fun _ _ => by kernel_rfl, fun p w vs hv => ?_⟩
    obtain ⟨v, rfl, h1⟩ := c1t_ok hn hv
    exact (valid_any t w v h1.at_w).mono fun _ _ => ret_val
  rw [if_neg hf] at h
  by_cases hf : (f == 15) = true
  · rw [if_pos hf] at h
    obtain rfl := eq_of_beq hf
    obtain ⟨t, hn, rfl⟩ := Option.map_eq_some_iff.1 h
    refine ⟨fun _ _ => by kernel_rfl, fun p w vs hv => ?_⟩
    obtain ⟨v, rfl, h1⟩ := c1t_ok hn hv
    exact (size_any t w v h1.at_w).mono fun _ _ => ret_val
  rw [if_neg hf] at h
  by_cases hf : (f == 18) = true
  · rw [if_pos hf] at h
    obtain rfl := eq_of_beq hf
    obtain ⟨⟨t, u⟩, hn, rfl⟩ := Option.map_eq_some_iff.1 h
    refine ⟨fun _ _ => by kernel_rfl, fun p w vs hv => ?_⟩
    obtain ⟨v, v', rfl, h1, h2⟩ := c2t_ok hn hv
    exact (same_any t u w v v' h1.at_w h2.at_w).mono fun _ _ => ret_val
  rw [if_neg hf] at h
  by_cases hf : (f == 20) = true
  · rw [if_pos hf] at h
    obtain rfl := eq_of_beq hf
    obtain ⟨⟨t, u⟩, hn, rfl⟩ := Option.map_eq_some_iff.1 h
    refine ⟨fun _ _ => by kernel_rfl, fun p w vs hv => ?_⟩
    obtain ⟨v, v', rfl, h1, h2⟩ := c2t_ok hn hv
    exact (variant_any t u w v v' h1.at_w h2.at_w).mono fun _ _ => ret_val
  rw [if_neg hf] at h
  by_cases hf : (f == 22) = true
  · rw [if_pos hf] at h
    obtain rfl := eq_of_beq hf
    obtain ⟨t, hn, rfl⟩ := Option.map_eq_some_iff.1 h
    refine ⟨fun _ _ => by kernel_rfl, fun p w vs hv => ?_⟩
    obtain ⟨v, rfl, h1⟩ := c1t_ok hn hv
    exact (canon_any t w v h1.at_w).mono fun _ _ => ret_new
  rw [if_neg hf] at h
  by_cases hf : (f == 25) = true
  · rw [if_pos hf] at h
    obtain rfl := eq_of_beq hf
    obtain ⟨t, hn, rfl⟩ := Option.map_eq_some_iff.1 h
    refine ⟨fun _ _ => by kernel_rfl, fun p w vs hv => ?_⟩
    obtain ⟨v, rfl, h1⟩ := c1t_ok hn hv
    refine (vars_any t w v h1.at_w).mono fun e w' ⟨A, cap, he, h2, h3, h4, h5, hb⟩ => ⟨_, pin0 p w, he, Ext.plain hb, ⟨A, cap, rfl, h2, h3, h5, ?_⟩⟩
    exact h4.but (But.refl Nil _) fun k hk => ⟨id, by simp only [Fr, pin0]; rw [if_neg (by omega)]⟩
  rw [if_neg hf] at h
  by_cases hf : (f == 31) = true
  · rw [if_pos hf] at h
    obtain rfl := eq_of_beq hf
    obtain ⟨⟨t, n⟩, hn, rfl⟩ := Option.map_eq_some_iff.1 h
    refine ⟨fun _ _ => by kernel_rfl, fun p w vs hv => ?_⟩
    obtain ⟨h0, v, rfl, h1⟩ := cti_ok hn hv
    exact (rename_any t n w v h1.at_w).mono fun e w' ⟨u, he, ht, hb⟩ => ⟨_, pin0 p w, he, Ext.plain hb, ⟨_, _, rfl, ht.pins, rfl⟩⟩
  rw [if_neg hf] at h
  by_cases hf : (f == 33) = true
  · rw [if_pos hf] at h
    obtain rfl := eq_of_beq hf
    obtain ⟨⟨t, n, u⟩, hn, rfl⟩ := Option.map_eq_some_iff.1 h
    refine ⟨fun _ _ => by kernel_rfl, fun p w vs hv => ?_⟩
    obtain ⟨v, v', rfl, h1, h2⟩ := ctit_ok hn hv
    exact (replace_any t u n w v v' h1.at_w h2.at_w).mono fun e w' ⟨u, he, ht, hb⟩ => ⟨_, pin0 p w, he, Ext.plain hb, ⟨_, _, rfl, ht.pins, rfl⟩⟩
  rw [if_neg hf] at h
  by_cases hf : (f == 35) = true
  · rw [if_pos hf] at h
    obtain rfl := eq_of_beq hf
    obtain ⟨⟨ts, u⟩, hn, rfl⟩ := Option.map_eq_some_iff.1 h
    refine ⟨fun _ _ => by kernel_rfl, fun p w vs hv => ?_⟩
    obtain ⟨A, cap, v, rfl, h1, h2, h3, h4, h5⟩ := crt_ok hn hv
    exact (list_any ts u A cap w v h1 h2 h3 h4.at_w h5.at_w).mono fun _ _ => ret_new
  rw [if_neg hf] at h
  by_cases hf : (f == 37) = true
  · rw [if_pos hf] at h
    obtain rfl := eq_of_beq hf
    obtain ⟨t, hn, rfl⟩ := Option.map_eq_some_iff.1 h
    refine ⟨fun _ _ => by kernel_rfl, fun p w vs hv => ?_⟩
    obtain ⟨v, rfl, h1⟩ := c1t_ok hn hv
    exact (elems_any t w v h1.at_w).mono fun e w' ⟨A, cap, u, he, h2, h3, h4, h5, ht, hb⟩ => ⟨_, pin0 p w, he, Ext.plain hb, ⟨_, _, rfl, ⟨A, cap, rfl, h2, by omega, h4, h5.pins⟩, ht.pins⟩⟩
  rw [if_neg hf] at h
  cases h

end Go.Proofs.Ytgedgmdbpembiaa
