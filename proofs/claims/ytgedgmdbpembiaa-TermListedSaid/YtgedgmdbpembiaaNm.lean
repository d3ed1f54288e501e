/-
  The law's numbers and has: the walks; the reference's Vars. No condition.
-/
import Derived.Test.YtgedgmdbpembiaaRt
import Derived.BigQuiet
namespace Go.Proofs.Ytgedgmdbpembiaa
open Go.RowKit Go.Maps
set_option linter.unusedVariables false

theorem list_eq_of {l l' : List Int} (hl : l.length = l'.length) (h : ∀ q (h1 : q < l.length) (h2 : q < l'.length), l[q] = l'[q]) : l = l' := List.ext_getElem hl fun q h1 h2 => h q h1 h2

set_option maxHeartbeats 400000 in
theorem numbers_any (l l' : List Int) (A A' : Option Addr) (cap cap' : Nat) (w : World) (hl : l.length ≤ 1099511627777) (hl' : l'.length ≤ 1099511627777) (h : IntsIn w (fun _ => True) A l) (h' : IntsIn w (fun _ => True) A' l') :
    Calls Try.prog 24 #[.slice A l.length cap, .slice A' l'.length cap'] w fun e w' => e = .returned (.bool (decide (l = l'))) ∧ But Nil w w' := by
  by_cases hlen : l.length = l'.length
  case neg =>
    have d1 : ((l.length : Int) != (l'.length : Int)) = true := by simp; omega
    have hne : l ≠ l' := fun e => hlen (by rw [e])
    have Hne := Lib.hid hne
    clear hne hlen
    go_enter Try.func24, Try.ntmps24
    go_wp2_with fail
    go_ret
    exact ⟨ret_bool (by simp [Hne.out]), But.refl _ _⟩
  case pos =>
    have d1 : ((l.length : Int) != (l'.length : Int)) = false := by simp; omega
    have Hlen := Lib.hid hlen
    clear hlen
    go_enter Try.func24, Try.ntmps24
    go_wp2_with fail
    go_loopw [5] (fun i wr => ∃ (j : Nat), j ≤ l.length ∧ i = .int .i64 j ∧ (∀ q (h1 : q < l.length) (h2 : q < l'.length), q < j → l[q] = l'[q]) ∧ But Nil w wr) (fun i _ => l.length - (intOf i).toNat)
    case atStart => exact ⟨0, by omega, rfl, fun q _ _ hq => by omega, But.refl _ _⟩
    case round =>
      obtain ⟨j, hj, rfl, hno, hbut⟩ := hrel
      have Hno := Lib.hid hno
      clear hno
      by_cases hjl : j < l.length
      · have hjl' : j < l'.length := by have := Hlen.out; omega
        obtain ⟨b, o, rfl, -, hc⟩ := h j hjl
        obtain ⟨b', o', rfl, -, hc'⟩ := h' j hjl'
        have hk := hbut.drew.cell id hc
        have hk' := hbut.drew.cell id hc'
        have hk0 := hbut.cell id hc
        have hk0' := hbut.cell id hc'
        clear hc hc'
        by_cases he : l[j] = l'[j]
        · have he' : (l[j] != l'[j]) = false := by simpa using he
          have He := Lib.hid he
          clear he
          go_wp2_with fail
          go_quiet (fail)
          go_wp2_with fail
          go_roundw
          case rel => exact ⟨j + 1, by omega, by go_num, fun q h1 h2 hqj => by
            rcases Nat.lt_or_ge q j with h3 | h3
            · exact Hno.out q h1 h2 h3
            · obtain rfl : q = j := by omega
              exact He.out, hbut.drewN _⟩
          case measure => simp [intOf]; omega
        · have he' : (l[j] != l'[j]) = true := by simpa using he
          have He := Lib.hid he
          clear he
          go_wp2_with fail
          go_quiet (fail)
          go_wp2_with fail
          go_ret
          exact ⟨ret_bool (by
            have : l ≠ l' := fun e => by subst e; exact He.out rfl
            simp [this]), hbut.drewN _⟩
      · go_wp2_with fail
        go_ret
        exact ⟨ret_bool (by
          have : l = l' := list_eq_of Hlen.out fun q h1 h2 => Hno.out q h1 h2 (by omega)
          simp [this]), hbut⟩

set_option maxHeartbeats 400000 in
theorem has_any (l : List Int) (A : Option Addr) (cap : Nat) (n : Int) (w : World) (hl : l.length ≤ 1099511627777) (h : IntsIn w (fun _ => True) A l) :
    Calls Try.prog 41 #[.slice A l.length cap, .int .i64 n] w fun e w' => e = .returned (.bool (decide (n ∈ l))) ∧ But Nil w w' := by
  go_enter Try.func41, Try.ntmps41
  go_wp2_with fail
  go_loopw [5] (fun i wr => ∃ (j : Nat), j ≤ l.length ∧ i = .int .i64 j ∧ (∀ q (hq : q < l.length), q < j → l[q] ≠ n) ∧ But Nil w wr) (fun i _ => l.length - (intOf i).toNat)
  case atStart => exact ⟨0, by omega, rfl, fun q _ hq => by omega, But.refl _ _⟩
  case round =>
    obtain ⟨j, hj, rfl, hno, hbut⟩ := hrel
    have Hno := Lib.hid hno
    clear hno
    by_cases hjl : j < l.length
    · obtain ⟨b, o, rfl, -, hc⟩ := h j hjl
      have hc' := hbut.cell id hc
      clear hc
      by_cases he : l[j] = n
      · have he' : (l[j] == n) = true := by simpa using he
        have He := Lib.hid he
        clear he
        go_wp2_with fail
        go_ret
        exact ⟨ret_bool (by
          have : n ∈ l := by rw [← He.out]; exact List.getElem_mem hjl
          simp [this]), hbut⟩
      · have he' : (l[j] == n) = false := by simpa using he
        have He := Lib.hid he
        clear he
        go_wp2_with fail
        go_roundw
        case rel => exact ⟨j + 1, by omega, by go_num, fun q hq hqj => by
          rcases Nat.lt_or_ge q j with h1 | h1
          · exact Hno.out q hq h1
          · obtain rfl : q = j := by omega
            exact He.out, hbut⟩
        case measure => simp [intOf]; omega
    · go_wp2_with fail
      go_ret
      exact ⟨ret_bool (by
        have : ¬ n ∈ l := fun hm => by
          obtain ⟨q, hq, he⟩ := List.getElem_of_mem hm
          exact Hno.out q hq (by omega) he
        simp [this]), hbut⟩

/-- A function that makes a list of numbers of a term. -/
structure ConI (f : FuncId) (t : Tm) (l : List Int) : Prop where
  enter : ∀ args w, (callFunc f args).run Try.prog w = .ok (.enter f args) w
  call : ∀ (p : Nat → Option Nat) w v, TmIn w (Fr p) t v → Calls Try.prog f #[v] w fun e w' => ∃ A cap p', e = .returned (.slice A l.length cap) ∧ Ext p w p' w' ∧ l.length ≤ cap ∧ cap ≤ maxLen ∧ l.length ≤ 1099511627777 ∧ IntsIn w' (Fr p') A l

theorem ConI.ent [Env] {f : FuncId} {n k : Nat} (h : ConI f (Env.T n) (Env.L k)) : Entry f [.tok n] (.itok k) := ⟨h.enter, fun p w vs hv => by
  match vs, hv with
  | [v], ⟨h1, _⟩ =>
    refine (h.call p w v h1).mono ?_
    rintro e w' ⟨A, cap, p', rfl, hx, h2, h3, h4, h5⟩
    exact ⟨_, p', rfl, hx, A, cap, rfl, h2, h3, h4, h5⟩⟩

theorem rVars_con (t : Tm) : ConI 26 t (varsT t) := by
  letI : Env := { T := fun _ => t, L := fun _ => varsT t }
  cases hb : validT t with
  | false =>
    have h : Entry 26 [.tok 0] (.val (.slice none 0 0)) :=
      entry_code (tbl_ok (T := [(14, [.tok 0], .val (.bool false))]) ⟨ent_tv (fun _ _ => by kernel_rfl) fun w y h => hb ▸ rvalid_any t w y h, trivial⟩) [.tok 0] Try.func26 rfl (fun _ _ => by kernel_rfl) (by kernel_rfl) (by kernel_rfl) rfl rfl (by simp [Try.ntmps26])
    refine ⟨h.enter, fun p w v hv => (h.call p w [v] ⟨hv, trivial⟩).mono ?_⟩
    rintro e w' ⟨u, p', rfl, hx, hu⟩
    obtain rfl : u = .slice none 0 0 := hu
    rw [show varsT t = [] by simp [varsT, hb]]
    exact ⟨none, 0, p', rfl, hx, by simp, by unfold maxLen; omega, by simp, fun j hj => by simp at hj⟩
  | true =>
    have h : Entry 26 [.tok 0] (.itok 0) :=
      entry_code (tbl_ok (T := [(14, [.tok 0], .val (.bool true)), (64, [.val (.slice none 0 0), .tok 0], .itok 0)]) ⟨ent_tv (fun _ _ => by kernel_rfl) fun w y h => hb ▸ rvalid_any t w y h, ent_vars (valid_fits hb) (by show varsT t = _; simp [varsT, hb]; rfl), trivial⟩) [.tok 0] Try.func26 rfl (fun _ _ => by kernel_rfl) (by kernel_rfl) (by kernel_rfl) rfl rfl (by simp [Try.ntmps26])
    refine ⟨h.enter, fun p w v hv => (h.call p w [v] ⟨hv, trivial⟩).mono ?_⟩
    rintro e w' ⟨u, p', rfl, hx, A, cap, rfl, h2, h3, h4, h5⟩
    exact ⟨A, cap, p', rfl, hx, h2, h3, h4, h5⟩

end Go.Proofs.Ytgedgmdbpembiaa
