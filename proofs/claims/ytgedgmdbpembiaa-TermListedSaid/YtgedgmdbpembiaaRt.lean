/-
  The reference's functions without loops: Vars, Clone, valid, Canon, Variant. No condition.
-/
import Derived.Test.YtgedgmdbpembiaaRv
namespace Go.Proofs.Ytgedgmdbpembiaa
open Go.RowKit
set_option linter.unusedVariables false

/-- A function that makes a term of a term. -/
structure ConT (f : FuncId) (t u : Tm) : Prop where
  enter : ∀ args w, (callFunc f args).run Try.prog w = .ok (.enter f args) w
  call : ∀ (p : Nat → Option Nat) w v, TmIn w (Fr p) t v → Calls Try.prog f #[v] w fun e w' => ∃ x p', e = .returned x ∧ Ext p w p' w' ∧ TmIn w' (Fr p') u x

theorem Entry.con [Env] {f : FuncId} {n k : Nat} (h : Entry f [.tok n] (.tok k)) : ConT f (Env.T n) (Env.T k) := ⟨h.enter, fun p w v hv => h.call p w [v] ⟨hv, trivial⟩⟩
theorem Entry.conT [Env] {f : FuncId} {n : Nat} {u : Tm} (h : Entry f [.tok n] (.term u)) : ConT f (Env.T n) u := ⟨h.enter, fun p w v hv => h.call p w [v] ⟨hv, trivial⟩⟩
theorem ConT.ent [Env] {f : FuncId} {n k : Nat} (h : ConT f (Env.T n) (Env.T k)) : Entry f [.tok n] (.tok k) := ⟨h.enter, fun p w vs hv => by
  match vs, hv with
  | [v], ⟨h1, _⟩ => exact h.call p w v h1⟩

theorem rclone_con (t : Tm) : ConT 28 t (cloneT t) := by
  letI : Env := { T := fun _ => t }
  cases hb : validT t with
  | false =>
    have h : Entry 28 [.tok 0] (.term zeroT) :=
      entry_code (tbl_ok (T := [(14, [.tok 0], .val (.bool false))]) ⟨ent_tv (fun _ _ => by kernel_rfl) fun w y h => hb ▸ rvalid_any t w y h, trivial⟩) [.tok 0] Try.func28 rfl (fun _ _ => by kernel_rfl) (by kernel_rfl) (by kernel_rfl) rfl rfl (by simp [Try.ntmps28])
    have h2 : ConT 28 t zeroT := h.conT
    rw [show cloneT t = zeroT by simp [cloneT, hb]]
    exact h2
  | true =>
    have h : Entry 28 [.tok 0] (.tok 0) :=
      entry_code (tbl_ok (T := [(14, [.tok 0], .val (.bool true)), (65, [.tok 0], .tok 0)]) ⟨ent_tv (fun _ _ => by kernel_rfl) fun w y h => hb ▸ rvalid_any t w y h, ent_tt (fun _ _ => by kernel_rfl) fun w y h => copied_any t w y h (valid_fits hb), trivial⟩) [.tok 0] Try.func28 rfl (fun _ _ => by kernel_rfl) (by kernel_rfl) (by kernel_rfl) rfl rfl (by simp [Try.ntmps28])
    have h2 : ConT 28 t t := h.con
    rw [show cloneT t = t by simp [cloneT, hb]]
    exact h2

theorem rvalidc_con (t : Tm) : ConT 74 t (cloneT t) := by
  letI : Env := { T := fun n => match n with | 0 => t | _ => cloneT t }
  have h : Entry 74 [.tok 0] (.tok 1) :=
    entry_code (tbl_ok (T := [(28, [.tok 0], .tok 1)]) ⟨ConT.ent (rclone_con t), trivial⟩) [.tok 0] Try.func74 rfl (fun _ _ => by kernel_rfl) (by kernel_rfl) (by kernel_rfl) rfl rfl (by simp [Try.ntmps74])
  exact h.con

theorem ent_vars [Env] {n k : Nat} (hf : fitsT (Env.T n) = true) (hk : Env.L k = (appT varG [] (Env.T n)).1) : Entry 64 [.val (.slice none 0 0), .tok n] (.itok k) := by
  refine ⟨fun _ _ => by kernel_rfl, fun p w vs hv => ?_⟩
  match vs, hv with
  | [x, v], ⟨h0, h1, _⟩ =>
    obtain rfl : x = .slice none 0 0 := h0
    refine (rvars_any (Env.T n) w v (.slice none 0 0) w.heap.size [] (TmIn.at_w h1) (Nat.le_refl _) (World.ownsRow_nil _ _ _ _) ⟨by simp, by simp⟩ hf).mono ?_
    rintro e w' ⟨va', rfl, hr, hV, hb⟩
    have hbn : But Nil w w' := hb.mono fun i hi hlt => by have := hi.1; omega
    obtain ⟨A, cap, rfl, h2, h3, h4⟩ := IntsIn.of_row hr
    refine ⟨_, pin0 p w, rfl, Ext.plain hbn, ?_⟩
    show ∃ A cap, _
    rw [hk]
    exact ⟨A, cap, rfl, h2, h3, hV.len, h4.but (But.refl Nil _) fun k hk => ⟨id, by simp only [Fr, pin0]; rw [if_neg (by omega)]⟩⟩

theorem ent_number [Env] {n k m : Nat} (hf : fitsT (Env.T n) = true) (hk : Env.T k = (appT (numG (Env.L m)) () (Env.T n)).2) : Entry 66 [.itok m, .tok n] (.tok k) := by
  refine ⟨fun _ _ => by kernel_rfl, fun p w vs hv => ?_⟩
  match vs, hv with
  | [x, v], ⟨⟨A, cap, he, h1, h2, h3, h4⟩, h5, _⟩ =>
    subst he
    refine (rnum_any (Env.L m) A cap h3 (Env.T n) w v (TmIn.at_w h5) hf (h4.but (But.refl Nil _) fun _ _ => ⟨id, trivial⟩)).mono ?_
    rintro e w' ⟨u, rfl, hn, hb⟩
    refine ⟨_, pin0 p w, rfl, Ext.plain hb, ?_⟩
    show TmIn _ _ (Env.T k) _
    rw [hk]
    exact hn.pins

theorem addV_mem (l : List Int) (n : Int) : n ∈ addV l n := by
  unfold addV
  split
  · assumption
  · simp

theorem addV_ext (l : List Int) (n : Int) : ∃ r, addV l n = l ++ r := by
  unfold addV
  split
  · exact ⟨[], by simp⟩
  · exact ⟨[n], rfl⟩

theorem vars_ext (t : Tm) : ∀ s, ∃ r, (appT varG s t).1 = s ++ r := by
  induction t using Tm.ind with
  | h k n nm ts ih =>
    intro s
    unfold appT
    by_cases hk : k = 0
    · rw [if_pos hk]
      exact addV_ext s n
    · rw [if_neg hk]
      have aux : ∀ (l : List Tm), (∀ a ∈ l, ∀ s, ∃ r, (appT varG s a).1 = s ++ r) → ∀ s, ∃ r, (appL varG s l).1 = s ++ r := by
        intro l
        induction l with
        | nil => intro _ s; exact ⟨[], by simp [appL]⟩
        | cons a l ihl =>
          intro h s
          obtain ⟨r1, h1⟩ := h a (List.mem_cons_self) s
          obtain ⟨r2, h2⟩ := ihl (fun b hb => h b (List.mem_cons_of_mem _ hb)) (appT varG s a).1
          exact ⟨r1 ++ r2, by simp only [appL]; rw [h2, h1, List.append_assoc]⟩
      exact aux ts ih s

theorem idx_ext {l r : List Int} {n : Int} (h : n ∈ l) : (l ++ r).idxOf n = l.idxOf n := by
  rw [List.idxOf_append, if_pos h]

/-- The canonical form is the numbering by the list of all variables. -/
theorem can_num (L : List Int) (t : Tm) : ∀ s, (∃ r, L = (appT varG s t).1 ++ r) → (appT canG s t).1 = (appT varG s t).1 ∧ (appT canG s t).2 = (appT (numG L) () t).2 := by
  induction t using Tm.ind with
  | h k n nm ts ih =>
    intro s hL
    by_cases hk : k = 0
    · subst hk
      obtain ⟨r, hr⟩ := hL
      simp only [appT, if_true, varG, Tm.num] at hr
      simp only [appT, if_true, canG, varG, numG, Tm.num, true_and]
      have hm : n ∈ addV s n := addV_mem s n
      have : posI L n = ((addV s n).idxOf n : Nat) := by
        unfold posI
        rw [if_pos (by rw [hr]; exact List.mem_append_left _ hm), hr, idx_ext hm]
      rw [this]
    · have aux : ∀ (l : List Tm), (∀ a ∈ l, ∀ s, (∃ r, L = (appT varG s a).1 ++ r) → (appT canG s a).1 = (appT varG s a).1 ∧ (appT canG s a).2 = (appT (numG L) () a).2) → ∀ s, (∃ r, L = (appL varG s l).1 ++ r) →
          (appL canG s l).1 = (appL varG s l).1 ∧ (appL canG s l).2 = (appL (numG L) () l).2 := by
        intro l
        induction l with
        | nil => intro _ s _; simp [appL]
        | cons a l ihl =>
          intro h s hL
          simp only [appL] at hL ⊢
          have hL1 : ∃ r, L = (appT varG s a).1 ++ r := by
            obtain ⟨r, hr⟩ := hL
            have ext : ∀ (l : List Tm) s, ∃ r, (appL varG s l).1 = s ++ r := fun l => by
              induction l with
              | nil => intro s; exact ⟨[], by simp [appL]⟩
              | cons b l ihb =>
                intro s
                obtain ⟨r1, h1⟩ := vars_ext b s
                obtain ⟨r2, h2⟩ := ihb (appT varG s b).1
                exact ⟨r1 ++ r2, by simp only [appL]; rw [h2, h1, List.append_assoc]⟩
            obtain ⟨r2, h2⟩ := ext l (appT varG s a).1
            exact ⟨r2 ++ r, by rw [hr, h2, List.append_assoc]⟩
          obtain ⟨h1, h2⟩ := h a (List.mem_cons_self) s hL1
          obtain ⟨h3, h4⟩ := ihl (fun b hb => h b (List.mem_cons_of_mem _ hb)) (appT varG s a).1 hL
          rw [h1]
          exact ⟨h3, by rw [h2, h4]⟩
      simp only [appT, if_neg hk] at hL ⊢
      obtain ⟨h1, h2⟩ := aux ts ih s hL
      exact ⟨h1, by rw [h2]⟩

theorem rcanon_con (t : Tm) : ConT 29 t (canonT t) := by
  letI : Env := { T := fun n => match n with | 0 => t | _ => canonT t, L := fun _ => (appT varG [] t).1 }
  cases hb : validT t with
  | false =>
    have h : Entry 29 [.tok 0] (.term zeroT) :=
      entry_code (tbl_ok (T := [(14, [.tok 0], .val (.bool false))]) ⟨ent_tv (fun _ _ => by kernel_rfl) fun w y h => hb ▸ rvalid_any t w y h, trivial⟩) [.tok 0] Try.func29 rfl (fun _ _ => by kernel_rfl) (by kernel_rfl) (by kernel_rfl) rfl rfl (by simp [Try.ntmps29])
    have h2 : ConT 29 t zeroT := h.conT
    rw [show canonT t = zeroT by simp [canonT, hb]]
    exact h2
  | true =>
    have hc : canonT t = (appT (numG (appT varG [] t).1) () t).2 := by
      rw [show canonT t = (appT canG [] t).2 by simp [canonT, hb]]
      exact (can_num _ t [] ⟨[], by simp⟩).2
    have h : Entry 29 [.tok 0] (.tok 1) :=
      entry_code (tbl_ok (T := [(14, [.tok 0], .val (.bool true)), (64, [.val (.slice none 0 0), .tok 0], .itok 0), (66, [.itok 0, .tok 0], .tok 1)])
        ⟨ent_tv (fun _ _ => by kernel_rfl) fun w y h => hb ▸ rvalid_any t w y h, ent_vars (valid_fits hb) rfl, ent_number (valid_fits hb) hc, trivial⟩) [.tok 0] Try.func29 rfl (fun _ _ => by kernel_rfl) (by kernel_rfl) (by kernel_rfl) rfl rfl (by simp [Try.ntmps29])
    exact h.con

theorem rvariant_any : Says2 21 variantT := by
  intro t u w y z hy hz
  letI : Env := { T := fun n => match n with | 0 => t | 1 => u | 2 => canonT t | _ => canonT u }
  have ents : ∀ b c d, validT t = b → validT u = c → eqT (canonT t) (canonT u) = d → Entries [(14, [.tok 0], .val (.bool b)), (14, [.tok 1], .val (.bool c)), (29, [.tok 0], .tok 2), (29, [.tok 1], .tok 3), (59, [.tok 2, .tok 3], .val (.bool d))] := fun b c d hb hc hd =>
    ⟨ent_tv (fun _ _ => by kernel_rfl) fun w y h => hb ▸ rvalid_any t w y h, ent_tv (fun _ _ => by kernel_rfl) fun w y h => hc ▸ rvalid_any u w y h, ConT.ent (rcanon_con t), ConT.ent (rcanon_con u), ent_ttv (fun _ _ => by kernel_rfl) fun w y z h h' => hd ▸ rident_any (canonT t) (canonT u) w y z h h', trivial⟩
  have run : ∀ b c d, validT t = b → validT u = c → eqT (canonT t) (canonT u) = d → Entry 21 [.tok 0, .tok 1] (.val (.bool (b && c && d))) := fun b c d hb hc hd => by
    cases b <;> cases c <;> cases d <;>
      exact entry_code (tbl_ok (ents _ _ _ hb hc hd)) [.tok 0, .tok 1] Try.func21 rfl (fun _ _ => by kernel_rfl) (by kernel_rfl) (by kernel_rfl) rfl rfl (by simp [Try.ntmps21])
  exact (run _ _ _ rfl rfl rfl).val (vs := [y, z]) ⟨hy.fr, hz.fr, trivial⟩

end Go.Proofs.Ytgedgmdbpembiaa
