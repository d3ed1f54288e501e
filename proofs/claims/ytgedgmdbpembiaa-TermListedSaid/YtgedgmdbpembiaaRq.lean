/-
  The reference's Replace: the walk; what a replacement makes, in plain terms. No condition.
-/
import Derived.Test.YtgedgmdbpembiaaOc
namespace Go.Proofs.Ytgedgmdbpembiaa
open Go.RowKit
set_option linter.unusedVariables false

/-- What a variable turns to. -/
abbrev repF (v : Int) (by_ : Tm) : Int → Tm := fun n => if n = v then by_ else V n

theorem rep_sub (v : Int) (by_ : Tm) (hb : validT by_ = true) (t : Tm) (h : fitsT t = true) : (appT (repG v by_) () t).2 = substT (repF v by_) t :=
  appT_sub (fun n nm l hn => by
    obtain ⟨-, -, rfl, rfl⟩ := var_node hn
    simp [repG, repF, cloneT, hb, Tm.num]) t h

def stepS (v d : Int) (s n : Int) : Int := if n = v then wrap64 (s + d) else s

theorem repS_fold (v d : Int) (t : Tm) : ∀ s, (appT (repS v d) s t).1 = (occT t).foldl (stepS v d) s :=
  ind2 (P := fun t => ∀ s, (appT (repS v d) s t).1 = (occT t).foldl (stepS v d) s) (PL := fun l => ∀ s, (appL (repS v d) s l).1 = (occL l).foldl (stepS v d) s) (fun s => by simp [appL, occL])
    (fun t l h1 h2 s => by simp only [appL, occL, List.foldl_append, h1, h2])
    (fun k n s l hl s' => by
      simp only [appT, occT]
      by_cases hk : k = 0
      · rw [if_pos hk, if_pos hk]; rfl
      · rw [if_neg hk, if_neg hk]; exact hl s') t

theorem fold_sum (v d : Int) (hd : 0 ≤ d ∧ d ≤ 2001) : ∀ (l : List Int) (s : Int), 0 ≤ s → s + l.length * 2001 ≤ 9223372036854775807 → l.foldl (stepS v d) s = s + occN v l * d
  | [], s, _, _ => by simp [occN]
  | n :: l, s, h0, h1 => by
    simp only [List.length_cons] at h1
    rw [List.foldl_cons]
    by_cases hn : n = v
    · have e1 : stepS v d s n = s + d := by
        unfold stepS
        rw [if_pos hn]
        unfold wrap64
        push_cast at h1
        omega
      rw [e1, fold_sum v d hd l (s + d) (by omega) (by push_cast at h1 ⊢; omega)]
      have : occN v (n :: l) = occN v l + 1 := by simp [occN, hn]
      rw [this, Int.add_mul]
      omega
    · have e1 : stepS v d s n = s := by unfold stepS; rw [if_neg hn]
      rw [e1, fold_sum v d hd l s h0 (by push_cast at h1 ⊢; omega)]
      have : occN v (n :: l) = occN v l := by simp [occN, hn]
      rw [this]

theorem size_valid {t : Tm} (h : validT t = true) : sizeT t = nodesT t := by
  have := size_min t
  have := valid_nodes h
  omega

theorem rep_total {t by_ : Tm} (v : Int) (ht : validT t = true) (hb : validT by_ = true) : (appT (repS v (sizeT by_ - 1)) (sizeT t) t).1 = sizeT t + occN v (occT t) * (sizeT by_ - 1) := by
  have h1 := size_bd by_
  have h2 := size_bd t
  have h3 := occ_len t
  have h4 := valid_nodes ht
  rw [repS_fold]
  exact fold_sum v _ (by omega) _ _ (by omega) (by omega)

theorem sumL_rep (v : Int) (by_ : Tm) : ∀ l : List Int, sumL (fun n => nodesT (repF v by_ n) - 1) l = occN v l * (nodesT by_ - 1)
  | [] => by simp [sumL, occN]
  | n :: l => by
    simp only [sumL]
    rw [sumL_rep v by_ l]
    by_cases hn : n = v
    · have : occN v (n :: l) = occN v l + 1 := by simp [occN, hn]
      rw [this, Int.add_mul]
      simp only [repF, if_pos hn]
      omega
    · have : occN v (n :: l) = occN v l := by simp [occN, hn]
      rw [this]
      simp only [repF, if_neg hn, nodesT, nodesL]
      omega

theorem rep_valid {t by_ : Tm} {v : Int} (ht : validT t = true) (hb : validT by_ = true) (hs : sizeT t + occN v (occT t) * (sizeT by_ - 1) ≤ 2000) : validT (substT (repF v by_) t) = true := by
  rw [valid_iff]
  constructor
  · have := nodes_sub (f := repF v by_) t (valid_fits ht)
    rw [sumL_rep] at this
    rw [size_valid ht, size_valid hb] at hs
    omega
  · refine fits_sub t (valid_fits ht) fun n hn => ?_
    unfold repF
    split
    · exact valid_fits hb
    · exact V_fits.2 (occ_bd t (valid_fits ht) n hn)

theorem replace_eq (t : Tm) (v : Int) (by_ : Tm) : replaceT t v by_ = if validT t && numB v && validT by_ then if 2000 < sizeT t + occN v (occT t) * (sizeT by_ - 1) then (zeroT, 2) else (substT (repF v by_) t, 0) else (zeroT, 1) := by
  unfold replaceT
  by_cases h : (validT t && numB v && validT by_) = true
  · rw [if_pos h, if_pos h]
    simp only [Bool.and_eq_true] at h
    rw [rep_total v h.1.1 h.2, rep_sub v by_ h.2 t (valid_fits h.1.1)]
  · rw [if_neg h, if_neg h]

theorem replace_valid (t : Tm) (v : Int) (by_ : Tm) : validT (replaceT t v by_).1 = true := by
  rw [replace_eq]
  split
  · rename_i h
    simp only [Bool.and_eq_true] at h
    split
    · exact zero_valid
    · exact rep_valid h.1.1 h.2 (by omega)
  · exact zero_valid

abbrev EnvP (t : Tm) (v : Int) (by_ : Tm) : Env :=
  { T := fun k => match k with | 0 => t | 1 => by_ | _ => (replaceT t v by_).1
    I := fun k => match k with | 0 => v | 1 => sizeT t | 2 => occN v (occT t) | 3 => sizeT by_ | 4 => sizeT by_ - 1 | 5 => occN v (occT t) * (sizeT by_ - 1) | 6 => sizeT t + occN v (occT t) * (sizeT by_ - 1) | _ => (replaceT t v by_).2 }

theorem rreplace_entry (t : Tm) (v : Int) (by_ : Tm) (wv : wf64 v) : @Entry (EnvP t v by_) 34 [.tok 0, .vtok 0, .tok 1] (.pair (.tok 2) (.vtok 7)) := by
  letI E : Env := EnvP t v by_
  have hsay : ∀ {t : Tm} {b : Bool}, validT t = b → ∀ w y, TmAt w w.heap.size t y → Calls Try.prog 14 #[y] w fun e w' => e = .returned (.bool b) ∧ But Nil w w' := fun {t b} hb w y h => hb ▸ rvalid_any t w y h
  have early : ∀ b c d f, validT t = b → decide (v < 0) = c → decide (1099511627776 < v) = d → validT by_ = f → (b && !c && !d && f) = false → @Entry (EnvP t v by_) 34 [.tok 0, .vtok 0, .tok 1] (.pair (.term zeroT) (.val (.int .i64 1))) := by
    intro b c d f hb hc hd hf hcase
    have ents : @Entries E [(14, [.tok 0], .val (.bool b)), (14, [.tok 1], .val (.bool f))] := ⟨ent_tv (fun _ _ => by kernel_rfl) (hsay hb), ent_tv (fun _ _ => by kernel_rfl) (hsay hf), trivial⟩
    cases b <;> cases c <;> cases d <;> cases f <;> first
      | exact absurd hcase (by decide)
      | exact entry_facts (E := E) [.rel .lt (.tok 0) (.lit 0) _, .rel .lt (.lit 1099511627776) (.tok 0) _] ⟨hc, hd, trivial⟩ (tbl_ok ents) [.tok 0, .vtok 0, .tok 1] Try.func34 rfl (fun _ _ => by kernel_rfl) (by kernel_rfl) rfl rfl (by simp [Try.ntmps34])
  by_cases hbad : validT t = true ∧ (0 ≤ v ∧ v ≤ 1099511627776) ∧ validT by_ = true
  case neg =>
    have he := early _ _ _ _ rfl rfl rfl rfl (by
      rw [Bool.eq_false_iff]
      intro h
      simp only [Bool.and_eq_true, Bool.not_eq_true', decide_eq_false_iff_not] at h
      exact hbad ⟨h.1.1.1, by omega, h.2⟩)
    have hz : replaceT t v by_ = (zeroT, 1) := by
      unfold replaceT numB
      rw [if_neg]
      intro h
      simp only [Bool.and_eq_true, decide_eq_true_eq] at h
      exact hbad ⟨h.1.1, h.1.2, h.2⟩
    exact entry_eq he (pair_eq (show (replaceT t v by_).1 = zeroT by rw [hz]) (show (replaceT t v by_).2 = 1 by rw [hz]))
  obtain ⟨hv, ⟨h0, h1⟩, hby⟩ := hbad
  have c1 : decide (v < 0) = false := by simp; omega
  have c2 : decide (1099511627776 < v) = false := by simp; omega
  have hfit := valid_fits hv
  have hnod := valid_nodes hv
  have s1 := size_bd t
  have s2 := size_bd by_
  have s3 := occN_le v (occT t)
  have s4 := occ_len t
  have s5 : 0 ≤ occN v (occT t) * (sizeT by_ - 1) ∧ occN v (occT t) * (sizeT by_ - 1) ≤ 2000 * 2000 := ⟨Int.mul_nonneg (by omega) (by omega), Int.mul_le_mul (by omega) (by omega) (by omega) (by omega)⟩
  have hok : ∀ e, decide (2000 < sizeT t + occN v (occT t) * (sizeT by_ - 1)) = e → AllHold E.T E.I E.L E.R E.S [.rel .lt (.tok 0) (.lit 0) false, .rel .lt (.lit 1099511627776) (.tok 0) false, .ari .sub (.tok 3) (.lit 1) 4, .ari .mul (.tok 2) (.tok 4) 5, .ari .add (.tok 1) (.tok 5) 6, .rel .lt (.lit 2000) (.tok 6) e] := fun e he =>
    ⟨c1, c2, ⟨rfl, by show wf64 (sizeT by_ - 1); unfold wf64; omega⟩, ⟨rfl, by show wf64 (occN v (occT t) * (sizeT by_ - 1)); unfold wf64; omega⟩, ⟨rfl, by show wf64 (sizeT t + occN v (occT t) * (sizeT by_ - 1)); unfold wf64; omega⟩, he, trivial⟩
  have hrep := replace_eq t v by_
  rw [if_pos (by simp [hv, hby, numB, h0, h1])] at hrep
  have e1 : @Entry E 14 [.tok 0] (.val (.bool true)) := ent_tv (fun _ _ => by kernel_rfl) (hsay hv)
  have e2 : @Entry E 14 [.tok 1] (.val (.bool true)) := ent_tv (fun _ _ => by kernel_rfl) (hsay hby)
  have e3 : @Entry E 16 [.tok 0] (.vtok 1) := ent_ti (fun _ _ => by kernel_rfl) fun w y h => rsize_any t w y h
  have e4 : @Entry E 16 [.tok 1] (.vtok 3) := ent_ti (fun _ _ => by kernel_rfl) fun w y h => rsize_any by_ w y h
  have e5 : @Entry E 72 [.tok 0, .vtok 0] (.vtok 2) := ent_occ (occs_any v t hfit hnod) rfl rfl
  by_cases hbig : 2000 < sizeT t + occN v (occT t) * (sizeT by_ - 1)
  · rw [if_pos hbig] at hrep
    have ents : @Entries E [(14, [.tok 0], .val (.bool true)), (14, [.tok 1], .val (.bool true)), (16, [.tok 0], .vtok 1), (16, [.tok 1], .vtok 3), (72, [.tok 0, .vtok 0], .vtok 2)] := ⟨e1, e2, e3, e4, e5, trivial⟩
    refine entry_eq (x := .pair (.term zeroT) (.val (.int .i64 2))) ?_ (pair_eq (show (replaceT t v by_).1 = zeroT by rw [hrep]) (show (replaceT t v by_).2 = 2 by rw [hrep]))
    exact entry_facts (E := E) _ (hok true (by simpa using hbig)) (tbl_ok ents) [.tok 0, .vtok 0, .tok 1] Try.func34 rfl (fun _ _ => by kernel_rfl) (by kernel_rfl) rfl rfl (by simp [Try.ntmps34])
  · rw [if_neg hbig] at hrep
    have e6 : @Entry E 73 [.tok 0, .vtok 0, .tok 1] (.tok 2) := ent_mk (fun _ _ => by kernel_rfl) fun p w vs hvs => by
      match vs, hvs with
      | [y, _, z], ⟨hy, rfl, hz, _⟩ =>
        show MakesT _ _ _ _ (replaceT t v by_).1
        rw [hrep]
        show MakesT _ _ _ _ (substT (repF v by_) t)
        rw [← rep_sub v by_ hby t hfit]
        exact makes_new (put_any v by_ hby t w y z (TmIn.at_w hy) (TmIn.at_w hz) hfit)
    have ents : @Entries E [(14, [.tok 0], .val (.bool true)), (14, [.tok 1], .val (.bool true)), (16, [.tok 0], .vtok 1), (16, [.tok 1], .vtok 3), (72, [.tok 0, .vtok 0], .vtok 2), (73, [.tok 0, .vtok 0, .tok 1], .tok 2)] := ⟨e1, e2, e3, e4, e5, e6, trivial⟩
    refine entry_eq (x := .pair (.tok 2) (.val (.int .i64 0))) ?_ (pair_eq2 (show (replaceT t v by_).2 = 0 by rw [hrep]))
    exact entry_facts (E := E) _ (hok false (by simpa using hbig)) (tbl_ok ents) [.tok 0, .vtok 0, .tok 1] Try.func34 rfl (fun _ _ => by kernel_rfl) (by kernel_rfl) rfl rfl (by simp [Try.ntmps34])

end Go.Proofs.Ytgedgmdbpembiaa
