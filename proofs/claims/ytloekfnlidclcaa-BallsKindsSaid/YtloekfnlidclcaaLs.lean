/-
  The reference's List, IsCons, Elems, SameAll: the walks. No condition.
-/
import Derived.Test.YtloekfnlidclcaaRr
namespace Go.Proofs.Ytloekfnlidclcaa
open Go.RowKit
set_option linter.unusedVariables false

/-! ### List -/
def consR (l : List Tm) (t : Tm) : Tm := l.foldr consT t

theorem consR_nodes (l : List Tm) (t : Tm) : nodesT (consR l t) = nodesL l + l.length + nodesT t := by
  induction l with
  | nil => simp [consR, nodesL]
  | cons x l ih =>
    show nodesT (consT x (consR l t)) = _
    simp only [consT, nodesT, nodesL, ih, List.length_cons]
    omega

theorem consR_fits (l : List Tm) (t : Tm) : fitsT (consR l t) = true ↔ (∀ x ∈ l, fitsT x = true) ∧ fitsT t = true := by
  induction l with
  | nil => simp [consR]
  | cons x l ih =>
    show fitsT (consT x (consR l t)) = true ↔ _
    have h1 : nodeB (.mk 3 0 ⟨#[46]⟩ [x, consR l t]) = true := by simp [nodeB, ByteArray.size]
    have h2 : fitsL [x, consR l t] = true ↔ fitsT x = true ∧ fitsT (consR l t) = true := by simp [fitsL]
    simp only [consT, fits_mk, h1, true_and, h2, ih, List.mem_cons, forall_eq_or_imp]
    constructor
    · rintro ⟨h1, h2, h3⟩; exact ⟨⟨h1, h2⟩, h3⟩
    · rintro ⟨⟨h1, h2⟩, h3⟩; exact ⟨h1, h2, h3⟩

theorem lsz_iff : ∀ {l : List Tm} {s : Int}, 0 ≤ s → s ≤ 2000 → (lszB l s = true ↔ (∀ x ∈ l, fitsT x = true) ∧ s + nodesL l + l.length ≤ 2000)
  | [], s, h0, h => by simp [lszB, nodesL, h]
  | x :: l, s, h0, h => by
    have h1 := size_min x
    have h2 := nodes_pos x
    unfold lszB
    by_cases hbig : 2000 < s + (1 + sizeT x)
    · rw [if_pos hbig]
      simp only [nodesL, List.length_cons]
      constructor
      · intro h; cases h
      · rintro ⟨-, h⟩
        push_cast at h
        omega
    · rw [if_neg hbig]
      have h3 : sizeT x = nodesT x := by omega
      simp only [Bool.and_eq_true, nodesL, List.length_cons, List.mem_cons, forall_eq_or_imp]
      rw [lsz_iff (s := s + (1 + sizeT x)) (by omega) (by omega)]
      constructor
      · rintro ⟨h4, h5, h6⟩
        exact ⟨⟨h4, h5⟩, by push_cast; omega⟩
      · rintro ⟨⟨h4, h5⟩, h6⟩
        push_cast at h6
        exact ⟨h4, h5, by omega⟩

theorem nodes_mem {l : List Tm} {x : Tm} (h : x ∈ l) : nodesT x ≤ nodesL l := by
  obtain ⟨j, hj, rfl⟩ := List.getElem_of_mem h
  exact nodes_get hj

theorem consL_eq {l : List Tm} (h : ∀ x ∈ l, validT x = true) (t : Tm) : consL l t = consR l t := by
  induction l with
  | nil => rfl
  | cons x l ih =>
    show consT (cloneT x) (consL l t) = consT x (consR l t)
    rw [ih fun y hy => h y (List.mem_cons_of_mem _ hy)]
    have : cloneT x = x := by simp [cloneT, h x List.mem_cons_self]
    rw [this]

theorem list_eq (l : List Tm) (t : Tm) : listT l t = if l.length ≤ 2000 then cloneT (consR l t) else zeroT := by
  unfold listT
  by_cases hl : l.length ≤ 2000
  · rw [if_pos hl]
    have hiff : (decide (l.length ≤ 2000) && validT t && lszB l (sizeT t)) = true ↔ validT (consR l t) = true := by
      simp only [Bool.and_eq_true, decide_eq_true_eq]
      rw [valid_iff (t := consR l t), consR_nodes, consR_fits]
      constructor
      · rintro ⟨⟨-, hv⟩, hs⟩
        rw [lsz_iff (by have := size_bd t; omega) (by rw [size_valid hv]; have := valid_nodes hv; omega), size_valid hv] at hs
        exact ⟨by omega, hs.1, valid_fits hv⟩
      · rintro ⟨h1, h2, h3⟩
        have hv : validT t = true := valid_iff.2 ⟨by omega, h3⟩
        refine ⟨⟨hl, hv⟩, ?_⟩
        rw [lsz_iff (by have := size_bd t; omega) (by rw [size_valid hv]; have := valid_nodes hv; omega), size_valid hv]
        exact ⟨h2, by omega⟩
    by_cases hv : validT (consR l t) = true
    · rw [if_pos (hiff.2 hv)]
      have h1 := valid_iff.1 hv
      rw [consR_nodes, consR_fits] at h1
      have ht : validT t = true := valid_iff.2 ⟨by omega, h1.2.2⟩
      rw [consL_eq fun x hx => valid_iff.2 ⟨by have := nodes_mem hx; omega, h1.2.1 x hx⟩]
      simp [cloneT, hv, ht]
    · rw [if_neg (fun h => hv (hiff.1 h))]
      simp [cloneT, hv]
  · rw [if_neg hl, if_neg]
    simp [hl]

abbrev EnvL (l : List Tm) (t : Tm) (j : Nat) : Env :=
  { T := fun k => match k with | 0 => t | 1 => consR (l.drop (l.length - j)) t | 2 => l.getD (l.length - 1 - j) zeroT | 3 => consR (l.drop (l.length - (j + 1))) t | 4 => consR l t | _ => listT l t
    I := fun k => match k with | 0 => (l.length : Int) | 1 => (l.length : Int) - 1 - (j : Nat) | _ => (l.length : Int) - 1 - ((j + 1 : Nat) : Int)
    R := fun _ => l }

abbrev llInv : List (Tmp × Ab) := [(0, .rtok 0), (3, .vcell 3 (.tok 0)), (4, .vcell 4 (.term zeroT)), (5, .vcell 5 (.tok 1)), (6, .vtok 1)]
abbrev llNext : List (Tmp × Ab) := [(0, .rtok 0), (3, .vcell 3 (.tok 0)), (4, .vcell 4 (.term zeroT)), (5, .vcell 5 (.tok 3)), (6, .vtok 2)]

theorem rlist_entry (l : List Tm) (t : Tm) : @Entry (EnvL l t 0) 16 [.rtok 0, .tok 0] (.tok 5) := by
  letI E : Env := EnvL l t 0
  by_cases hl : l.length ≤ 2000
  · have hc : decide (2000 < (l.length : Int)) = false := by simp; omega
    have heq : listT l t = cloneT (consR l t) := by rw [list_eq, if_pos hl]
    have e1 : @Entry E 64 [.tok 4] (.tok 5) := ConT.ent (by show ConT _ (consR l t) (listT l t); rw [heq]; exact rvalidc_con _)
    refine entry_runs (E := E) [.rtok 0, .tok 0] (r := .ret) (σ' := [(4, .vcell 4 (.tok 5))]) Try.func16 rfl (fun _ _ => by kernel_rfl) ?_ (.inl rfl) rfl rfl rfl (by simp [Try.ntmps16])
    refine LRun.parts (E := E) [.rlen 0 0, .rel .lt (.lit 2000) (.tok 0) false] ⟨rfl, hc, trivial⟩ noCalls_ok [(0, .rtok 0), (3, .vcell 3 (.tok 0)), (4, .vcell 4 (.term zeroT)), (5, .vcell 5 (.tok 0))] [_, _, _] (by kernel_rfl) ?_
    refine LRun.seq (E1 := E) (σ1 := [(0, .rtok 0), (3, .vcell 3 (.tok 0)), (4, .vcell 4 (.term zeroT)), (5, .vcell 5 (.tok 4))]) ?_ (LRun.code (tbl_ok (T := [(64, [.tok 4], .tok 5)]) ⟨e1, trivial⟩) _ (by kernel_rfl))
    have hw : wf64 ((l.length : Int) - 1 - ((0 : Nat) : Int)) := by unfold wf64; omega
    refine LRun.seq (LRun.post (E1 := E) (LRun.step (E := E) [.rlen 0 0, .ari .sub (.tok 0) (.lit 1) 1] ⟨rfl, ⟨by show (l.length : Int) - 1 = (l.length : Int) - 1 - ((0 : Nat) : Int); omega, hw⟩, trivial⟩ noCalls_ok [(0, .rtok 0), (3, .vcell 3 (.tok 0)), (4, .vcell 4 (.term zeroT)), (5, .vcell 5 (.tok 0)), (6, .vtok 1)] (by kernel_rfl)) (E2 := EnvL l t 0) (σ2 := llInv) ?_) (LRun.block (LRun.loop (fun j => EnvL l t j) (fun _ => llInv) l.length (fun j hj => ?_) ?_ (by simp)))
    · refine ⟨⟨_, rfl, idd⟩, ⟨_, rfl, idd⟩, ⟨_, rfl, idd⟩, ⟨_, rfl, ide (vcell_eq ?_)⟩, ⟨_, rfl, idd⟩, trivial⟩
      show t = consR (l.drop (l.length - 0)) t
      simp [consR]
    · have hix : ((l.length : Int) - 1 - (j : Nat)).toNat = l.length - 1 - j := by omega
      have hget : l.getD (l.length - 1 - j) zeroT = l[l.length - 1 - j] := by simp [List.getD_eq_getElem?_getD, show l.length - 1 - j < l.length by omega]
      refine LRun.post (LRun.step (E := EnvL l t j) [.rel .lt (.tok 1) (.lit 0) false, .rget 0 (.tok 1) 2, .mk 3 (.lit 3) (.lit 0) (.lit ⟨#[46]⟩) [2, 1], .ari .sub (.tok 1) (.lit 1) 2] ⟨?_, ⟨?_, ?_⟩, ⟨?_, ?_, ?_, ?_⟩, ⟨?_, ?_⟩, trivial⟩ noCalls_ok llNext (by kernel_rfl)) ⟨⟨_, rfl, idd⟩, ⟨_, rfl, idd⟩, ⟨_, rfl, idd⟩, ⟨_, rfl, idd⟩, ⟨_, rfl, idd⟩, trivial⟩
      · show decide ((l.length : Int) - 1 - (j : Nat) < 0) = false; simp; omega
      · show (0 : Int) ≤ (l.length : Int) - 1 - (j : Nat); omega
      · show l[((l.length : Int) - 1 - (j : Nat)).toNat]? = some (l.getD (l.length - 1 - j) zeroT)
        rw [hix, hget]; simp [show l.length - 1 - j < l.length by omega]
      · show consR (l.drop (l.length - (j + 1))) t = .mk 3 0 ⟨#[46]⟩ [l.getD (l.length - 1 - j) zeroT, consR (l.drop (l.length - j)) t]
        rw [List.drop_eq_getElem_cons (by omega : l.length - (j + 1) < l.length), hget]
        show consT _ (consR (l.drop (l.length - (j + 1) + 1)) t) = _
        rw [show l.length - (j + 1) + 1 = l.length - j by omega]
        simp only [show l.length - 1 - j = l.length - (j + 1) by omega]
        rfl
      · show wf64 3; unfold wf64; omega
      · show wf64 0; unfold wf64; omega
      · show (⟨#[46]⟩ : ByteArray).size ≤ 140737488351232; decide
      · show (l.length : Int) - 1 - (j : Nat) - 1 = (l.length : Int) - 1 - ((j + 1 : Nat) : Int); omega
      · show wf64 ((l.length : Int) - 1 - ((j + 1 : Nat) : Int)); unfold wf64; omega
    · refine LRun.post (E1 := EnvL l t l.length) (LRun.step (E := EnvL l t l.length) [.rel .lt (.tok 1) (.lit 0) true] ⟨?_, trivial⟩ noCalls_ok [(0, .rtok 0), (3, .vcell 3 (.tok 0)), (4, .vcell 4 (.term zeroT)), (5, .vcell 5 (.tok 1))] (by kernel_rfl)) ⟨⟨_, rfl, idd⟩, ⟨_, rfl, idd⟩, ⟨_, rfl, idd⟩, ⟨_, rfl, ide (vcell_eq ?_)⟩, trivial⟩
      · show decide ((l.length : Int) - 1 - (l.length : Nat) < 0) = true; simp; omega
      · show consR (l.drop (l.length - l.length)) t = consR l t
        simp
  · have hc : decide (2000 < (l.length : Int)) = true := by simp; omega
    have heq : listT l t = zeroT := by rw [list_eq, if_neg hl]
    refine entry_eq (x := .term zeroT) ?_ (by show @Ab.pd E (.term zeroT) = @Ab.pd E (.tok 5); unfold Ab.pd; rw [show E.T 5 = zeroT from heq])
    exact entry_facts (E := E) [.rlen 0 0, .rel .lt (.lit 2000) (.tok 0) true] ⟨rfl, hc, trivial⟩ noCalls_ok [.rtok 0, .tok 0] Try.func16 rfl (fun _ _ => by kernel_rfl) (by kernel_rfl) rfl rfl (by simp [Try.ntmps16])

/-! ### IsCons -/
theorem rcons_any (t : Tm) : ∀ w y, TmAt w w.heap.size t y → Calls Try.prog 87 #[y] w fun e w' => e = .returned (.bool (isCons t)) ∧ But Nil w w' := by
  intro w y hy
  letI E : Env := { T := fun _ => t, I := fun k => match k with | 0 => t.kind | 1 => t.num | _ => (t.args.length : Int), S := fun _ => t.name, R := fun _ => t.args }
  have run : ∀ b c d, (t.kind == 3) = b → decide (t.name = ⟨#[46]⟩) = c → ((t.args.length : Int) == 2) = d → @Entry E 87 [.tok 0] (.val (.bool (b && (c && d)))) := by
    intro b c d hb hc hd
    cases b <;> cases c <;> cases d <;>
      exact entry_facts (E := E) [.tm 0 0 1 0 0, .rel .eq (.tok 0) (.lit 3) _, .seq (.tok 0) (.lit ⟨#[46]⟩) _, .rlen 0 2, .rel .eq (.tok 2) (.lit 2) _] ⟨⟨rfl, rfl, rfl, rfl⟩, hb, hc, rfl, hd, trivial⟩ noCalls_ok [.tok 0] Try.func87 rfl (fun _ _ => by kernel_rfl) (by kernel_rfl) rfl rfl (by simp [Try.ntmps87])
  have heq : ((t.kind == 3) && (decide (t.name = ⟨#[46]⟩) && ((t.args.length : Int) == 2))) = isCons t := by
    unfold isCons
    have : ((t.args.length : Int) == 2) = decide (t.args.length = 2) := by
      rw [Bool.eq_iff_iff]
      simp
      omega
    rw [this]
    rfl
  have := (run _ _ _ rfl rfl rfl).val (vs := [y]) ⟨hy.fr, trivial⟩
  rw [heq] at this
  exact this

/-! ### Elems -/
/-- The cell number j of a list. -/
def chainT (t : Tm) : Nat → Tm
  | 0 => t
  | j + 1 => (chainT t j).args.getD 1 zeroT

theorem chain_succ (t : Tm) : ∀ j, chainT t (j + 1) = chainT (t.args.getD 1 zeroT) j
  | 0 => rfl
  | j + 1 => by
    show (chainT t (j + 1)).args.getD 1 zeroT = (chainT (t.args.getD 1 zeroT) j).args.getD 1 zeroT
    rw [chain_succ t j]

theorem chain_ok : ∀ (m : Nat) (t : Tm), nodesT t ≤ m → (∀ j, j < (elT t).1.length → isCons (chainT t j) = true ∧ (elT t).1[j]? = some ((chainT t j).args.getD 0 zeroT)) ∧ isCons (chainT t (elT t).1.length) = false ∧ (elT t).2 = chainT t (elT t).1.length
  | 0, t, h => by have := nodes_pos t; omega
  | m + 1, t, h => by
    by_cases hc : isCons t = true
    · have hl := cons_len hc
      have e1 := elT_cons hc (by omega) (by omega)
      have hn := nodes_args (t := t) (j := 1) (by omega)
      have ih := chain_ok m t.args[1] (by omega)
      have hg : t.args.getD 1 zeroT = t.args[1] := by simp [List.getD_eq_getElem?_getD, hl]
      have hg0 : t.args.getD 0 zeroT = t.args[0] := by rw [List.getD_eq_getElem?_getD, List.getElem?_eq_getElem (by omega)]; rfl
      rw [e1]
      simp only [List.length_cons]
      refine ⟨fun j hj => ?_, ?_, ?_⟩
      · cases j with
        | zero => exact ⟨hc, by show some t.args[0] = some (t.args.getD 0 zeroT); rw [hg0]⟩
        | succ j =>
          have := ih.1 j (by omega)
          rw [chain_succ, hg]
          exact ⟨this.1, by simpa using this.2⟩
      · rw [chain_succ, hg]; exact ih.2.1
      · rw [chain_succ, hg]; exact ih.2.2
    · have e1 := elT_else (t := t) (by simpa using hc)
      rw [e1]
      exact ⟨fun j hj => by simp at hj, by simpa [chainT] using hc, rfl⟩

theorem chain_valid {t : Tm} (h : validT t = true) : ∀ j, j ≤ (elT t).1.length → validT (chainT t j) = true ∧ j + nodesT (chainT t j) ≤ nodesT t
  | 0, _ => ⟨h, by simp [chainT]⟩
  | j + 1, hj => by
    have ih := chain_valid h j (by omega)
    have hc := ((chain_ok _ t (Nat.le_refl _)).1 j (by omega)).1
    have hl := cons_len hc
    have hg : (chainT t j).args.getD 1 zeroT = (chainT t j).args[1] := by simp [List.getD_eq_getElem?_getD, hl]
    show validT ((chainT t j).args.getD 1 zeroT) = true ∧ j + 1 + nodesT ((chainT t j).args.getD 1 zeroT) ≤ nodesT t
    rw [hg]
    have := nodes_args (t := chainT t j) (j := 1) (by omega)
    exact ⟨valid_args ih.1 _, by omega⟩

theorem els_eq {t : Tm} (h : validT t = true) : elemsT t = elT t := by
  have hc := chain_ok _ t (Nat.le_refl _)
  have hl := chain_valid h
  unfold elemsT
  rw [if_pos h]
  refine Prod.ext ?_ ?_
  · show (elT t).1.map cloneT = (elT t).1
    refine (List.map_congr_left (g := id) fun x hx => ?_).trans (List.map_id _)
    obtain ⟨j, hj, rfl⟩ := List.getElem_of_mem hx
    have h1 := hc.1 j hj
    have h2 := cons_len h1.1
    have h3 : (elT t).1[j] = (chainT t j).args.getD 0 zeroT := by
      have := h1.2
      rw [List.getElem?_eq_getElem hj] at this
      exact Option.some.inj this
    rw [h3, show (chainT t j).args.getD 0 zeroT = (chainT t j).args[0] by simp [List.getD_eq_getElem?_getD, h2]]
    simp [cloneT, valid_args (hl j (by omega)).1 (j := 0) (by omega)]
  · show cloneT (elT t).2 = (elT t).2
    rw [hc.2.2]
    simp [cloneT, (hl _ (Nat.le_refl _)).1]

abbrev EnvE (t : Tm) (j : Nat) : Env :=
  { T := fun k => match k with | 0 => t | 1 => chainT t j | 2 => (chainT t j).args.getD 0 zeroT | 3 => chainT t (j + 1) | _ => (elemsT t).2
    I := fun k => match k with | 0 => (chainT t j).kind | _ => (chainT t j).num
    S := fun _ => (chainT t j).name
    R := fun k => match k with | 0 => (elT t).1.take j | 1 => (elT t).1.take (j + 1) | 2 => (chainT t j).args | _ => (elemsT t).1 }

abbrev elInv : List (Tmp × Ab) := [(1, .vcell 1 (.tok 1)), (3, .vcell 3 (.term zeroT)), (4, .grow 18 0)]
abbrev elNext : List (Tmp × Ab) := [(1, .vcell 1 (.tok 3)), (3, .vcell 3 (.term zeroT)), (4, .grow 18 1)]

theorem relems_entry (t : Tm) : @Entry (EnvE t 0) 78 [.tok 0] (.pair (.rtok 3) (.tok 4)) := by
  letI E : Env := EnvE t 0
  have ev : ∀ b, validT t = b → @Entry E 23 [.tok 0] (.val (.bool b)) := fun b hb => ent_tv (fun _ _ => by kernel_rfl) fun w y h => hb ▸ rvalid_any t w y h
  cases hv : validT t with
  | false =>
    have hz : elemsT t = ([], zeroT) := by simp [elemsT, hv]
    refine entry_imp (x := .pair (.val (.slice none 0 0)) (.term zeroT)) ?_ (pair_imp (nil_row (show (elemsT t).1 = [] by rw [hz])) (ide (term_tok (show (elemsT t).2 = zeroT by rw [hz]))))
    exact entry_code (tbl_ok (T := [(23, [.tok 0], .val (.bool false))]) ⟨ev _ hv, trivial⟩) [.tok 0] Try.func78 rfl (fun _ _ => by kernel_rfl) (by kernel_rfl) (by kernel_rfl) rfl rfl (by simp [Try.ntmps78])
  | true =>
  have hc := chain_ok _ t (Nat.le_refl _)
  have hch := chain_valid hv
  have he := els_eq hv
  have hlen : (elT t).1.length ≤ 2000 := by have := (hch _ (Nat.le_refl _)).2; have := valid_nodes hv; omega
  have hcons : ∀ j b, isCons (chainT t j) = b → @Entry (EnvE t j) 87 [.tok 1] (.val (.bool b)) := fun j b hb => by
    letI : Env := EnvE t j
    exact ent_tv (fun _ _ => by kernel_rfl) fun w y h => hb ▸ rcons_any (chainT t j) w y h
  have hcp : @Entry E 69 [.tok 4] (.tok 4) := ent_tt (fun _ _ => by kernel_rfl) fun w y h => copied_any _ w y h (by show fitsT (elemsT t).2 = true; rw [he, hc.2.2]; exact valid_fits (hch _ (Nat.le_refl _)).1)
  refine entry_runs (E := E) [.tok 0] (r := .ret) (σ' := [(2, .grow 18 3), (3, .vcell 3 (.tok 4))]) Try.func78 rfl (fun _ _ => by kernel_rfl) ?_ (.inl rfl) rfl rfl rfl (by simp [Try.ntmps78])
  refine LRun.parts (E := E) [] trivial (tbl_ok (T := [(23, [.tok 0], .val (.bool true))]) ⟨ev _ hv, trivial⟩) [(1, .vcell 1 (.tok 0)), (3, .vcell 3 (.term zeroT)), (4, .val (.slice none 0 0))] [_, _, _] (by kernel_rfl) ?_
  refine LRun.seq (E1 := E) (σ1 := [(1, .vcell 1 (.tok 4)), (3, .vcell 3 (.term zeroT)), (4, .grow 18 3)]) ?_ (LRun.code (tbl_ok (T := [(69, [.tok 4], .tok 4)]) ⟨hcp, trivial⟩) _ (by kernel_rfl))
  refine LRun.pre (E1 := EnvE t 0) (σ1 := elInv) ⟨⟨_, rfl, idd⟩, ⟨_, rfl, idd⟩, ⟨_, rfl, nil_grow rfl⟩, trivial⟩ (LRun.block (LRun.loop (fun j => EnvE t j) (fun _ => elInv) (elT t).1.length (fun j hj => ?_) ?_ (by simp)))
  · have h1 := hc.1 j hj
    have h2 := cons_len h1.1
    have hcp2 : @Entry (EnvE t j) 69 [.tok 2] (.tok 2) := by
      letI : Env := EnvE t j
      refine ent_tt (fun _ _ => by kernel_rfl) fun w y h => copied_any _ w y h ?_
      show fitsT ((chainT t j).args.getD 0 zeroT) = true
      rw [show (chainT t j).args.getD 0 zeroT = (chainT t j).args[0] by simp [List.getD_eq_getElem?_getD, h2]]
      exact valid_fits (valid_args (hch j (by omega)).1 _)
    refine LRun.post (LRun.step (E := EnvE t j) [.tm 1 0 1 0 2, .rget 2 (.lit 0) 2, .rget 2 (.lit 1) 3, .push (some 0) 2 1 false] ⟨⟨rfl, rfl, rfl, rfl⟩, ⟨?_, ?_⟩, ⟨?_, ?_⟩, ⟨?_, ?_⟩, trivial⟩ (C := tbl [(87, [.tok 1], .val (.bool true)), (69, [.tok 2], .tok 2)]) (by letI : Env := EnvE t j; exact tbl_ok ⟨hcons j true h1.1, hcp2, trivial⟩) elNext (by kernel_rfl)) ⟨⟨_, rfl, idd⟩, ⟨_, rfl, idd⟩, ⟨_, rfl, idd⟩, trivial⟩
    · show (0 : Int) ≤ 0; omega
    · show (chainT t j).args[(0 : Int).toNat]? = some ((chainT t j).args.getD 0 zeroT); simp [h2]
    · show (0 : Int) ≤ 1; omega
    · show (chainT t j).args[(1 : Int).toNat]? = some (chainT t (j + 1)); simp [chainT, h2]
    · show (elT t).1.take (j + 1) = (elT t).1.take j ++ [(chainT t j).args.getD 0 zeroT]
      have h3 : (elT t).1[j] = (chainT t j).args.getD 0 zeroT := by
        have := h1.2
        rw [List.getElem?_eq_getElem hj] at this
        exact Option.some.inj this
      rw [← h3, List.take_append_getElem hj]
    · show ((elT t).1.take (j + 1)).length ≤ 1000000
      rw [List.length_take]; omega
  · refine LRun.post (E1 := EnvE t (elT t).1.length) (LRun.step (E := EnvE t (elT t).1.length) [] trivial (C := tbl [(87, [.tok 1], .val (.bool false))]) (by letI : Env := EnvE t (elT t).1.length; exact tbl_ok ⟨hcons _ false hc.2.1, trivial⟩) elInv (by kernel_rfl)) ⟨⟨_, rfl, ide (vcell_eq ?_)⟩, ⟨_, rfl, idd⟩, ⟨_, rfl, ide (grow_eq ?_)⟩, trivial⟩
    · show chainT t (elT t).1.length = (elemsT t).2
      rw [he, hc.2.2]
    · show (elT t).1.take (elT t).1.length = (elemsT t).1
      rw [he, List.take_length]

/-! ### SameAll -/
def sameAllT (l l' : List Tm) : Bool := decide (l.length = l'.length) && (List.range l.length).all fun j => sameT (l.getD j zeroT) (l'.getD j zeroT)

abbrev EnvS (l l' : List Tm) (j : Nat) : Env :=
  { T := fun k => match k with | 0 => l.getD j zeroT | _ => l'.getD j zeroT
    I := fun k => match k with | 0 => (l.length : Int) | 1 => (l'.length : Int) | 2 => (j : Int) | _ => ((j + 1 : Nat) : Int)
    R := fun k => match k with | 0 => l | _ => l' }

abbrev saInv : List (Tmp × Ab) := [(0, .rtok 0), (1, .rtok 1), (5, .vtok 2)]
abbrev saNext : List (Tmp × Ab) := [(0, .rtok 0), (1, .rtok 1), (5, .vtok 3)]

theorem sameAll_entry (l l' : List Tm) (hbig : l.length ≤ 140737488351232) : @Entry (EnvS l l' 0) 20 [.rtok 0, .rtok 1] (.val (.bool (sameAllT l l'))) := by
  letI E : Env := EnvS l l' 0
  by_cases hl : l.length = l'.length
  case neg =>
    have hs : sameAllT l l' = false := by simp [sameAllT, hl]
    have hc : ((l.length : Int) == (l'.length : Int)) = false := by simp; omega
    rw [hs]
    exact entry_facts (E := E) [.rlen 0 0, .rlen 1 1, .rel .eq (.tok 0) (.tok 1) false] ⟨rfl, rfl, hc, trivial⟩ noCalls_ok [.rtok 0, .rtok 1] Try.func20 rfl (fun _ _ => by kernel_rfl) (by kernel_rfl) rfl rfl (by simp [Try.ntmps20])
  have hc : ((l.length : Int) == (l'.length : Int)) = true := by simp; omega
  have step : ∀ j b, j < l.length → sameT (l.getD j zeroT) (l'.getD j zeroT) = b → AllHold (EnvS l l' j).T (EnvS l l' j).I (EnvS l l' j).L (EnvS l l' j).R (EnvS l l' j).S [.rlen 0 0, .rel .lt (.tok 2) (.tok 0) true, .rget 0 (.tok 2) 0, .rget 1 (.tok 2) 1, .ari .add (.tok 2) (.lit 1) 3] ∧
      @CallsOk (EnvS l l' j) (tbl [(63, [.tok 0, .tok 1], .val (.bool b))]) := fun j b hj hb => by
    refine ⟨⟨rfl, ?_, ⟨?_, ?_⟩, ⟨?_, ?_⟩, ⟨?_, ?_⟩, trivial⟩, ?_⟩
    · show decide ((j : Int) < (l.length : Int)) = true; simpa using hj
    · show (0 : Int) ≤ (j : Int); omega
    · show l[(j : Int).toNat]? = some (l.getD j zeroT); simp [hj]
    · show (0 : Int) ≤ (j : Int); omega
    · show l'[(j : Int).toNat]? = some (l'.getD j zeroT); simp [show j < l'.length by omega]
    · show (j : Int) + 1 = ((j + 1 : Nat) : Int); omega
    · show wf64 ((j + 1 : Nat) : Int); unfold wf64; omega
    · letI : Env := EnvS l l' j
      exact tbl_ok ⟨ent_ttv (fun _ _ => by kernel_rfl) fun w y z h h' => hb ▸ rsame_any _ _ w y z h h', trivial⟩
  obtain ⟨m, hm⟩ : ∃ m, m = (List.range l.length).findIdx fun j => !sameT (l.getD j zeroT) (l'.getD j zeroT) := ⟨_, rfl⟩
  have hml : m ≤ l.length := by have := List.findIdx_le_length (p := fun j => !sameT (l.getD j zeroT) (l'.getD j zeroT)) (xs := List.range l.length); rw [← hm] at this; simpa using this
  have hyes : ∀ j, j < m → sameT (l.getD j zeroT) (l'.getD j zeroT) = true := fun j hj => by
    have := List.not_of_lt_findIdx (p := fun j => !sameT (l.getD j zeroT) (l'.getD j zeroT)) (xs := List.range l.length) (by rw [← hm]; exact hj)
    simpa using this
  by_cases hend : m < l.length
  · have hno : sameT (l.getD m zeroT) (l'.getD m zeroT) = false := by
      have := List.findIdx_getElem (p := fun j => !sameT (l.getD j zeroT) (l'.getD j zeroT)) (xs := List.range l.length) (w := by rw [← hm]; simpa using hend)
      rw [List.getElem_range, ← hm] at this
      simpa using this
    have hs : sameAllT l l' = false := by
      rw [Bool.eq_false_iff]
      intro h
      simp only [sameAllT, Bool.and_eq_true, List.all_eq_true, List.mem_range] at h
      rw [h.2 m hend] at hno
      cases hno
    rw [hs]
    refine entry_runs (E := E) [.rtok 0, .rtok 1] (r := .ret) (σ' := [(4, .val (.bool false))]) Try.func20 rfl (fun _ _ => by kernel_rfl) ?_ (.inl rfl) rfl rfl rfl (by simp [Try.ntmps20])
    refine LRun.parts (E := E) [.rlen 0 0, .rlen 1 1, .rel .eq (.tok 0) (.tok 1) true] ⟨rfl, rfl, hc, trivial⟩ noCalls_ok [(0, .rtok 0), (1, .rtok 1)] [_, _] (by kernel_rfl) ?_
    refine LRun.out (LRun.seq (LRun.post (E1 := E) (LRun.code noCalls_ok [(0, .rtok 0), (1, .rtok 1), (5, .val (.int .i64 0))] (by kernel_rfl)) (E2 := EnvS l l' 0) (σ2 := saInv) ⟨⟨_, rfl, idd⟩, ⟨_, rfl, idd⟩, ⟨_, rfl, idd⟩, trivial⟩) (LRun.block_ret (LRun.loop (fun j => EnvS l l' j) (fun _ => saInv) m (fun j hj => ?_) ?_ (by simp)))) (by simp)
    · exact LRun.post (LRun.step (E := EnvS l l' j) _ (step j true (by omega) (hyes j hj)).1 (step j true (by omega) (hyes j hj)).2 saNext (by kernel_rfl)) ⟨⟨_, rfl, idd⟩, ⟨_, rfl, idd⟩, ⟨_, rfl, idd⟩, trivial⟩
    · exact LRun.post (LRun.step (E := EnvS l l' m) _ (step m false hend hno).1 (step m false hend hno).2 [(4, .val (.bool false))] (by kernel_rfl)) ⟨⟨_, rfl, idd⟩, trivial⟩
  · obtain rfl : m = l.length := by omega
    have hs : sameAllT l l' = true := by
      simp only [sameAllT, Bool.and_eq_true, List.all_eq_true, List.mem_range]
      exact ⟨by simpa using hl, hyes⟩
    rw [hs]
    refine entry_runs (E := E) [.rtok 0, .rtok 1] (r := .ret) (σ' := [(4, .val (.bool true))]) Try.func20 rfl (fun _ _ => by kernel_rfl) ?_ (.inl rfl) rfl rfl rfl (by simp [Try.ntmps20])
    refine LRun.parts (E := E) [.rlen 0 0, .rlen 1 1, .rel .eq (.tok 0) (.tok 1) true] ⟨rfl, rfl, hc, trivial⟩ noCalls_ok [(0, .rtok 0), (1, .rtok 1)] [_, _] (by kernel_rfl) ?_
    refine LRun.seq (E1 := E) (σ1 := [(0, .rtok 0)]) ?_ (LRun.code noCalls_ok _ (by kernel_rfl))
    refine LRun.seq (LRun.post (E1 := E) (LRun.code noCalls_ok [(0, .rtok 0), (1, .rtok 1), (5, .val (.int .i64 0))] (by kernel_rfl)) (E2 := EnvS l l' 0) (σ2 := saInv) ⟨⟨_, rfl, idd⟩, ⟨_, rfl, idd⟩, ⟨_, rfl, idd⟩, trivial⟩) (LRun.block (LRun.loop (fun j => EnvS l l' j) (fun _ => saInv) l.length (fun j hj => ?_) ?_ (by simp)))
    · exact LRun.post (LRun.step (E := EnvS l l' j) _ (step j true (by omega) (hyes j hj)).1 (step j true (by omega) (hyes j hj)).2 saNext (by kernel_rfl)) ⟨⟨_, rfl, idd⟩, ⟨_, rfl, idd⟩, ⟨_, rfl, idd⟩, trivial⟩
    · refine LRun.post (LRun.step (E := EnvS l l' l.length) [.rlen 0 0, .rel .lt (.tok 2) (.tok 0) false] ⟨rfl, ?_, trivial⟩ noCalls_ok [(0, .rtok 0)] (by kernel_rfl)) ⟨⟨_, rfl, idd⟩, trivial⟩
      show decide ((l.length : Int) < (l.length : Int)) = false
      simp

end Go.Proofs.Ytloekfnlidclcaa

