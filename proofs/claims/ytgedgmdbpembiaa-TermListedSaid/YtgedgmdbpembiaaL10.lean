/-
  The law TermListed: the walk. No condition.
-/
import Derived.Test.YtgedgmdbpembiaaL8
namespace Go.Proofs.Ytgedgmdbpembiaa
open Go.RowKit
set_option linter.unusedVariables false

theorem elT_consR (l : List Tm) (t : Tm) : elT (consR l t) = (l ++ (elT t).1, (elT t).2) := by
  induction l with
  | nil => rfl
  | cons x l ih =>
    show elT (consT x (consR l t)) = _
    have : elT (consT x (consR l t)) = (x :: (elT (consR l t)).1, (elT (consR l t)).2) := by simp [consT, elT, elA]
    rw [this, ih]
    rfl

theorem consR_elT : ∀ (m : Nat) (t : Tm), nodesT t ≤ m → fitsT t = true → consR (elT t).1 (elT t).2 = t
  | 0, t, h, _ => by have := nodes_pos t; omega
  | m + 1, t, h, hf => by
    by_cases hc : isCons t = true
    · have hl := cons_len hc
      have e1 := elT_cons hc (by omega) (by omega)
      have hn := nodes_args (t := t) (j := 1) (by omega)
      cases t with
      | mk k n s l =>
        simp only [isCons, Bool.and_eq_true, Tm.kind, Tm.name, Tm.args] at hc
        have ek : k = 3 := of_decide_eq_true hc.1
        have es : s = ⟨#[46]⟩ := of_decide_eq_true hc.2.1
        subst ek es
        obtain ⟨hnode, hfl⟩ := fits_mk.1 hf
        have en : n = 0 := by
          simp [nodeB] at hnode
          exact hnode.1.1.1
        subst en
        match l, hl, hfl, e1, hn with
        | [a, b], _, hfl, e1, hn =>
          simp only [Tm.args, List.getElem_cons_zero, List.getElem_cons_succ] at e1 hn
          have hb : fitsT b = true := by
            have := (fits_cons.1 (fits_cons.1 hfl).2).1
            exact this
          rw [e1]
          show consT a (consR (elT b).1 (elT b).2) = _
          rw [consR_elT m b (by omega) hb]
          rfl
    · rw [elT_else (by simpa using hc)]
      rfl

theorem consR_append (l m : List Tm) (t : Tm) : consR (l ++ m) t = consR l (consR m t) := by simp [consR]

theorem nodesL_succ {l : List Tm} {j : Nat} (hj : j < l.length) : nodesL (l.take (j + 1)) = nodesL (l.take j) + nodesT (l.getD j zeroT) := by
  induction l generalizing j with
  | nil => simp at hj
  | cons t l ih =>
    cases j with
    | zero => simp [nodesL]
    | succ j =>
      simp only [List.take_succ_cons, nodesL, List.length_cons] at hj ⊢
      rw [ih (by omega)]
      simp
      omega

/-- The sizes added up, as the law does it. -/
def accS (l : List Tm) (s : Int) : Nat → Int
  | 0 => s
  | j + 1 => accS l s j + 1 + sizeT (l.getD j zeroT)

theorem accS_bd (l : List Tm) (s : Int) (hs : 0 ≤ s ∧ s ≤ 2001) : ∀ j, 0 ≤ accS l s j ∧ accS l s j ≤ 2001 + 2002 * j
  | 0 => by simp only [accS]; omega
  | j + 1 => by
    have h1 := accS_bd l s hs j
    have h2 := size_bd (l.getD j zeroT)
    simp only [accS]
    push_cast
    omega

theorem accS_nodes (l : List Tm) (t : Tm) (ht : validT t = true) : ∀ j, j ≤ l.length → (∀ i, i < j → validT (l.getD i zeroT) = true) → accS l (sizeT t) j = nodesT t + nodesL (l.take j) + j
  | 0, _, _ => by simp [accS, nodesL, size_valid ht]
  | j + 1, hj, hv => by
    have h1 := accS_nodes l t ht j (by omega) fun i hi => hv i (by omega)
    simp only [accS]
    rw [h1, size_valid (hv j (by omega)), nodesL_succ (by omega)]
    push_cast
    omega

abbrev EnvM (l : List Tm) (tail : Tm) (j : Nat) : Env :=
  { T := fun k => match k with | 0 => tail | 1 => listT l tail | 2 => l.getD j zeroT | _ => (elemsT tail).2
    I := fun k => match k with | 0 => (l.length : Int) | 1 => (j : Int) | 2 => ((j + 1 : Nat) : Int) | 3 => accS l (sizeT tail) j | 4 => accS l (sizeT tail) j + 1 | 5 => sizeT (l.getD j zeroT) | 6 => accS l (sizeT tail) (j + 1) | 7 => accS l (sizeT tail) l.length | 8 => ((elemsT (listT l tail)).1.length : Int) | _ => ((elemsT tail).1.length : Int)
    R := fun k => match k with | 0 => l | 1 => (elemsT (listT l tail)).1 | _ => (elemsT tail).1 }

abbrev liInv : List (Tmp × Ab) := [(0, .rtok 0), (3, .vcell 3 (.tok 0)), (5, .vcell 5 (.tok 1)), (6, .vtok 3), (7, .vtok 1)]
abbrev liNext : List (Tmp × Ab) := [(0, .rtok 0), (3, .vcell 3 (.tok 0)), (5, .vcell 5 (.tok 1)), (6, .vtok 6), (7, .vtok 2)]
abbrev liOut : List (Tmp × Ab) := [(0, .rtok 0), (3, .vcell 3 (.tok 0)), (5, .vcell 5 (.tok 1)), (6, .vtok 7)]
abbrev ljBase : List (Tmp × Ab) := [(0, .rtok 0), (3, .vcell 3 (.tok 0)), (5, .vcell 5 (.tok 1)), (8, .rtok 1), (9, .vcell 9 (.tok 3))]
abbrev ljInv : List (Tmp × Ab) := [(0, .rtok 0), (3, .vcell 3 (.tok 0)), (5, .vcell 5 (.tok 1)), (8, .rtok 1), (9, .vcell 9 (.tok 3)), (12, .vtok 1)]
abbrev ljNext : List (Tmp × Ab) := [(0, .rtok 0), (3, .vcell 3 (.tok 0)), (5, .vcell 5 (.tok 1)), (8, .rtok 1), (9, .vcell 9 (.tok 3)), (12, .vtok 2)]

set_option maxHeartbeats 1000000 in
theorem termListed_any (l : List Tm) (A : Option Addr) (cap : Nat) (tail : Tm) (y : Value) (w : World) (h1 : l.length ≤ cap) (h2 : l.length ≤ 140737488351232) (h3 : cap ≤ maxLen) (h4 : ArgsAt w w.heap.size l A 0) (h : TmAt w w.heap.size tail y) :
    Calls Try.prog 10 #[.slice A l.length cap, y] w fun e w' => e = .returned (.bool true) ∧ But Nil w w' := by
  letI E : Env := EnvM l tail 0
  suffices run : @Entry E 10 [.rtok 0, .tok 0] (.val (.bool true)) from run.val (vs := [.slice A l.length cap, y]) ⟨⟨A, cap, rfl, h1, h2, h3, h4.fr⟩, h.fr, trivial⟩
  clear h h4 h3 h1
  have aw : ∀ j, @Entry (EnvM l tail j) 17 [] (.val (.bool true)) := fun j => by
    letI : Env := EnvM l tail j
    exact ent_0v (fun _ _ => by kernel_rfl) awake_any
  have e1 : @Entry E 35 [.rtok 0, .tok 0] (.tok 1) := ent_list rfl
  have hval : ∀ b, validT tail = b → @Entry E 14 [.tok 0] (.val (.bool b)) := fun b hb => ent_tv (fun _ _ => by kernel_rfl) fun w y h => hb ▸ rvalid_any _ w y h
  have hvl : ∀ j b, validT (l.getD j zeroT) = b → @Entry (EnvM l tail j) 14 [.tok 2] (.val (.bool b)) := fun j b hb => by
    letI : Env := EnvM l tail j
    exact ent_tv (fun _ _ => by kernel_rfl) fun w y h => hb ▸ rvalid_any _ w y h
  have early : ∀ b c, validT tail = b → decide (2000 < (l.length : Int)) = c → (b && !c) = false → @Entry E 10 [.rtok 0, .tok 0] (.val (.bool true)) := by
    intro b c hb hc hcase
    have ents : @Entries E [(35, [.rtok 0, .tok 0], .tok 1), (14, [.tok 0], .val (.bool b)), (17, [], .val (.bool true))] := ⟨e1, hval _ hb, aw 0, trivial⟩
    cases b <;> cases c <;> first
      | exact absurd hcase (by decide)
      | exact entry_facts (E := E) [.rlen 0 0, .rel .lt (.lit 2000) (.tok 0) _] ⟨rfl, hc, trivial⟩ (tbl_ok ents) [.rtok 0, .tok 0] Try.func10 rfl (fun _ _ => by kernel_rfl) (by kernel_rfl) rfl rfl (by simp [Try.ntmps10])
  by_cases hbad : validT tail = true ∧ l.length ≤ 2000
  case neg =>
    refine early _ _ rfl rfl ?_
    rw [Bool.eq_false_iff]
    intro h
    simp only [Bool.and_eq_true, Bool.not_eq_true', decide_eq_false_iff_not] at h
    exact hbad ⟨h.1, by omega⟩
  clear early
  obtain ⟨hv, hl⟩ := hbad
  have hc : decide (2000 < (l.length : Int)) = false := by simp; omega
  have sb := size_bd tail
  have hacc := accS_bd l (sizeT tail) (by omega)
  have e2 : @Entry E 16 [.tok 0] (.vtok 3) := ent_ti (fun _ _ => by kernel_rfl) fun w y h => rsize_any tail w y h
  refine entry_runs (E := E) [.rtok 0, .tok 0] (r := .ret) (σ' := [(4, .val (.bool true))]) Try.func10 rfl (fun _ _ => by kernel_rfl) ?_ (.inl rfl) rfl rfl rfl (by simp [Try.ntmps10])
  refine LRun.parts (E := E) [.rlen 0 0, .rel .lt (.lit 2000) (.tok 0) false] ⟨rfl, hc, trivial⟩ (tbl_ok (T := [(35, [.rtok 0, .tok 0], .tok 1), (14, [.tok 0], .val (.bool true)), (16, [.tok 0], .vtok 3)]) ⟨e1, hval _ hv, e2, trivial⟩)
    [(0, .rtok 0), (3, .vcell 3 (.tok 0)), (5, .vcell 5 (.tok 1)), (6, .vtok 3)] [_, _, _, _] (by kernel_rfl) ?_
  have hsz : ∀ j, @Entry (EnvM l tail j) 16 [.tok 2] (.vtok 5) := fun j => by
    letI : Env := EnvM l tail j
    exact ent_ti (fun _ _ => by kernel_rfl) fun w y h => rsize_any _ w y h
  have okR : ∀ j, j < l.length → AllHold (EnvM l tail j).T (EnvM l tail j).I (EnvM l tail j).L (EnvM l tail j).R (EnvM l tail j).S
      [.rlen 0 0, .rel .lt (.tok 1) (.tok 0) true, .rget 0 (.tok 1) 2, .ari .add (.tok 3) (.lit 1) 4, .ari .add (.tok 4) (.tok 5) 6, .ari .add (.tok 1) (.lit 1) 2] := fun j hj => by
    have a1 := hacc j
    have a2 := hacc (j + 1)
    refine ⟨rfl, ?_, ⟨?_, ?_⟩, ⟨rfl, ?_⟩, ⟨rfl, ?_⟩, ⟨?_, ?_⟩, trivial⟩
    · show decide ((j : Int) < (l.length : Int)) = true; simpa using hj
    · show (0 : Int) ≤ (j : Int); omega
    · show l[(j : Int).toNat]? = some (l.getD j zeroT); simp [hj]
    · show wf64 (accS l (sizeT tail) j + 1); unfold wf64; omega
    · show wf64 (accS l (sizeT tail) (j + 1)); unfold wf64; push_cast at a2; omega
    · show (j : Int) + 1 = ((j + 1 : Nat) : Int); omega
    · show wf64 ((j + 1 : Nat) : Int); unfold wf64; omega
  have hround : ∀ j, j < l.length → validT (l.getD j zeroT) = true → @CallsOk (EnvM l tail j) (tbl [(14, [.tok 2], .val (.bool true)), (16, [.tok 2], .vtok 5)]) := fun j hj hb => by
    letI : Env := EnvM l tail j
    exact tbl_ok ⟨hvl j true hb, hsz j, trivial⟩
  have hnx : ∀ j, SubL (EnvM l tail j) liNext (EnvM l tail (j + 1)) liInv := fun j => ⟨⟨_, rfl, idd⟩, ⟨_, rfl, idd⟩, ⟨_, rfl, idd⟩, ⟨_, rfl, idd⟩, ⟨_, rfl, idd⟩, trivial⟩
  have hin : SubL E [(0, .rtok 0), (3, .vcell 3 (.tok 0)), (5, .vcell 5 (.tok 1)), (6, .vtok 3), (7, .val (.int .i64 0))] (EnvM l tail 0) liInv := ⟨⟨_, rfl, idd⟩, ⟨_, rfl, idd⟩, ⟨_, rfl, idd⟩, ⟨_, rfl, idd⟩, ⟨_, rfl, idd⟩, trivial⟩
  obtain ⟨m, hm⟩ : ∃ m, m = (List.range l.length).findIdx fun j => !validT (l.getD j zeroT) := ⟨_, rfl⟩
  have hml : m ≤ l.length := by have := List.findIdx_le_length (p := fun j => !validT (l.getD j zeroT)) (xs := List.range l.length); rw [← hm] at this; simpa using this
  have hyes : ∀ j, j < m → validT (l.getD j zeroT) = true := fun j hj => by
    have := List.not_of_lt_findIdx (p := fun j => !validT (l.getD j zeroT)) (xs := List.range l.length) (by rw [← hm]; exact hj)
    simpa using this
  by_cases hend : m < l.length
  · have hno : validT (l.getD m zeroT) = false := by
      have := List.findIdx_getElem (p := fun j => !validT (l.getD j zeroT)) (xs := List.range l.length) (w := by rw [← hm]; simpa using hend)
      rw [List.getElem_range, ← hm] at this
      simpa using this
    refine LRun.out (LRun.seq (LRun.post (E1 := E) (LRun.code noCalls_ok [(0, .rtok 0), (3, .vcell 3 (.tok 0)), (5, .vcell 5 (.tok 1)), (6, .vtok 3), (7, .val (.int .i64 0))] (by kernel_rfl)) hin) (LRun.block_ret (LRun.loop (fun j => EnvM l tail j) (fun _ => liInv) m (fun j hj => ?_) ?_ (by simp)))) (by simp)
    · exact LRun.post (LRun.step (E := EnvM l tail j) _ (okR j (by omega)) (hround j (by omega) (hyes j hj)) liNext (by kernel_rfl)) (hnx j)
    · exact LRun.post (LRun.step (E := EnvM l tail m) _ (okR m hend) (C := tbl [(14, [.tok 2], .val (.bool false)), (17, [], .val (.bool true))]) (by letI : Env := EnvM l tail m; exact tbl_ok ⟨hvl m false hno, aw m, trivial⟩) [(4, .val (.bool true))] (by kernel_rfl)) ⟨⟨_, rfl, idd⟩, trivial⟩
  obtain rfl : m = l.length := by omega
  clear hm hml hend
  have hvall : ∀ x ∈ l, validT x = true := fun x hx => by
    obtain ⟨j, hj, rfl⟩ := List.getElem_of_mem hx
    have := hyes j hj
    simpa [List.getD_eq_getElem?_getD, hj] using this
  refine LRun.seq (E1 := E) (σ1 := liOut) ?_ ?_
  · refine LRun.seq (LRun.post (E1 := E) (LRun.code noCalls_ok [(0, .rtok 0), (3, .vcell 3 (.tok 0)), (5, .vcell 5 (.tok 1)), (6, .vtok 3), (7, .val (.int .i64 0))] (by kernel_rfl)) hin) (LRun.block (LRun.loop (fun j => EnvM l tail j) (fun _ => liInv) l.length (fun j hj => ?_) ?_ (by simp)))
    · exact LRun.post (LRun.step (E := EnvM l tail j) _ (okR j hj) (hround j hj (hyes j hj)) liNext (by kernel_rfl)) (hnx j)
    · refine LRun.post (LRun.step (E := EnvM l tail l.length) [.rlen 0 0, .rel .lt (.tok 1) (.tok 0) false] ⟨rfl, ?_, trivial⟩ noCalls_ok [(0, .rtok 0), (3, .vcell 3 (.tok 0)), (5, .vcell 5 (.tok 1)), (6, .vtok 3)] (by kernel_rfl)) ⟨⟨_, rfl, idd⟩, ⟨_, rfl, idd⟩, ⟨_, rfl, idd⟩, ⟨_, rfl, idd⟩, trivial⟩
      show decide ((l.length : Int) < (l.length : Int)) = false
      simp
  have hA := accS_nodes l tail hv l.length (Nat.le_refl _) hyes
  rw [List.take_length] at hA
  by_cases hbig : 2000 < accS l (sizeT tail) l.length
  · exact LRun.step (E := E) [.rel .lt (.lit 2000) (.tok 7) true] ⟨by show decide (2000 < accS l (sizeT tail) l.length) = true; simpa using hbig, trivial⟩ (tbl_ok (T := [(17, [], .val (.bool true))]) ⟨aw 0, trivial⟩) _ (by kernel_rfl)
  -- what the list is
  have hcv : validT (consR l tail) = true := by
    rw [valid_iff, consR_nodes, consR_fits]
    exact ⟨by omega, fun x hx => valid_fits (hvall x hx), valid_fits hv⟩
  have ht0 : listT l tail = consR l tail := by rw [list_eq, if_pos hl]; simp [cloneT, hcv]
  have hel : elemsT (listT l tail) = (l ++ (elemsT tail).1, (elemsT tail).2) := by
    rw [ht0, els_eq hcv, els_eq hv, elT_consR]
  have hback : listT (elemsT (listT l tail)).1 (elemsT (listT l tail)).2 = listT l tail := by
    have hlen : (elemsT (listT l tail)).1.length ≤ 2000 := elems_len _
    rw [list_eq, if_pos hlen, ht0, els_eq hcv, consR_elT _ _ (Nat.le_refl _) (valid_fits hcv)]
    simp [cloneT, hcv]
  have hlk : ((elemsT (listT l tail)).1.length : Int) = (l.length : Int) + ((elemsT tail).1.length : Int) := by rw [hel]; simp
  have hkl : (elemsT (listT l tail)).1.length ≤ 2000 := elems_len _
  have g1 : @Entry E 37 [.tok 1] (.pair (.rtok 1) (.tok 3)) := ent_elems rfl (by show (elemsT tail).2 = (elemsT (listT l tail)).2; rw [hel])
  have g2 : @Entry E 37 [.tok 0] (.pair (.rtok 2) (.tok 3)) := ent_elems rfl rfl
  have g3 : @Entry E 18 [.tok 3, .tok 3] (.val (.bool true)) := ent_ttv (fun _ _ => by kernel_rfl) fun w y z h h' => same_self (elems_valid tail).2 ▸ same_any _ _ w y z h h'
  have g4 : @Entry E 15 [.tok 1] (.vtok 7) := ent_ti (fun _ _ => by kernel_rfl) fun w y h => by
    have : accS l (sizeT tail) l.length = sizeT (listT l tail) := by rw [ht0, size_valid hcv, consR_nodes, hA]; push_cast; omega
    show Calls _ _ _ _ fun e w' => e = .returned (.int .i64 (accS l (sizeT tail) l.length)) ∧ But Nil w w'
    rw [this]
    exact size_any (listT l tail) w y h
  have g5 : @Entry E 35 [.rtok 1, .tok 3] (.tok 1) := ent_list (by
    show listT l tail = listT (elemsT (listT l tail)).1 (elemsT tail).2
    have : (elemsT tail).2 = (elemsT (listT l tail)).2 := by rw [hel]
    rw [this, hback])
  have g6 : @Entry E 18 [.tok 1, .tok 1] (.val (.bool true)) := ent_ttv (fun _ _ => by kernel_rfl) fun w y z h h' => same_self (list_valid l tail) ▸ same_any _ _ w y z h h'
  have hmid : AllHold E.T E.I E.L E.R E.S [.rel .lt (.lit 2000) (.tok 7) false, .rlen 1 8, .rlen 0 0, .rlen 2 9, .ari .add (.tok 0) (.tok 9) 8, .rel .eq (.tok 8) (.tok 8) true, .rel .eq (.tok 7) (.tok 7) true] := by
    refine ⟨?_, rfl, rfl, rfl, ⟨hlk.symm, ?_⟩, ?_, ?_, trivial⟩
    · show decide (2000 < accS l (sizeT tail) l.length) = false; simpa using hbig
    · show wf64 ((elemsT (listT l tail)).1.length : Int); unfold wf64; omega
    · show (((elemsT (listT l tail)).1.length : Int) == ((elemsT (listT l tail)).1.length : Int)) = true; simp
    · show (accS l (sizeT tail) l.length == accS l (sizeT tail) l.length) = true; simp
  refine LRun.parts (E := E) _ hmid (tbl_ok (T := [(37, [.tok 1], .pair (.rtok 1) (.tok 3)), (37, [.tok 0], .pair (.rtok 2) (.tok 3)), (18, [.tok 3, .tok 3], .val (.bool true)), (15, [.tok 1], .vtok 7)]) ⟨g1, g2, g3, g4, trivial⟩) ljBase [_, _, _, _] (by kernel_rfl) ?_
  refine LRun.seq (E1 := E) (σ1 := ljBase) ?_ (LRun.code (tbl_ok (T := [(35, [.rtok 1, .tok 3], .tok 1), (18, [.tok 1, .tok 1], .val (.bool true)), (17, [], .val (.bool true))]) ⟨g5, g6, aw 0, trivial⟩) _ (by kernel_rfl))
  refine LRun.seq (LRun.post (E1 := E) (LRun.code noCalls_ok [(0, .rtok 0), (3, .vcell 3 (.tok 0)), (5, .vcell 5 (.tok 1)), (8, .rtok 1), (9, .vcell 9 (.tok 3)), (12, .val (.int .i64 0))] (by kernel_rfl)) (E2 := EnvM l tail 0) (σ2 := ljInv) ⟨⟨_, rfl, idd⟩, ⟨_, rfl, idd⟩, ⟨_, rfl, idd⟩, ⟨_, rfl, idd⟩, ⟨_, rfl, idd⟩, ⟨_, rfl, idd⟩, trivial⟩)
    (LRun.block (LRun.loop (fun j => EnvM l tail j) (fun _ => ljInv) l.length (fun j hj => ?_) ?_ (by simp)))
  · refine LRun.post (LRun.step (E := EnvM l tail j) [.rlen 0 0, .rel .lt (.tok 1) (.tok 0) true, .rget 0 (.tok 1) 2, .rget 1 (.tok 1) 2, .ari .add (.tok 1) (.lit 1) 2] ⟨rfl, ?_, ⟨?_, ?_⟩, ⟨?_, ?_⟩, ⟨?_, ?_⟩, trivial⟩ (C := tbl [(18, [.tok 2, .tok 2], .val (.bool true))])
      (by letI : Env := EnvM l tail j; exact tbl_ok ⟨ent_ttv (fun _ _ => by kernel_rfl) fun w y z h h' => same_self (hyes j hj) ▸ same_any _ _ w y z h h', trivial⟩) ljNext (by kernel_rfl)) ⟨⟨_, rfl, idd⟩, ⟨_, rfl, idd⟩, ⟨_, rfl, idd⟩, ⟨_, rfl, idd⟩, ⟨_, rfl, idd⟩, ⟨_, rfl, idd⟩, trivial⟩
    · show decide ((j : Int) < (l.length : Int)) = true; simpa using hj
    · show (0 : Int) ≤ (j : Int); omega
    · show l[(j : Int).toNat]? = some (l.getD j zeroT); simp [hj]
    · show (0 : Int) ≤ (j : Int); omega
    · show (elemsT (listT l tail)).1[(j : Int).toNat]? = some (l.getD j zeroT)
      rw [hel]
      show (l ++ (elemsT tail).1)[j]? = some (l.getD j zeroT)
      rw [List.getElem?_append_left hj]
      simp [hj]
    · show (j : Int) + 1 = ((j + 1 : Nat) : Int); omega
    · show wf64 ((j + 1 : Nat) : Int); unfold wf64; omega
  · refine LRun.post (LRun.step (E := EnvM l tail l.length) [.rlen 0 0, .rel .lt (.tok 1) (.tok 0) false] ⟨rfl, ?_, trivial⟩ noCalls_ok ljBase (by kernel_rfl)) ⟨⟨_, rfl, idd⟩, ⟨_, rfl, idd⟩, ⟨_, rfl, idd⟩, ⟨_, rfl, idd⟩, ⟨_, rfl, idd⟩, trivial⟩
    show decide ((l.length : Int) < (l.length : Int)) = false
    simp

end Go.Proofs.Ytgedgmdbpembiaa
