/-
  Lemmas of the walk and plain laws, put together. No condition.
-/
import Derived.ChangeArms
import Derived.Deep.RegionLaw
import Derived.Lib.AppendZerosOnto
import Derived.OpenShut
import Derived.ProofKit
import Derived.Shelf.Spec.SlicesInsert
import Derived.SizedLaws
import Derived.StillTailTactics
import Derived.TacticsInMore
import Derived.Test.YtinclokohcommaaRows
import Derived.Test.YtinclokohcommaaZd
namespace Go.Proofs.Ytinclokohcommaa.Ins
open Go.RowKit Go.Shelf Go.Lib
set_option linter.unusedVariables false
set_option linter.unusedSimpArgs false
set_option maxRecDepth 100000
attribute [local go_sem] Oper.semAt_some

abbrev E3 := Int × Int × Int
def fl3 (x : E3) : List Value := [.int .i64 x.1, .int .i64 x.2.1, .int .i64 x.2.2]
def fls (l : List E3) : List Value := l.flatMap fl3
theorem fls_len (l : List E3) : (fls l).length = l.length * 3 := by
  induction l with
  | nil => rfl
  | cons x l ih => simp [fls, fl3] at *; omega
theorem fls_app (l m : List E3) : fls (l ++ m) = fls l ++ fls m := List.flatMap_append
theorem fls_one {l : List E3} : ∀ v ∈ fls l, v.oneCell' = true := fun v hv => by
  obtain ⟨x, -, hx⟩ := List.mem_flatMap.1 hv
  simp only [fl3, List.mem_cons, List.not_mem_nil, or_false] at hx
  rcases hx with rfl | rfl | rfl <;> rfl
theorem fls_cons (x : E3) (l : List E3) : fls (x :: l) = fl3 x ++ fls l := rfl

theorem und_row : Try.prog.underlying 44 = some (.slice 49) := by kernel_rfl
theorem und_int : Try.prog.underlying 3 = some (.int .i64) := by kernel_rfl
theorem info_vc : (Try.prog.info? 49).map (fun i => (i.size, i.bytes)) = some (3, 24) := by kernel_rfl
theorem info_z : (Try.prog.info? 49).map (fun i => i.zero) = some (some (.agg #[.int .i64 0, .int .i64 0, .int .i64 0])) := by kernel_rfl
theorem size_vc (w : World) : (Go.sizeOf 49).run Try.prog w = .ok 3 w := by kernel_rfl

theorem run_copy3 (w : World) (ty : TypeId) (g o dLen dCap : Nat) (a : Addr) (sLen sCap : Nat) (cur : Array Value) (t : TypeId) (cs : List Value)
    (hg : w.heap[g]? = some (.cells cur t (0, 0))) {n : Nat} (hn : n = Nat.min sLen dLen) (hl : cs.length = n * 3)
    (hsrc : ∀ j v, cs[j]? = some v → w.cell? (a.add j) = some v) (hfit : o + cs.length ≤ cur.size) (h1 : ∀ v ∈ cs, v.oneCell' = true) :
    (Builtin.copy_ #[44, 44] ty #[.slice (some ⟨g, o, none⟩) dLen dCap, .slice (some a) sLen sCap]).run Try.prog w =
      .ok (goInt n) (w.setRow g (cur.toList.take o ++ cs ++ cur.toList.drop (o + cs.length)).toArray) := by
  have hld := run_loadCells_list (P := Try.prog) w a cs hsrc
  have hst := run_storeCells_at Try.prog g o t cs 0 cur w hg (by simpa using hfit) h1
  obtain ⟨i, hi, e⟩ := Option.map_eq_some_iff.1 info_vc
  simp only [Prod.mk.injEq] at e
  rw [hl] at hld
  simp [Builtin.copy_, run_underlying und_row, Builtin.lenOf, Builtin.firstCells, sizeOf, typeInfo, hi, e.1, ← hn, hld, hst]

theorem cell_row {w : World} {b k : Nat} {cs : List Value} {T : TypeId} (h : w.heap[b]? = some (.cells cs.toArray T (0, 0))) {v : Value} (hv : cs[k]? = some v) : w.cell? ⟨b, k, none⟩ = some v := by
  rw [cell_of_row w b k _ T (0, 0) h]
  simpa using hv

theorem ins_room (w : World) (b cap vb vc i n : Nat) (L0 : List E3) (x : E3) (post vpost : List Value) (E Ev : TypeId) (hL : L0.length = n) (hi : i < n) (hcap : n + 1 ≤ cap) (hc63 : cap ≤ 9223372036854775807) (hne : vb ≠ b) (hp3 : 3 ≤ post.length)
    (hb : w.heap[b]? = some (.cells (fls L0 ++ post).toArray E (0, 0))) (hv : w.heap[vb]? = some (.cells (fl3 x ++ vpost).toArray Ev (0, 0))) :
    Calls Try.prog 62 #[.slice (some ⟨b, 0, none⟩) n cap, .int .i64 i, .slice (some ⟨vb, 0, none⟩) 1 vc] w fun e w' =>
      e = .returned (.slice (some ⟨b, 0, none⟩) (n + 1) cap) ∧ But (fun k => k = b) w w' ∧ w'.heap[b]? = some (.cells (fls (L0.take i ++ x :: L0.drop i) ++ post.drop 3).toArray E (0, 0)) := by
  have hlL := fls_len L0
  have hlt := fls_len (L0.take i)
  have hld := fls_len (L0.drop i)
  have hsplit : fls L0 = fls (L0.take i) ++ fls (L0.drop i) := by rw [← fls_app, List.take_append_drop]
  have htl : (L0.take i).length = i := by rw [List.length_take]; omega
  have hdl : (L0.drop i).length = n - i := by rw [List.length_drop, hL]
  have hov : ∀ lb cb, (callFunc 99 #[.slice (some ⟨vb, 0, none⟩) 1 vc, .slice (some ⟨b, (i + 1) * 3, none⟩) lb cb]).run Try.prog w = .ok (.value (.bool false)) w := fun lb cb => by
    rw [run_callFunc_extern Try.func99 (by kernel_rfl) (by kernel_rfl) (by kernel_rfl) (e := Extern.SlicesOverlaps.overlaps #[44, 44] #[4]) (by kernel_rfl),
      Lib.run_overlaps_apart w 44 4 49 und_row 3 size_vc ⟨vb, 0, none⟩ ⟨b, (i + 1) * 3, none⟩ 1 vc lb cb hne Ev E (fl3 x ++ vpost).toArray.size (fls L0 ++ post).toArray.size (by simp [World.shape?, hv]) (by simp [World.shape?, hb]) (by rw [List.size_toArray, List.length_append]; omega) (by simp [World.frozen?, hv]) (by simp [World.frozen?, hv])]
    rfl
  have hcp1 : ∀ ty dc sc, (Builtin.copy_ #[44, 44] ty #[.slice (some ⟨b, (i + 1) * 3, none⟩) (n - i) dc, .slice (some ⟨b, i * 3, none⟩) (n + 1 - i) sc]).run Try.prog w.drew = .ok (goInt (n - i : Nat)) (w.drew.setRow b ((fls L0 ++ post).toArray.toList.take ((i + 1) * 3) ++ fls (L0.drop i) ++ (fls L0 ++ post).toArray.toList.drop ((i + 1) * 3 + (fls (L0.drop i)).length)).toArray) := fun ty dc sc =>
    run_copy3 w.drew ty b ((i + 1) * 3) (n - i) dc ⟨b, i * 3, none⟩ (n + 1 - i) sc (fls L0 ++ post).toArray E (fls (L0.drop i)) hb (by simp only [Nat.min_def]; split <;> omega) (by rw [hld, hdl])
      (fun j v hj => by
        rw [Addr.add_lit]
        refine cell_row (w := w.drew) (T := E) hb ?_
        rw [hsplit, List.append_assoc, List.getElem?_append_right (by omega), show i * 3 + j - (fls (L0.take i)).length = j by omega]
        exact List.getElem?_append_left (by have := (List.getElem?_eq_some_iff.1 hj).1; omega) ▸ hj)
      (by simp; omega) fls_one
  obtain ⟨J, hJ, hcur⟩ : ∃ J : List Value, J.length = 3 ∧ ((fls L0 ++ post).toArray.toList.take ((i + 1) * 3) ++ fls (L0.drop i) ++ (fls L0 ++ post).toArray.toList.drop ((i + 1) * 3 + (fls (L0.drop i)).length)) = fls (L0.take i) ++ (J ++ (fls (L0.drop i) ++ post.drop 3)) := by
    refine ⟨(fls (L0.drop i)).take 3, by rw [List.length_take]; omega, ?_⟩
    have e1 : (fls L0 ++ post).take ((i + 1) * 3) = fls (L0.take i) ++ (fls (L0.drop i)).take 3 := by
      rw [hsplit, List.append_assoc, List.take_append, List.take_of_length_le (by omega), show (i + 1) * 3 - (fls (L0.take i)).length = 3 by omega, List.take_append_of_le_length (by omega)]
    have e2 : (fls L0 ++ post).drop ((i + 1) * 3 + (fls (L0.drop i)).length) = post.drop 3 := by
      rw [List.drop_append, List.drop_eq_nil_of_le (by omega), List.nil_append]
      congr 1
      omega
    show (fls L0 ++ post).take _ ++ _ ++ (fls L0 ++ post).drop _ = _
    rw [e1, e2]
    simp
  rw [hcur] at hcp1
  have hb1 : (w.drew.setRow b (fls (L0.take i) ++ (J ++ (fls (L0.drop i) ++ post.drop 3))).toArray).heap[b]? = some (.cells (fls (L0.take i) ++ (J ++ (fls (L0.drop i) ++ post.drop 3))).toArray E (0, 0)) := setRow_heap w.drew b _ _ E _ hb
  have hv1 : (w.drew.setRow b (fls (L0.take i) ++ (J ++ (fls (L0.drop i) ++ post.drop 3))).toArray).heap[vb]? = some (.cells (fl3 x ++ vpost).toArray Ev (0, 0)) := by
    rw [setRow_other w.drew b vb _ hne]
    exact hv
  obtain ⟨W1, hW1⟩ : ∃ W1, W1 = w.drew.setRow b (fls (L0.take i) ++ (J ++ (fls (L0.drop i) ++ post.drop 3))).toArray := ⟨_, rfl⟩
  rw [← hW1] at hcp1 hb1 hv1
  have hcp2 : ∀ (W : World), W.heap = W1.heap → ∀ ty dc, (Builtin.copy_ #[44, 44] ty #[.slice (some ⟨b, i * 3, none⟩) (n + 1 - i) dc, .slice (some ⟨vb, 0, none⟩) 1 vc]).run Try.prog W = .ok (goInt (1 : Nat)) (W.setRow b ((fls (L0.take i) ++ (J ++ (fls (L0.drop i) ++ post.drop 3))).toArray.toList.take (i * 3) ++ fl3 x ++ (fls (L0.take i) ++ (J ++ (fls (L0.drop i) ++ post.drop 3))).toArray.toList.drop (i * 3 + (fl3 x).length)).toArray) := fun W hW ty dc =>
    run_copy3 W ty b (i * 3) (n + 1 - i) dc ⟨vb, 0, none⟩ 1 vc _ E (fl3 x) (hW ▸ hb1) (by simp only [Nat.min_def]; split <;> omega) rfl
      (fun j v hj => by
        rw [Addr.add_lit, Nat.zero_add]
        refine cell_row (w := W) (T := Ev) (hW ▸ hv1) ?_
        exact List.getElem?_append_left (by have := (List.getElem?_eq_some_iff.1 hj).1; omega) ▸ hj)
      (by simp [fl3]; omega) (fun v hv => fls_one (l := [x]) v (by simpa [fls] using hv))
  have hcur2 : ((fls (L0.take i) ++ (J ++ (fls (L0.drop i) ++ post.drop 3))).toArray.toList.take (i * 3) ++ fl3 x ++ (fls (L0.take i) ++ (J ++ (fls (L0.drop i) ++ post.drop 3))).toArray.toList.drop (i * 3 + (fl3 x).length)) = fls (L0.take i ++ x :: L0.drop i) ++ post.drop 3 := by
    show (fls (L0.take i) ++ (J ++ (fls (L0.drop i) ++ post.drop 3))).take _ ++ _ ++ (fls (L0.take i) ++ (J ++ (fls (L0.drop i) ++ post.drop 3))).drop _ = _
    rw [show i * 3 = (fls (L0.take i)).length by omega, List.take_left, show (fls (L0.take i)).length + (fl3 x).length = (fls (L0.take i) ++ J).length by rw [List.length_append, hJ]; rfl, ← List.append_assoc (fls (L0.take i)) J, List.drop_left, fls_app, fls_cons]
    simp
  rw [hcur2] at hcp2
  have hw1 : IntKind.i64.wrap ((i : Int) + 1) = (i : Int) + 1 := by rw [IntKind.wrap_i64]; omega
  have hz2 : ¬ ((i : Int) = (n : Int)) := by omega
  have h0i : (0 : Int) ≤ (i : Int) + 1 := by omega
  have hin : i ≤ n := by omega
  have htn : ((i : Int) + 1).toNat = i + 1 := by omega
  have hb2 : ¬ (cap = i + 1) := by omega
  have hb3 : (i : Int) ≤ (n : Int) + 1 := by omega
  have hb4 : ¬ (cap = i) := by omega
  go_enter Try.func62, Try.ntmps62
  go_wp2_with (simp only [hov])
  go_region_law (refine step_copy_runI rfl _ _ 44 44 rfl _ _ (by simp [Act.eval, Act.put]) (by simp [Act.eval, Act.put]) (hcp1 _ _ _) ?_)
  go_wp2_with (at_builtin; refine wpList_copy_runI _ rfl _ _ 44 44 rfl _ _ rfl rfl (hcp2 _ rfl _ _) ?_)
  go_ret
  exact ⟨rfl, setRow_but (S := fun k => k = b) (setRow_but (S := fun k => k = b) (But.refl _ w).drew (.inl rfl) _) (.inl rfl) _, setRow_heap _ _ _ _ _ _ (by rw [← hW1]; exact hb1)⟩

theorem drop_app (a c : List Value) (k : Nat) : (a ++ c).drop (a.length + k) = c.drop k := by rw [List.drop_append, List.drop_eq_nil_of_le (Nat.le_add_right _ _), Nat.add_sub_cancel_left, List.nil_append]
theorem ins_grow (w : World) (b vb vc i n : Nat) (L0 : List E3) (x : E3) (post vpost : List Value) (E Ev : TypeId) (hL : L0.length = n) (hi : i < n) (hbig : (n + 1) * 24 ≤ 140737488355328) (hne : vb ≠ b)
    (hb : w.heap[b]? = some (.cells (fls L0 ++ post).toArray E (0, 0))) (hv : w.heap[vb]? = some (.cells (fl3 x ++ vpost).toArray Ev (0, 0))) :
    Calls Try.prog 62 #[.slice (some ⟨b, 0, none⟩) n n, .int .i64 i, .slice (some ⟨vb, 0, none⟩) 1 vc] w fun e w' =>
      ∃ (G : Nat) (rest : List Value), e = .returned (.slice (some ⟨w.heap.size, 0, none⟩) (n + 1) G) ∧ But Nil w w' ∧ n + 1 ≤ G ∧ G ≤ maxLen ∧ rest.length = (G - (n + 1)) * 3 ∧ w'.heap[w.heap.size]? = some (.cells (fls (L0.take i ++ x :: L0.drop i) ++ rest).toArray 49 (0, 0)) := by
  have hlL := fls_len L0
  have hlt := fls_len (L0.take i)
  have hld := fls_len (L0.drop i)
  have hsplit : fls L0 = fls (L0.take i) ++ fls (L0.drop i) := by rw [← fls_app, List.take_append_drop]
  have htl : (L0.take i).length = i := by rw [List.length_take]; omega
  have hdl : (L0.drop i).length = n - i := by rw [List.length_drop, hL]
  have hbw := lt_of_heap hb
  have hvw := lt_of_heap hv
  obtain ⟨i0, hi0, e0⟩ := Option.map_eq_some_iff.1 info_vc
  obtain ⟨i1, hi1, ez⟩ := Option.map_eq_some_iff.1 info_z
  obtain rfl := Option.some.inj (hi0.symm.trans hi1)
  simp only [Prod.mk.injEq] at e0
  have hold : (Builtin.firstCells i0.size i (.slice (some ⟨b, 0, none⟩) i n)).run Try.prog w.drew = .ok (fls (L0.take i)).toArray w.drew := by
    rw [e0.1]
    exact run_firstCells_some w.drew 3 i ⟨b, 0, none⟩ i n (fls (L0.take i)) (by omega) (fun j v hj => by
      rw [Addr.add_lit, Nat.zero_add]
      refine cell_row (w := w.drew) (T := E) hb ?_
      rw [hsplit, List.append_assoc]
      exact List.getElem?_append_left (by have := (List.getElem?_eq_some_iff.1 hj).1; omega) ▸ hj)
  obtain ⟨G, hG⟩ : ∃ G, G = grownCap w (n + 1) n 49 := ⟨_, rfl⟩
  have hGn : n + 1 ≤ G := by rw [hG]; exact grownCap_ge w _ _ _
  have hGm : G ≤ maxLen := by rw [hG]; exact grownCap_le_maxLen w _ _ _ (by unfold maxLen; omega)
  have hik : i + (n + 1 - i) = n + 1 := by omega
  have hkk : (n : Int) + 1 - (i : Int) = ((n + 1 - i : Nat) : Int) := by omega
  obtain ⟨Z, hZ, hrz⟩ : ∃ Z : List Value, Z.length = (n + 1 - i) * 3 + (G - (n + 1)) * 3 ∧ ∀ ty, (Builtin.append_ #[44, 3] ty #[.slice (some ⟨b, 0, none⟩) i n, .int .i64 ((n : Int) + 1 - (i : Int))]).run Try.prog w =
      .ok (.slice (some ⟨w.heap.size, 0, none⟩) (n + 1) G) (w.drew.alloc (.cells (fls (L0.take i) ++ Z).toArray 49)) := by
    refine ⟨(Builtin.zeroCells (Value.agg #[.int .i64 0, .int .i64 0, .int .i64 0]).cells (n + 1 - i)).toList ++ (Builtin.zeroCells (Value.agg #[.int .i64 0, .int .i64 0, .int .i64 0]).cells (G - (n + 1))).toList, by simp [Builtin.zeroCells, Value.cells], fun ty => ?_⟩
    have h := Lib.run_append_grow_zeros w 44 3 ty 49 i0 _ .i64 .i64 und_row und_int hi0 ez (some ⟨b, 0, none⟩) i n (fls (L0.take i)) hold (n + 1 - i) (by omega) (by omega) (by omega) (by omega) (by rw [e0.2]; omega) (by rw [e0.2, hik]; exact growslice_fits (by omega) hbig)
    rw [hik, ← hG] at h
    rw [hkk, h]
    congr 3
    simp
  have hb1 : (w.drew.alloc (.cells (fls (L0.take i) ++ Z).toArray 49)).heap[b]? = some (.cells (fls L0 ++ post).toArray E (0, 0)) := heap_old (w := w.drew) hb
  have hv1 : (w.drew.alloc (.cells (fls (L0.take i) ++ Z).toArray 49)).heap[vb]? = some (.cells (fl3 x ++ vpost).toArray Ev (0, 0)) := heap_old (w := w.drew) hv
  have hn1 : (w.drew.alloc (.cells (fls (L0.take i) ++ Z).toArray 49)).heap[w.heap.size]? = some (.cells (fls (L0.take i) ++ Z).toArray 49 (0, 0)) := heap_new (w := w.drew) rfl
  obtain ⟨W1, hW1⟩ : ∃ W1, W1 = w.drew.alloc (.cells (fls (L0.take i) ++ Z).toArray 49) := ⟨_, rfl⟩
  have hcpA : ∀ (W : World), W.heap = W1.heap → ∀ ty dc, (Builtin.copy_ #[44, 44] ty #[.slice (some ⟨w.heap.size, i * 3, none⟩) (n + 1 - i) dc, .slice (some ⟨vb, 0, none⟩) 1 vc]).run Try.prog W = .ok (goInt (1 : Nat)) (W.setRow w.heap.size ((fls (L0.take i) ++ Z).toArray.toList.take (i * 3) ++ fl3 x ++ (fls (L0.take i) ++ Z).toArray.toList.drop (i * 3 + (fl3 x).length)).toArray) := fun W hW ty dc =>
    run_copy3 W ty w.heap.size (i * 3) (n + 1 - i) dc ⟨vb, 0, none⟩ 1 vc _ 49 (fl3 x) (by rw [hW, hW1]; exact hn1) (by simp only [Nat.min_def]; split <;> omega) rfl
      (fun j v hj => by
        rw [Addr.add_lit, Nat.zero_add]
        refine cell_row (w := W) (T := Ev) (by rw [hW, hW1]; exact hv1) ?_
        exact List.getElem?_append_left (by have := (List.getElem?_eq_some_iff.1 hj).1; omega) ▸ hj)
      (by simp [fl3]; omega) (fun v hv => fls_one (l := [x]) v (by simpa [fls] using hv))
  have hcurA : ((fls (L0.take i) ++ Z).toArray.toList.take (i * 3) ++ fl3 x ++ (fls (L0.take i) ++ Z).toArray.toList.drop (i * 3 + (fl3 x).length)) = fls (L0.take i) ++ (fl3 x ++ Z.drop 3) := by
    show (fls (L0.take i) ++ Z).take _ ++ _ ++ (fls (L0.take i) ++ Z).drop _ = _
    rw [show i * 3 = (fls (L0.take i)).length by omega, List.take_left, List.drop_append, List.drop_eq_nil_of_le (by omega), show (fls (L0.take i)).length + (fl3 x).length - (fls (L0.take i)).length = 3 by simp [fl3]]
    simp
  rw [hcurA] at hcpA
  obtain ⟨W2, hW2⟩ : ∃ W2, W2 = W1.setRow w.heap.size (fls (L0.take i) ++ (fl3 x ++ Z.drop 3)).toArray := ⟨_, rfl⟩
  have hn2 : W2.heap[w.heap.size]? = some (.cells (fls (L0.take i) ++ (fl3 x ++ Z.drop 3)).toArray 49 (0, 0)) := by rw [hW2]; exact setRow_heap W1 _ _ _ _ _ (by rw [hW1]; exact hn1)
  have hb2 : W2.heap[b]? = some (.cells (fls L0 ++ post).toArray E (0, 0)) := by rw [hW2, setRow_other W1 _ b _ (by omega), hW1]; exact hb1
  have hcpB : ∀ (W : World), W.heap = W2.heap → ∀ ty dc sc, (Builtin.copy_ #[44, 44] ty #[.slice (some ⟨w.heap.size, (i + 1) * 3, none⟩) (n - i) dc, .slice (some ⟨b, i * 3, none⟩) (n - i) sc]).run Try.prog W = .ok (goInt (n - i : Nat)) (W.setRow w.heap.size ((fls (L0.take i) ++ (fl3 x ++ Z.drop 3)).toArray.toList.take ((i + 1) * 3) ++ fls (L0.drop i) ++ (fls (L0.take i) ++ (fl3 x ++ Z.drop 3)).toArray.toList.drop ((i + 1) * 3 + (fls (L0.drop i)).length)).toArray) := fun W hW ty dc sc =>
    run_copy3 W ty w.heap.size ((i + 1) * 3) (n - i) dc ⟨b, i * 3, none⟩ (n - i) sc _ 49 (fls (L0.drop i)) (by rw [hW]; exact hn2) (by simp only [Nat.min_def]; split <;> omega) (by rw [hld, hdl])
      (fun j v hj => by
        rw [Addr.add_lit]
        refine cell_row (w := W) (T := E) (by rw [hW]; exact hb2) ?_
        rw [hsplit, List.append_assoc, List.getElem?_append_right (by omega), show i * 3 + j - (fls (L0.take i)).length = j by omega]
        exact List.getElem?_append_left (by have := (List.getElem?_eq_some_iff.1 hj).1; omega) ▸ hj)
      (by simp [fl3]; omega) fls_one
  have hcurB : ((fls (L0.take i) ++ (fl3 x ++ Z.drop 3)).toArray.toList.take ((i + 1) * 3) ++ fls (L0.drop i) ++ (fls (L0.take i) ++ (fl3 x ++ Z.drop 3)).toArray.toList.drop ((i + 1) * 3 + (fls (L0.drop i)).length)) = fls (L0.take i ++ x :: L0.drop i) ++ (Z.drop 3).drop ((n - i) * 3) := by
    show (fls (L0.take i) ++ (fl3 x ++ Z.drop 3)).take _ ++ _ ++ (fls (L0.take i) ++ (fl3 x ++ Z.drop 3)).drop _ = _
    have e3 : (fls (L0.take i) ++ fl3 x).length = (i + 1) * 3 := by rw [List.length_append]; simp [fl3]; omega
    rw [← List.append_assoc, ← e3, List.take_left, drop_app, hld, hdl, fls_app, fls_cons]
    simp
  rw [hcurB] at hcpB
  have hrest : ((Z.drop 3).drop ((n - i) * 3)).length = (G - (n + 1)) * 3 := by simp; omega
  generalize (Z.drop 3).drop ((n - i) * 3) = rest at *
  have hw1 : IntKind.i64.wrap ((i : Int) + 1) = (i : Int) + 1 := by rw [IntKind.wrap_i64]; omega
  have hz2 : ¬ ((i : Int) = (n : Int)) := by omega
  have h0i : (0 : Int) ≤ (i : Int) + 1 := by omega
  have hin : i ≤ n := by omega
  have htn : ((i : Int) + 1).toNat = i + 1 := by omega
  have hgi : ¬ (G = i) := by omega
  have hgi1 : ¬ (G = i + 1) := by omega
  have hni : ¬ (n = i) := by omega
  have hlt1 : (n : Int) < (n : Int) + 1 := by omega
  have hii : (i : Int) ≤ (n : Int) := by omega
  clear hcurA hcurB hkk hik hold hG
  go_enter Try.func62, Try.ntmps62
  go_wp2_with (first
    | (at_builtin; refine Lib.wpList_append_run _ rfl _ _ _ _ rfl _ _ rfl rfl _ _ (hrz _) ?_)
    | (at_builtin; refine wpList_copy_runI _ rfl _ _ 44 44 rfl _ _ rfl rfl (hcpA _ (by rw [hW1]) _ _) ?_))
  have hcpC : ∀ ty dc sc, (Builtin.copy_ #[44, 44] ty #[.slice (some ⟨w.heap.size, (i + 1) * 3, none⟩) (n - i) dc, .slice (some ⟨b, i * 3, none⟩) (n - i) sc]).run Try.prog ((w.alloc (.cells (fls (L0.take i) ++ Z).toArray 49)).drew.setRow w.heap.size (fls (L0.take i) ++ (fl3 x ++ Z.drop 3)).toArray).drew = _ := fun ty dc sc => hcpB _ (by subst hW2 hW1; rfl) ty dc sc
  go_region_law (refine step_copy_runI rfl _ _ 44 44 rfl (.slice (some ⟨w.heap.size, (i + 1) * 3, none⟩) (n - i) (G - (i + 1))) (.slice (some ⟨b, i * 3, none⟩) (n - i) (n - i)) (by simp [Act.eval, Act.put]) (by simp [Act.eval, Act.put]) (hcpC _ _ _) ?_)
  go_wp2_with fail
  go_ret
  exact ⟨G, rest, rfl, setRow_but (S := Nil) (setRow_but (S := Nil) ((But.refl Nil w).alloc _).drew (.inr (Nat.le_refl _)) _).drew (.inr (Nat.le_refl _)) _, hGn, hGm, hrest, setRow_heap _ _ _ _ _ _ (by subst hW2 hW1; exact hn2)⟩
end Go.Proofs.Ytinclokohcommaa.Ins


namespace Go.Proofs.Ytinclokohcommaa
namespace Ins
open Go.RowKit
set_option linter.unusedVariables false
set_option linter.unusedSimpArgs false
set_option maxRecDepth 100000

def stOf (T : TypeId) : TypeId := match tyOf T with
  | some (.st S) => S
  | _ => 0
abbrev uS : TypeId := stOf 49
abbrev cS : TypeId := stOf 37
theorem tyU : tyOf 49 = some (.st uS) := by kernel_rfl
theorem flU : flds uS = some [.int .i64, .st cS] := by kernel_rfl
theorem flC : flds cS = some [.int .i64, .int .i64] := by kernel_rfl
theorem wU : (Ty.st uS).w = 3 := by kernel_rfl
theorem lmU : LM (.st uS) = 5864062014634 := by kernel_rfl

def dE (x : E3) : D := .a [.i x.1, .a [.i x.2.1, .i x.2.2]]
def okE3 (x : E3) : Prop := rngB .i64 x.1 = true ∧ rngB .i64 x.2.1 = true ∧ rngB .i64 x.2.2 = true
theorem rd_dE {x : E3} (h : okE3 x) (w : World) (F : Nat → Prop) : Rd w F (dE x) (.st uS) (fl3 x) :=
  ⟨_, _, rfl, flU, .int .i64, [.st cS], [.int .i64 x.1], [.int .i64 x.2.1, .int .i64 x.2.2], rfl, rfl, ⟨.i64, rfl, rfl, h.1⟩, .st cS, [], [.int .i64 x.2.1, .int .i64 x.2.2], [], rfl, rfl,
    ⟨_, _, rfl, flC, .int .i64, [.int .i64], [.int .i64 x.2.1], [.int .i64 x.2.2], rfl, rfl, ⟨.i64, rfl, rfl, h.2.1⟩, .int .i64, [], [.int .i64 x.2.2], [], rfl, rfl, ⟨.i64, rfl, rfl, h.2.2⟩, rfl, rfl⟩, rfl, rfl⟩
theorem of_rdI {w : World} {F : Nat → Prop} {d : D} {cs : List Value} (h : Rd w F d (.int .i64) cs) : ∃ n, rngB .i64 n = true ∧ d = .i n ∧ cs = [.int .i64 n] := by
  cases d <;> simp only [Rd, reduceCtorEq, false_and, exists_false, and_false] at h
  obtain ⟨k, e, h1, h2⟩ := h
  injection e with e
  subst e
  exact ⟨_, h2, rfl, h1⟩
theorem of_rdS {w : World} {F : Nat → Prop} {d : D} {S : TypeId} {fs : List Ty} (hfs : flds S = some fs) {cs : List Value} (h : Rd w F d (.st S) cs) : ∃ l, d = .a l ∧ RdF w F l fs cs := by
  cases d <;> simp only [Rd, reduceCtorEq, false_and, exists_false, and_false] at h
  obtain ⟨T, fs', e, h1, h2⟩ := h
  injection e with e
  subst e
  obtain rfl := Option.some.inj (h1.symm.trans hfs)
  exact ⟨_, rfl, h2⟩
theorem of_rdF {w : World} {F : Nat → Prop} {l : List D} {t : Ty} {ts : List Ty} {cs : List Value} (h : RdF w F l (t :: ts) cs) : ∃ d l' c1 c2, l = d :: l' ∧ cs = c1 ++ c2 ∧ Rd w F d t c1 ∧ RdF w F l' ts c2 := by
  cases l with
  | nil => obtain ⟨e, -⟩ := h; cases e
  | cons d l =>
    obtain ⟨t', ts', c1, c2, e, e2, h1, h2⟩ := h
    injection e with e e'
    subst e e'
    exact ⟨d, l, c1, c2, rfl, e2, h1, h2⟩
theorem of_rdN {w : World} {F : Nat → Prop} {l : List D} {cs : List Value} (h : RdF w F l [] cs) : l = [] ∧ cs = [] := by
  cases l with
  | nil => exact ⟨rfl, h.2⟩
  | cons d l => obtain ⟨t', ts', c1, c2, e, -⟩ := h; cases e
theorem of_rdE {w : World} {F : Nat → Prop} {d : D} {cs : List Value} (h : Rd w F d (.st uS) cs) : ∃ x, okE3 x ∧ d = dE x ∧ cs = fl3 x := by
  obtain ⟨l, rfl, hF⟩ := of_rdS flU h
  obtain ⟨d1, l1, c1, c2, rfl, rfl, h1, hG⟩ := of_rdF hF
  obtain ⟨d2, l2, c3, c4, rfl, rfl, h2, hH⟩ := of_rdF hG
  obtain ⟨rfl, rfl⟩ := of_rdN hH
  obtain ⟨n1, r1, rfl, rfl⟩ := of_rdI h1
  obtain ⟨l, rfl, hI⟩ := of_rdS flC h2
  obtain ⟨d3, l3, c5, c6, rfl, rfl, h3, hJ⟩ := of_rdF hI
  obtain ⟨d4, l4, c7, c8, rfl, rfl, h4, hK⟩ := of_rdF hJ
  obtain ⟨rfl, rfl⟩ := of_rdN hK
  obtain ⟨n2, r2, rfl, rfl⟩ := of_rdI h3
  obtain ⟨n3, r3, rfl, rfl⟩ := of_rdI h4
  exact ⟨(n1, n2, n3), ⟨r1, r2, r3⟩, rfl, rfl⟩
theorem range_drop3 {w : World} {b q : Nat} {cur : Array Value} {T : TypeId} (hc : w.heap[b]? = some (.cells cur T (0, 0))) {x y z : Value} (h : w.rangeAt b q [x, y, z]) : cur.toList.drop q = x :: y :: z :: cur.toList.drop (q + 3) := by
  have get : ∀ j v, ([x, y, z] : List Value)[j]? = some v → cur.toList[q + j]? = some v := fun j v hj => by
    have := h j v hj
    rw [cell_of_row w b _ cur T (0, 0) hc, ← Array.getElem?_toList] at this
    exact this
  have g0 := get 0 x rfl
  have g1 := get 1 y rfl
  have g2 := get 2 z rfl
  obtain ⟨h0, e0⟩ := List.getElem?_eq_some_iff.1 g0
  obtain ⟨h1, e1⟩ := List.getElem?_eq_some_iff.1 g1
  obtain ⟨h2, e2⟩ := List.getElem?_eq_some_iff.1 g2
  rw [List.drop_eq_getElem_cons (by omega : q < cur.toList.length), List.drop_eq_getElem_cons h1, List.drop_eq_getElem_cons (by omega : q + 1 + 1 < cur.toList.length)]
  simp only [Nat.add_zero] at e0
  rw [e0, e1]
  congr 3
theorem row_form {w : World} {F : Nat → Prop} {b o : Nat} {cur : Array Value} {T : TypeId} (hc : w.heap[b]? = some (.cells cur T (0, 0))) : ∀ {rs : List D} {i : Nat}, RdE w F rs (.st uS) (some ⟨b, o, none⟩) i → ∃ L : List E3, rs = L.map dE ∧ (∀ x ∈ L, okE3 x) ∧ cur.toList.drop (o + i * 3) = fls L ++ cur.toList.drop (o + (i + rs.length) * 3)
  | [], i, _ => ⟨[], rfl, fun x hx => (by cases hx), by simp [fls]⟩
  | d :: rs, i, ⟨⟨b', o', cs, e, hF, hr, hd⟩, h⟩ => by
    injection e with e
    injection e with e1 e2
    subst e1 e2
    obtain ⟨x, hx, rfl, rfl⟩ := of_rdE hd
    obtain ⟨L, rfl, hL, hdr⟩ := row_form hc h
    rw [wU] at hr
    refine ⟨x :: L, rfl, fun y hy => (List.mem_cons.1 hy).elim (fun e => e ▸ hx) (hL y), ?_⟩
    have := range_drop3 hc hr
    rw [this, show o + i * 3 + 3 = o + (i + 1) * 3 by omega, hdr, show i + 1 + (L.map dE).length = i + (dE x :: L.map dE).length by simp; omega]
    rfl

theorem own_form {A : Nat → Prop} {p : Pins} {w : World} {dep : List Nat} {pin : Nat} {l : List D} {v : Value} (h : OwnR A p w dep pin 49 (.st uS) l v) (h0 : 0 < l.length) :
    ∃ g cap L post, v = .slice (some ⟨g, 0, none⟩) l.length cap ∧ p pin = some g ∧ l = L.map dE ∧ (∀ x ∈ L, okE3 x) ∧ w.heap[g]? = some (.cells (fls L ++ post).toArray 49 (0, 0)) ∧ l.length ≤ cap ∧ cap ≤ maxLen ∧ post.length = (cap - l.length) * 3 := by
  rcases h with ⟨-, rfl⟩ | ⟨g, cap, cur, rfl, hg, hh, h1, h2, h3, h4, h5⟩
  · simp at h0
  · obtain ⟨L, hL, hok, hdr⟩ := row_form (F := FFD A p (pin :: dep)) (o := 0) hh (rs := l) (i := 0) (rdE_iff.2 fun j hj => by
      obtain ⟨cs, hr, hx⟩ := h5 j hj
      exact ⟨g, 0, cs, rfl, .inr ⟨pin, by simp, hg⟩, by simpa using hr, hx.mono fun b _ hb => hb.mono fun x hx => List.mem_cons_of_mem _ hx⟩)
    have hl := fls_len L
    have hll : l.length = L.length := by rw [hL, List.length_map]
    simp only [Nat.zero_mul, Nat.zero_add, List.drop_zero] at hdr
    rw [wU] at h3
    have hcl := congrArg List.length hdr
    rw [List.length_append, List.length_drop, Array.length_toList] at hcl
    refine ⟨g, cap, L, cur.toList.drop (l.length * 3), rfl, hg, hL, hok, ?_, h1, h2, ?_⟩
    · rw [← hdr]
      exact hh
    · rw [List.length_drop, Array.length_toList]
      omega
theorem fls_get : ∀ {l : List E3} {i : Nat} (h : i < l.length) {j : Nat} {v : Value}, (fl3 l[i])[j]? = some v → (fls l)[i * 3 + j]? = some v
  | x :: l, 0, _, j, v, hj => by
    rw [Nat.zero_mul, Nat.zero_add, fls_cons]
    exact List.getElem?_append_left (by have := (List.getElem?_eq_some_iff.1 hj).1; exact this) ▸ hj
  | x :: l, i + 1, h, j, v, hj => by
    have := fls_get (l := l) (i := i) (by simpa using h) (j := j) (v := v) (by simpa using hj)
    rw [fls_cons, show (i + 1) * 3 + j = i * 3 + j + 3 by omega]
    exact this
theorem own_mk {A : Nat → Prop} {p : Pins} {w : World} {pin g cap : Nat} {M : List E3} {post : List Value} (hp : p pin = some g) (hM : ∀ x ∈ M, okE3 x) (hh : w.heap[g]? = some (.cells (fls M ++ post).toArray 49 (0, 0))) (h1 : M.length ≤ cap) (h2 : cap ≤ maxLen) (h3 : post.length = (cap - M.length) * 3) (h4 : M.length ≤ 5864062014634) :
    OwnR A p w [] pin 49 (.st uS) (M.map dE) (.slice (some ⟨g, 0, none⟩) M.length cap) := by
  have hl := fls_len M
  refine .inr ⟨g, cap, _, by rw [List.length_map], hp, hh, by rw [List.length_map]; exact h1, h2, by rw [List.size_toArray, List.length_append, wU]; omega, by rw [List.length_map, lmU]; exact h4, fun i hi => ?_⟩
  have hi' : i < M.length := by simpa using hi
  refine ⟨fl3 M[i], fun j v hj => ?_, by simpa using rd_dE (hM _ (List.getElem_mem hi')) _ _⟩
  rw [wU]
  have := fls_get hi' hj
  exact cell_row hh (List.getElem?_append_left (by have := (List.getElem?_eq_some_iff.1 this).1; exact this) ▸ this)
end Ins
open Ins
open Go.RowKit
set_option maxRecDepth 100000
def gIns : List D → Option (List D)
  | [r, i, v] => if v.rs.length = 1 ∧ 0 ≤ i.int ∧ i.int ≤ r.rs.length ∧ r.rs.length + 1 ≤ 5864062014634 then some [.r (r.rs.take i.int.toNat ++ v.rs ++ r.rs.drop i.int.toNat)] else none
  | _ => none
theorem of_con {A : Nat → Prop} {p : Pins} {w : World} {d : D} {pin : Nat} {cs : List Value} (h : Con A p w d (.row 49) [(0, pin)] [] cs) : ∃ l v, d = .r l ∧ cs = [v] ∧ OwnR A p w [] pin 49 (.st uS) l v := by
  rcases h with ⟨E, te, l, v, e, hte, rfl, rfl, h⟩ | ⟨K, V, kt, vt, l, g, es, clock, e, -⟩
  · injection e with e
    subst e
    obtain rfl := Option.some.inj (hte.symm.trans tyU)
    exact ⟨l, v, rfl, rfl, h⟩
  · cases e
set_option maxHeartbeats 1000000 in
theorem ok_slices_Insert_VarCell : FOk ct_slices_Insert_VarCell gIns := FOk.of_at enter_slices_Insert_VarCell fun ds outs hw hg => by
  obtain ⟨d, r, rfl, hd, e, r', rfl, he, e2, r2, rfl, he2, hw⟩ := hw
  obtain rfl : r2 = [] := hw
  obtain ⟨l, te, rfl, hte, hl, -⟩ := hd.row
  obtain ⟨n, rfl, hn⟩ := wfI he
  obtain ⟨m, te2, rfl, hte2, hm, -⟩ := he2.row
  have hg' : (if m.length = 1 ∧ 0 ≤ n ∧ n ≤ l.length ∧ l.length + 1 ≤ 5864062014634 then some [.r (l.take n.toNat ++ m ++ l.drop n.toNat)] else none) = some outs := hg
  split at hg'
  case isFalse => cases hg'
  rename_i hc
  obtain ⟨h1, h2, h3, h4⟩ := hc
  injection hg' with hg'
  subst hg'
  clear hg
  by_cases hnl : n = l.length
  · refine fat_ret ann_slices_Insert_VarCell Try.f62 _ .nil rfl rfl (by decide) (fun e he => by cases he) (by simp) ?_
    rw [code_slices_Insert_VarCell _ rfl]
    subst hnl
    simp [tree_slices_Insert_VarCell, Tree.go, allSay, X.says, X.ev, X.evs, evl, D.rs, D.int, D.tt, h1]
    omega
  · intro A p w vs us hpre hvl hargs
    obtain ⟨v0, r0, d0, ds0, e0, e00, ⟨cs0, hpk0, hc0⟩, v1, r1, d1, ds1, e1, e11, ⟨cs1, hpk1, hc1⟩, v2, r2, d2, ds2, e2', e22, ⟨cs2, hpk2, hc2⟩, hr⟩ := hargs
    obtain rfl : r2 = [] := hr.1
    subst e1 e2'
    obtain ⟨rfl, rfl⟩ := List.cons.inj e00
    obtain ⟨rfl, rfl⟩ := List.cons.inj e11
    obtain ⟨rfl, -⟩ := List.cons.inj e22
    clear e00 e11 e22 hr
    obtain ⟨rfl, rfl⟩ : vs = [v0, v1, v2] ∧ us = [] := by
      have hl3 : vs.length = 3 := hvl
      have hus : us.length = 0 := by
        have := congrArg List.length e0
        simp at this
        omega
      obtain rfl := List.length_eq_zero_iff.1 hus
      exact ⟨by simpa using e0, rfl⟩
    clear e0
    have hc0 : Con A p w (D.r l) (.row 49) [(0, 1)] [] cs0 := hc0
    have hc2 : Con A p w (D.r m) (.row 49) [(0, 33)] [] cs2 := hc2
    obtain ⟨l', u0, q0, rfl, ho0⟩ := of_con hc0
    obtain ⟨m', u2, q2, rfl, ho2⟩ := of_con hc2
    injection q0 with q0
    injection q2 with q2
    subst q0 q2
    obtain rfl : u0 = v0 := (List.cons.inj hpk0).1
    obtain rfl : u2 = v2 := (List.cons.inj hpk2).1
    obtain ⟨n', -, e, rfl⟩ := of_rdI hc1
    injection e with e
    subst e
    obtain rfl : Value.int .i64 n = v1 := (List.cons.inj hpk1).1
    obtain ⟨g, cap, L, post, rfl, hpg, hL, hLo, hg, hcap, hcm, hpost⟩ := own_form ho0 (by omega)
    obtain ⟨g2, cap2, M, post2, rfl, hpg2, hM, hMo, hg2, hcap2, -, -⟩ := own_form ho2 (by omega)
    have hne : g2 ≠ g := fun e => by
      subst e
      have := hpre.inj _ _ _ hpg2 hpg
      omega
    have hLl : l.length = L.length := by rw [hL, List.length_map]
    obtain ⟨x, rfl⟩ : ∃ x, M = [x] := by
      have : M.length = 1 := by rw [← h1, hM, List.length_map]
      exact List.length_eq_one_iff.1 this
    have hx : okE3 x := hMo x (by simp)
    obtain ⟨i, rfl⟩ : ∃ i : Nat, n = i := ⟨n.toNat, by omega⟩
    have hi : i < L.length := by omega
    have hg2 : w.heap[g2]? = some (.cells (fl3 x ++ post2).toArray 49 (0, 0)) := by simpa [fls] using hg2
    have hout : l.take (i : Int).toNat ++ m ++ l.drop (i : Int).toNat = (L.take i ++ x :: L.drop i).map dE := by
      rw [hL, hM, Int.toNat_natCast]
      simp
    have hNo : ∀ y ∈ L.take i ++ x :: L.drop i, okE3 y := fun y hy => by
      rcases List.mem_append.1 hy with h | h
      · exact hLo y (List.mem_of_mem_take h)
      · rcases List.mem_cons.1 h with rfl | h
        · exact hx
        · exact hLo y (List.mem_of_mem_drop h)
    have hNl : (L.take i ++ x :: L.drop i).length = L.length + 1 := by simp; omega
    have hlm : cap ≤ 9223372036854775807 := by unfold maxLen at hcm; omega
    have fin : ∀ (g' cap' : Nat) (post' : List Value) (w' : World), A g' → (pinned p g' ∨ w.heap.size ≤ g') → But (pinned p) w w' → w'.heap[g']? = some (.cells (fls (L.take i ++ x :: L.drop i) ++ post').toArray 49 (0, 0)) → L.length + 1 ≤ cap' → cap' ≤ maxLen → post'.length = (cap' - (L.length + 1)) * 3 →
        ∃ rs p', Ending.returned (.slice (some ⟨g', 0, none⟩) (L.length + 1) cap') = .returned (retV rs) ∧ Bs A w (pinned p) p' w' ∧ ResL A p' w' ct_slices_Insert_VarCell.rs ct_slices_Insert_VarCell.ar.length rs (List.take ct_slices_Insert_VarCell.rs.length [D.r (l.take (i : Int).toNat ++ m ++ l.drop (i : Int).toNat)]) ∧ RefL A p p' w' ct_slices_Insert_VarCell.all (List.drop ct_slices_Insert_VarCell.rs.length [D.r (l.take (i : Int).toNat ++ m ++ l.drop (i : Int).toNat)]) := by
      intro g' cap' post' w' hA hgp hb hh a1 a2 a3
      have hp' : ∀ y b, (fun y => if y = 49 then some g' else none : Pins) y = some b → y = 49 ∧ b = g' := fun y b h => by
        by_cases hy : y = 49
        · subst hy
          exact ⟨rfl, (Option.some.inj h).symm⟩
        · simp [hy] at h
      refine ⟨[.slice (some ⟨g', 0, none⟩) (L.length + 1) cap'], fun y => if y = 49 then some g' else none, rfl, ⟨?_, ?_, hb, ?_, hpre.new, ?_, ?_⟩, ?_, rfl⟩
      · intro y z b h1 h2
        rw [(hp' y b h1).1, (hp' z b h2).1]
      · intro y b h
        rw [(hp' y b h).2]
        exact lt_of_heap hh
      · intro y b h
        rw [(hp' y b h).2]
        exact hgp
      · intro y b h
        rw [(hp' y b h).2]
        exact hA
      · intro y b h
        rw [(hp' y b h).2]
        exact .inl ⟨_, _, hh⟩
      · refine ⟨_, _, _, _, rfl, rfl, ⟨[.slice (some ⟨g', 0, none⟩) (L.length + 1) cap'], rfl, ?_⟩, rfl⟩
        refine .inl ⟨49, .st uS, _, _, rfl, tyU, rfl, rfl, ?_⟩
        rw [hout, ← hNl]
        exact own_mk rfl hNo hh (by rw [hNl]; exact a1) a2 (by rw [hNl]; exact a3) (by rw [hNl]; omega)
    rw [h1, hLl]
    by_cases hroom : L.length + 1 ≤ cap
    · refine Calls.mono (ins_room w g cap g2 cap2 i L.length L x post post2 49 49 rfl hi hroom hlm hne (by rw [hpost]; omega) hg hg2) ?_
      rintro e w' ⟨rfl, hb, hh⟩
      exact .inr (fin g cap _ w' (hpre.pa _ _ hpg) (.inl ⟨_, hpg⟩) (hb.mono fun k hk _ => hk ▸ ⟨_, hpg⟩) hh hroom hcm (by rw [List.length_drop, hpost]; omega))
    · have hcl : cap = L.length := by omega
      subst hcl
      refine Calls.mono (ins_grow w g g2 cap2 i L.length L x post post2 49 49 rfl hi (by omega) hne hg hg2) ?_
      rintro e w' ⟨G, rest, rfl, hb, a1, a2, a3, hh⟩
      exact .inr (fin _ G _ w' (hpre.new _ (Nat.le_refl _)) (.inr (Nat.le_refl _)) hb.of_nil hh a1 a2 a3)
end Go.Proofs.Ytinclokohcommaa


namespace Go.Proofs.Ytinclokohcommaa
open Go.RowKit
set_option linter.unusedVariables false
set_option linter.unusedSimpArgs false

def gNan : List D → Option (List D)
  | [x] => some [.b false]
  | _ => none
theorem ok_cmp_isNaN_int64 : FOk ct_cmp_isNaN_int64 gNan := fok_cmp_isNaN_int64 fun ds outs hw hg => by
  obtain ⟨d, r, rfl, hd, rfl⟩ := hw
  simp only [gNan, Option.some.injEq] at hg
  subst hg
  simp [tree_cmp_isNaN_int64, go_need, go_br, go_leaf, go_back, allSay, X.says, X.ev, X.evs, evl, tblS, List.getD_cons_zero, List.getD_cons_succ, List.getElem?_cons_zero, List.getElem?_cons_succ, tt_b, int_i, str_s, rs_r, Option.isSome_some, Option.getD_some, decide_eq_true_eq, decide_eq_false_iff_not, dS_eS, dC_eC, dU_eU, dW_eW, dY_eY, eC_0, eC_1, eU_0, eU_1, eW_0, eW_1, eW_2, eY_0, eY_1, eS_0, eS_1, eS_2, eS_3, eS_4, eS_5, List.length_map, i_inj, b_inj, s_inj, eC_eq, eU_eq, eW_eq, eY_eq, eS_eq, rng64, List.take_succ_cons, List.take_zero, List.nil_append, List.cons_append, decide_true, decide_false, Bool.or_true, true_and, and_true, dT_eT, eT_0, eT_1, eT_2, eT_3, eT_eq, eT_z]
def gCmp : List D → Option (List D)
  | [x, v] => some [.i (if x.int < v.int then -1 else if v.int < x.int then 1 else 0)]
  | _ => none
theorem ok_cmp_Compare_int64 : FOk ct_cmp_Compare_int64 gCmp := fok_cmp_Compare_int64 ok_cmp_isNaN_int64 fun ds outs hw hg => by
  obtain ⟨d, r, rfl, hd, e, r', rfl, he, rfl⟩ := hw
  obtain ⟨x, rfl, hx⟩ := wfI hd
  obtain ⟨v, rfl, hv⟩ := wfI he
  simp only [gCmp, int_i, Option.some.injEq] at hg
  subst hg
  simp only [tree_cmp_Compare_int64, go_need, go_br, go_leaf, go_back, allSay, X.says, X.ev, X.evs, evl, tblS, List.getD_cons_zero, List.getD_cons_succ, List.getElem?_cons_zero, List.getElem?_cons_succ, tt_b, int_i, str_s, rs_r, Option.isSome_some, Option.getD_some, decide_eq_true_eq, decide_eq_false_iff_not, dS_eS, dC_eC, dU_eU, dW_eW, dY_eY, eC_0, eC_1, eU_0, eU_1, eW_0, eW_1, eW_2, eY_0, eY_1, eS_0, eS_1, eS_2, eS_3, eS_4, eS_5, List.length_map, i_inj, b_inj, s_inj, eC_eq, eU_eq, eW_eq, eY_eq, eS_eq, rng64, List.take_succ_cons, List.take_zero, List.nil_append, List.cons_append, decide_true, decide_false, Bool.or_true, true_and, and_true, dT_eT, eT_0, eT_1, eT_2, eT_3, eT_eq, eT_z, gNan]
  by_cases h1 : x < v <;> by_cases h2 : v < x <;> simp [h1, h2]
def gByV : List D → Option (List D)
  | [x, v] => some [.i (if (dV x).v < v.int then -1 else if v.int < (dV x).v then 1 else 0)]
  | _ => none
theorem ok_cells_byVar : FOk ct_cells_byVar gByV := fok_cells_byVar ok_cmp_Compare_int64 fun ds outs hw hg => by
  obtain ⟨d, r, rfl, hd, e, r', rfl, he, rfl⟩ := hw
  obtain ⟨x, rfl, hx, -⟩ := wfV hd
  obtain ⟨v, rfl, hv⟩ := wfI he
  simp only [gByV, dV_eV, int_i, Option.some.injEq] at hg
  subst hg
  simp [tree_cells_byVar, go_need, go_br, go_leaf, go_back, allSay, X.says, X.ev, X.evs, evl, tblS, List.getD_cons_zero, List.getD_cons_succ, List.getElem?_cons_zero, List.getElem?_cons_succ, tt_b, int_i, str_s, rs_r, Option.isSome_some, Option.getD_some, decide_eq_true_eq, decide_eq_false_iff_not, dS_eS, dC_eC, dU_eU, dW_eW, dY_eY, eC_0, eC_1, eU_0, eU_1, eW_0, eW_1, eW_2, eY_0, eY_1, eS_0, eS_1, eS_2, eS_3, eS_4, eS_5, List.length_map, i_inj, b_inj, s_inj, eC_eq, eU_eq, eW_eq, eY_eq, eS_eq, rng64, List.take_succ_cons, List.take_zero, List.nil_append, List.cons_append, decide_true, decide_false, Bool.or_true, true_and, and_true, dT_eT, eT_0, eT_1, eT_2, eT_3, eT_eq, eT_z, gCmp, eV_0]
  rfl
def gKept : List D → Option (List D)
  | [c] => some [eC (keptC (dC c))]
  | _ => none
theorem ok_cells_kept : FOk ct_cells_kept gKept := fok_cells_kept fun ds outs hw hg => by
  obtain ⟨d, r, rfl, hd, rfl⟩ := hw
  obtain ⟨c, rfl, hc⟩ := wfC hd
  simp only [gKept, dC_eC, Option.some.injEq] at hg
  subst hg
  simp only [tree_cells_kept, go_need, go_br, go_leaf, go_back, allSay, X.says, X.ev, X.evs, evl, tblS, List.getD_cons_zero, List.getD_cons_succ, List.getElem?_cons_zero, List.getElem?_cons_succ, tt_b, int_i, str_s, rs_r, Option.isSome_some, Option.getD_some, decide_eq_true_eq, decide_eq_false_iff_not, dS_eS, dC_eC, dU_eU, dW_eW, dY_eY, eC_0, eC_1, eU_0, eU_1, eW_0, eW_1, eW_2, eY_0, eY_1, eS_0, eS_1, eS_2, eS_3, eS_4, eS_5, List.length_map, i_inj, b_inj, s_inj, eC_eq, eU_eq, eW_eq, eY_eq, eS_eq, rng64, List.take_succ_cons, List.take_zero, List.nil_append, List.cons_append, decide_true, decide_false, Bool.or_true, true_and, and_true, dT_eT, eT_0, eT_1, eT_2, eT_3, eT_eq, eT_z, keptC]
  by_cases h : c.t = 5 <;> simp [h]
  rfl
def gBin : List D → Option (List D)
  | [l, v] => if SV (dVs l) then some [.i (loV (dVs l) v.int), .b (ofV (dVs l) v.int).isSome] else none
  | _ => none
theorem rngU {n : Int} (h0 : 0 ≤ n) (h1 : n ≤ 9223372036854775807) : rngB .u64 n = true := by
  simp [rngB]
  omega
theorem cmp_lt (a v : Int) {i1 : Decidable (a < v)} {i2 : Decidable (v < a)} : ((if a < v then (-1 : Int) else if v < a then 1 else 0) < 0) ↔ a < v := by
  split
  · simp_all
  · split <;> simp_all
theorem half (i j : Nat) : ((i : Int) + (j : Int)).fdiv (2 ^ (1 : Int).toNat) = ((i + j) / 2 : Nat) := by
  rw [show (2 : Int) ^ (1 : Int).toNat = 2 from rfl, Int.fdiv_eq_ediv_of_nonneg _ (by omega)]
  omega
theorem sv_mono {l : List Vc} (h : SV l) {i j : Nat} (hij : i ≤ j) (hj : j < l.length) : (l.getD i default).v ≤ (l.getD j default).v := by
  rcases Nat.lt_or_eq_of_le hij with h1 | rfl
  · have h2 : i < l.length := by omega
    have := List.pairwise_iff_getElem.1 h.1 i j h2 hj h1
    simp only [List.getD_eq_getElem?_getD, List.getElem?_eq_getElem h2, List.getElem?_eq_getElem hj, Option.getD_some]
    omega
  · exact Int.le_refl _
theorem ok_slices_BinarySearchFunc_VarCell : FOk ct_slices_BinarySearchFunc_VarCell gBin := fok_slices_BinarySearchFunc_VarCell ok_cells_byVar fun ds outs hw hg => by
  obtain ⟨d, r, rfl, hd, e, r', rfl, he, rfl⟩ := hw
  obtain ⟨l, rfl, hl, hok⟩ := wfVs hd
  obtain ⟨v, rfl, hv⟩ := wfI he
  simp only [gBin, dVs_eVs, int_i, Option.ite_none_right_eq_some, Option.some.injEq] at hg
  obtain ⟨hs, rfl⟩ := hg
  rw [tree_slices_BinarySearchFunc_VarCell, go_loop]
  refine ⟨fun st => ∃ i j : Nat, i ≤ j ∧ j ≤ l.length ∧ st = [.i i, .i j] ∧ (∀ k, k < i → (l.getD k default).v < v) ∧ (∀ k, j ≤ k → k < l.length → v ≤ (l.getD k default).v), fun st => (st.getD 1 .u).int.toNat - (st.getD 0 .u).int.toNat, ⟨0, l.length, Nat.zero_le _, Nat.le_refl _, by simp [X.evs, X.ev, evl, D.rs], fun k hk => absurd hk (Nat.not_lt_zero _), fun k h1 h2 => by omega⟩, ?_⟩
  rintro st - ⟨i, j, hij, hj, rfl, h1, h2⟩
  rw [go_br]
  refine ⟨fun hlt => ?_, fun hlt => ?_⟩
  · simp only [go_need, go_br, go_leaf, go_back, allSay, X.says, X.ev, X.evs, evl, tblS, List.getD_cons_zero, List.getD_cons_succ, List.getElem?_cons_zero, List.getElem?_cons_succ, tt_b, int_i, str_s, rs_r, Option.isSome_some, Option.getD_some, decide_eq_true_eq, decide_eq_false_iff_not, dS_eS, dC_eC, dU_eU, dW_eW, dY_eY, eC_0, eC_1, eU_0, eU_1, eW_0, eW_1, eW_2, eY_0, eY_1, eS_0, eS_1, eS_2, eS_3, eS_4, eS_5, List.length_map, i_inj, b_inj, s_inj, eC_eq, eU_eq, eW_eq, eY_eq, eS_eq, rng64, List.take_succ_cons, List.take_zero, List.nil_append, List.cons_append, decide_true, decide_false, Bool.or_true, true_and, and_true, dT_eT, eT_0, eT_1, eT_2, eT_3, eT_eq, eT_z] at hlt
    have hm : (i + j) / 2 < l.length := by omega
    simp only [go_need, go_br, go_leaf, go_back, allSay, X.says, X.ev, X.evs, evl, tblS, List.getD_cons_zero, List.getD_cons_succ, List.getElem?_cons_zero, List.getElem?_cons_succ, tt_b, int_i, str_s, rs_r, Option.isSome_some, Option.getD_some, decide_eq_true_eq, decide_eq_false_iff_not, dS_eS, dC_eC, dU_eU, dW_eW, dY_eY, eC_0, eC_1, eU_0, eU_1, eW_0, eW_1, eW_2, eY_0, eY_1, eS_0, eS_1, eS_2, eS_3, eS_4, eS_5, List.length_map, i_inj, b_inj, s_inj, eC_eq, eU_eq, eW_eq, eY_eq, eS_eq, rng64, List.take_succ_cons, List.take_zero, List.nil_append, List.cons_append, decide_true, decide_false, Bool.or_true, true_and, and_true, dT_eT, eT_0, eT_1, eT_2, eT_3, eT_eq, eT_z, fnD, half, get_n eV hm, gByV, dV_eV, cmp_lt]
    have hk : i + j ≤ 2 * 5864062014634 := by omega
    refine ⟨⟨⟨by omega, by omega⟩, rngU (by omega) (by omega), rngU (by omega) (by omega), by omega, by omega⟩, ⟨by omega, by omega⟩, fun hb => ⟨⟨by omega, by omega⟩, ?_⟩, fun hb => ?_⟩
    · have hlv : (l.getD ((i + j) / 2) default).v < v := (cmp_lt _ _).1 hb
      rw [updB, if_pos rfl]
      refine ⟨⟨(i + j) / 2 + 1, j, by omega, hj, by simp, fun k hk => ?_, h2⟩, ?_⟩
      · have := sv_mono hs (show k ≤ (i + j) / 2 by omega) hm
        omega
      · simp [D.int]
        omega
    · have hlv : v ≤ (l.getD ((i + j) / 2) default).v := Int.not_lt.1 fun q => hb ((cmp_lt _ _).2 q)
      rw [updB, if_pos rfl]
      refine ⟨⟨i, (i + j) / 2, by omega, by omega, by simp, h1, fun k hk hkl => ?_⟩, ?_⟩
      · have := sv_mono hs (show (i + j) / 2 ≤ k by omega) hkl
        omega
      · simp [D.int]
        omega
  · simp only [go_need, go_br, go_leaf, go_back, allSay, X.says, X.ev, X.evs, evl, tblS, List.getD_cons_zero, List.getD_cons_succ, List.getElem?_cons_zero, List.getElem?_cons_succ, tt_b, int_i, str_s, rs_r, Option.isSome_some, Option.getD_some, decide_eq_true_eq, decide_eq_false_iff_not, dS_eS, dC_eC, dU_eU, dW_eW, dY_eY, eC_0, eC_1, eU_0, eU_1, eW_0, eW_1, eW_2, eY_0, eY_1, eS_0, eS_1, eS_2, eS_3, eS_4, eS_5, List.length_map, i_inj, b_inj, s_inj, eC_eq, eU_eq, eW_eq, eY_eq, eS_eq, rng64, List.take_succ_cons, List.take_zero, List.nil_append, List.cons_append, decide_true, decide_false, Bool.or_true, true_and, and_true, dT_eT, eT_0, eT_1, eT_2, eT_3, eT_eq, eT_z] at hlt
    have hl1 : loV l v = i := loV_uniq (by omega) h1 fun k hk hkl => h2 k (by omega) hkl
    rw [ofV_lo hs, hl1]
    by_cases hil : i < l.length
    · simp only [go_need, go_br, go_leaf, go_back, allSay, X.says, X.ev, X.evs, evl, tblS, List.getD_cons_zero, List.getD_cons_succ, List.getElem?_cons_zero, List.getElem?_cons_succ, tt_b, int_i, str_s, rs_r, Option.isSome_some, Option.getD_some, decide_eq_true_eq, decide_eq_false_iff_not, dS_eS, dC_eC, dU_eU, dW_eW, dY_eY, eC_0, eC_1, eU_0, eU_1, eW_0, eW_1, eW_2, eY_0, eY_1, eS_0, eS_1, eS_2, eS_3, eS_4, eS_5, List.length_map, i_inj, b_inj, s_inj, eC_eq, eU_eq, eW_eq, eY_eq, eS_eq, rng64, List.take_succ_cons, List.take_zero, List.nil_append, List.cons_append, decide_true, decide_false, Bool.or_true, true_and, and_true, dT_eT, eT_0, eT_1, eT_2, eT_3, eT_eq, eT_z, get_n eV hil, gByV, dV_eV]
      have e0 : (i : Int) < l.length := by omega
      have e1 : (0 : Int) ≤ i := by omega
      have hx : v ≤ (l.getD i default).v := h2 i (by omega) hil
      generalize l.getD i default = z at hx
      simp only [e0, e1, decide_true, Bool.not_true, Bool.false_or, Bool.true_and, true_and, hil]
      by_cases hz : z.v = v
      · have h3 : ¬ z.v < v := by omega
        have h4 : ¬ v < z.v := by omega
        simp [hz]
      · have h3 : ¬ z.v < v := by omega
        have h4 : v < z.v := by omega
        simp [hz, h3, h4]
    · have e0 : ¬ (i : Int) < l.length := by omega
      simp [go_need, go_br, go_leaf, go_back, allSay, X.says, X.ev, X.evs, evl, tblS, List.getD_cons_zero, List.getD_cons_succ, List.getElem?_cons_zero, List.getElem?_cons_succ, tt_b, int_i, str_s, rs_r, Option.isSome_some, Option.getD_some, decide_eq_true_eq, decide_eq_false_iff_not, dS_eS, dC_eC, dU_eU, dW_eW, dY_eY, eC_0, eC_1, eU_0, eU_1, eW_0, eW_1, eW_2, eY_0, eY_1, eS_0, eS_1, eS_2, eS_3, eS_4, eS_5, List.length_map, i_inj, b_inj, s_inj, eC_eq, eU_eq, eW_eq, eY_eq, eS_eq, rng64, List.take_succ_cons, List.take_zero, List.nil_append, List.cons_append, decide_true, decide_false, Bool.or_true, true_and, and_true, dT_eT, eT_0, eT_1, eT_2, eT_3, eT_eq, eT_z, e0, hil]

def eM (ms : List Sy) : List D := ms.map fun y => .a [eY y, .b true]
def dM (d : D) : List Sy := d.ms.map fun p => dY (p.fld 0)
theorem dM_eM (ms : List Sy) : dM (.mp (eM ms)) = ms := by
  show (ms.map fun y => D.a [eY y, .b true]).map (fun p => dY (p.fld 0)) = ms
  rw [List.map_map]
  exact List.map_id'' (fun x => rfl) ms
theorem mfind_eM (y : Sy) : ∀ ms : List Sy, mfind (eY y) (eM ms) = if y ∈ ms then some (.b true) else none
  | [] => by simp [eM, mfind]
  | z :: ms => by
    have ih := mfind_eM y ms
    show (if eY z = eY y then some (D.b true) else mfind (eY y) (eM ms)) = _
    by_cases h : z = y
    · subst h
      rw [if_pos rfl]
      simp
    · have h' : ¬ y = z := fun e => h e.symm
      rw [if_neg (fun e => h (eY_inj e)), ih]
      simp [h']
theorem mset_eM {y : Sy} : ∀ {ms : List Sy}, y ∉ ms → mset (eY y) (.b true) (eM ms) = eM (ms ++ [y])
  | [], _ => by simp [eM, mset]
  | z :: ms, h => by
    have h1 : ¬ z = y := fun e => h (by simp [e])
    have h2 : y ∉ ms := fun e => h (by simp [e])
    have ih := mset_eM h2
    show (if eY z = eY y then D.a [eY y, .b true] :: eM ms else D.a [eY z, .b true] :: mset (eY y) (.b true) (eM ms)) = _
    rw [if_neg (fun e => h1 (eY_inj e)), ih]
    rfl
theorem visMs_app (ys : List Sy) : ∀ (l m : List Te) (ms : List Sy), visMs ys ms (l ++ m) = visMs ys (visMs ys ms l) m
  | [], m, ms => rfl
  | t :: l, m, ms => by rw [List.cons_append, visMs, visMs, visMs_app ys l m]
theorem cntTs_app : ∀ (l m : List Te), cntTs (l ++ m) = cntTs l + cntTs m
  | [], m => by simp [cntTs]
  | t :: l, m => by rw [List.cons_append, cntTs, cntTs, cntTs_app l m]; omega
theorem visM_t (ys ms : List Sy) (t : Te) : visM ys ms t = visMs ys (if t.k = 2 ∨ t.k = 3 then symM ys ms ⟨t.s, (t.l.length : Nat)⟩ else ms) t.l := by
  cases t
  rw [visM]
  rfl
theorem cntT_t (t : Te) : cntT t = if t.k = 3 then 1 + t.l.length + cntTs t.l else 0 := by
  cases t
  rw [cntT]
  rfl
theorem node_l {t : Te} (h : nodeT t = true) (h3 : ¬ t.k = 3) : t.l = [] := by
  obtain ⟨k, n, nm, l⟩ := t
  rcases node_cases h with h | h | h | h
  · exact h.2.1
  · exact h.2
  · exact h.2.1
  · exact (h3 h.1).elim
def gRo1 : List D → Option (List D)
  | [t, m, n, s] => if m = .mp (eM (dM m)) ∧ nodesT (dT t) = true ∧ 0 ≤ n.int ∧ n.int + cntT (dT t) ≤ 1099511627776 then some [.mp (eM (visM (dS s).ys (dM m) (dT t))), .i (n.int + cntT (dT t))] else none
  | _ => none
theorem ok_cells_room_1 : FOk ct_cells_room_1 gRo1 := fok_cut (m := mT) enter_cells_room_1 fun N ih => fok_cells_room_1 ih ok_cells_find fun ds outs hw hg => by
  obtain ⟨d, r, rfl, hd, e, r', rfl, he, f, r2, rfl, hf, q, r3, rfl, hq, rfl⟩ := hw
  obtain ⟨t, rfl, ht⟩ := wfT hd
  obtain ⟨n, rfl, hn⟩ := wfI hf
  obtain ⟨s, rfl, hs⟩ := wfS hq
  simp only [cutM, mT, gRo1, List.getD_cons_zero, dT_eT, int_i, dS_eS, Option.ite_none_right_eq_some, Option.some.injEq] at hg
  obtain ⟨hsz, ⟨hm, hnd, h0, h1⟩, rfl⟩ := hg
  obtain ⟨ms, hms⟩ : ∃ ms, e = .mp (eM ms) := ⟨_, hm⟩
  subst hms
  rw [dM_eM]
  have hl := ht.l
  have hnl := (nodes_iff t).1 hnd
  have key : ∀ (x1 x2 : X) (ms0 : List Sy) (n0 : Int), x1.ev (evl (tblS [(ct_cells_room_1, cutM mT N gRo1), (ct_cells_find, gFind1)]) [eT t, .mp (eM ms), .i n, eS s]) = .mp (eM ms0) → x2.ev (evl (tblS [(ct_cells_room_1, cutM mT N gRo1), (ct_cells_find, gFind1)]) [eT t, .mp (eM ms), .i n, eS s]) = .i n0 → 0 ≤ n0 → n0 + cntTs t.l = n + cntT t → visMs s.ys ms0 t.l = visM s.ys ms t → Tree.go (tblS [(ct_cells_room_1, cutM mT N gRo1), (ct_cells_find, gFind1)]) (fun o => o = [.mp (eM (visM s.ys ms t)), .i (n + cntT t)]) (.loop 8 4 [(.lit (.i 0)), x1, x2] (.br (.lt (.tok 4) (.len (.fld (.tok 0) 3))) (.need [(.le (.lit (.i 0)) (.tok 4)), (.lt (.tok 4) (.len (.fld (.tok 0) 3)))] (.need [(.ok 0 [(.get (.fld (.tok 0) 3) (.tok 4)), (.tok 5), (.tok 6), (.tok 3)])] (.need [(.rng .i64 (.add (.tok 4) (.lit (.i 1))))] (.back 8 [(.add (.tok 4) (.lit (.i 1))), (.call 0 0 [(.get (.fld (.tok 0) 3) (.tok 4)), (.tok 5), (.tok 6), (.tok 3)]), (.call 0 1 [(.get (.fld (.tok 0) 3) (.tok 4)), (.tok 5), (.tok 6), (.tok 3)])])))) (.leaf [(.tok 5), (.tok 6)]))) [eT t, .mp (eM ms), .i n, eS s] fun _ _ => False := by
    intro x1 x2 ms0 n0 hx1 hx2 hn0 hc hv
    rw [go_loop]
    refine ⟨fun st => ∃ k : Nat, k ≤ t.l.length ∧ st = [.i k, .mp (eM (visMs s.ys ms0 (t.l.take k))), .i (n0 + cntTs (t.l.take k))], fun st => t.l.length - (st.getD 0 .u).int.toNat, ⟨0, Nat.zero_le _, by simp only [X.evs, hx1, hx2, X.ev]; simp [visMs, cntTs]⟩, ?_⟩
    rintro st - ⟨k, hk, rfl⟩
    rw [go_br]
    refine ⟨fun hlt => ?_, fun hlt => ?_⟩
    · simp only [go_need, go_br, go_leaf, go_back, allSay, X.says, X.ev, X.evs, evl, tblS, List.getD_cons_zero, List.getD_cons_succ, List.getElem?_cons_zero, List.getElem?_cons_succ, tt_b, int_i, str_s, rs_r, Option.isSome_some, Option.getD_some, decide_eq_true_eq, decide_eq_false_iff_not, dS_eS, dC_eC, dU_eU, dW_eW, dY_eY, eC_0, eC_1, eU_0, eU_1, eW_0, eW_1, eW_2, eY_0, eY_1, eS_0, eS_1, eS_2, eS_3, eS_4, eS_5, List.length_map, i_inj, b_inj, s_inj, eC_eq, eU_eq, eW_eq, eY_eq, eS_eq, rng64, List.take_succ_cons, List.take_zero, List.nil_append, List.cons_append, decide_true, decide_false, Bool.or_true, true_and, and_true, dT_eT, eT_0, eT_1, eT_2, eT_3, eT_eq, eT_z] at hlt
      have hkl : k < t.l.length := by omega
      have ha := arg_sz hkl
      have hsn : cntTs (t.l.take (k + 1)) = cntTs (t.l.take k) + cntT (t.l.getD k default) := by
        rw [take_snoc hkl, cntTs_app]
        simp [cntTs]
      have hle : cntTs (t.l.take (k + 1)) ≤ cntTs t.l := by
        have := cntTs_app (t.l.take (k + 1)) (t.l.drop (k + 1))
        rw [List.take_append_drop] at this
        omega
      have hvs : visMs s.ys ms0 (t.l.take (k + 1)) = visM s.ys (visMs s.ys ms0 (t.l.take k)) (t.l.getD k default) := by
        rw [take_snoc hkl, visMs_app]
        rfl
      have hq : (nodesT (t.l.getD k default) = true ∧ 0 ≤ n0 + (cntTs (t.l.take k) : Int) ∧ n0 + (cntTs (t.l.take k) : Int) + cntT (t.l.getD k default) ≤ 1099511627776) := ⟨hnl.2 k hkl, by omega, by omega⟩
      simp only [go_need, go_br, go_leaf, go_back, allSay, X.says, X.ev, X.evs, evl, tblS, List.getD_cons_zero, List.getD_cons_succ, List.getElem?_cons_zero, List.getElem?_cons_succ, tt_b, int_i, str_s, rs_r, Option.isSome_some, Option.getD_some, decide_eq_true_eq, decide_eq_false_iff_not, dS_eS, dC_eC, dU_eU, dW_eW, dY_eY, eC_0, eC_1, eU_0, eU_1, eW_0, eW_1, eW_2, eY_0, eY_1, eS_0, eS_1, eS_2, eS_3, eS_4, eS_5, List.length_map, i_inj, b_inj, s_inj, eC_eq, eU_eq, eW_eq, eY_eq, eS_eq, rng64, List.take_succ_cons, List.take_zero, List.nil_append, List.cons_append, decide_true, decide_false, Bool.or_true, true_and, and_true, dT_eT, eT_0, eT_1, eT_2, eT_3, eT_eq, eT_z, get_t hkl, cutM, mT, gRo1, if_pos hq, if_pos (show szT (t.l.getD k default) < N by omega), dM_eM]
      refine ⟨⟨by omega, by omega⟩, ⟨by omega, by omega⟩, ?_⟩
      rw [updB, if_pos rfl]
      refine ⟨⟨k + 1, by omega, ?_⟩, ?_⟩
      · rw [hvs, hsn]
        simp
        omega
      · simp [D.int]
        omega
    · simp only [go_need, go_br, go_leaf, go_back, allSay, X.says, X.ev, X.evs, evl, tblS, List.getD_cons_zero, List.getD_cons_succ, List.getElem?_cons_zero, List.getElem?_cons_succ, tt_b, int_i, str_s, rs_r, Option.isSome_some, Option.getD_some, decide_eq_true_eq, decide_eq_false_iff_not, dS_eS, dC_eC, dU_eU, dW_eW, dY_eY, eC_0, eC_1, eU_0, eU_1, eW_0, eW_1, eW_2, eY_0, eY_1, eS_0, eS_1, eS_2, eS_3, eS_4, eS_5, List.length_map, i_inj, b_inj, s_inj, eC_eq, eU_eq, eW_eq, eY_eq, eS_eq, rng64, List.take_succ_cons, List.take_zero, List.nil_append, List.cons_append, decide_true, decide_false, Bool.or_true, true_and, and_true, dT_eT, eT_0, eT_1, eT_2, eT_3, eT_eq, eT_z] at hlt ⊢
      have : k = t.l.length := by omega
      subst this
      rw [List.take_length, hv, hc]
  rw [tree_cells_room_1]
  have ey : D.a [.s t.s, .i (t.l.length : Nat)] = eY ⟨t.s, (t.l.length : Nat)⟩ := rfl
  simp only [go_need, go_br, go_leaf, go_back, allSay, X.says, X.ev, X.evs, evl, tblS, List.getD_cons_zero, List.getD_cons_succ, List.getElem?_cons_zero, List.getElem?_cons_succ, tt_b, int_i, str_s, rs_r, Option.isSome_some, Option.getD_some, decide_eq_true_eq, decide_eq_false_iff_not, dS_eS, dC_eC, dU_eU, dW_eW, dY_eY, eC_0, eC_1, eU_0, eU_1, eW_0, eW_1, eW_2, eY_0, eY_1, eS_0, eS_1, eS_2, eS_3, eS_4, eS_5, List.length_map, i_inj, b_inj, s_inj, eC_eq, eU_eq, eW_eq, eY_eq, eS_eq, rng64, List.take_succ_cons, List.take_zero, List.nil_append, List.cons_append, decide_true, decide_false, Bool.or_true, true_and, and_true, dT_eT, eT_0, eT_1, eT_2, eT_3, eT_eq, eT_z, gFind1, fnD, ey, ms_mp, mfind_eM]
  have hc3 : t.k = 3 → cntT t = 1 + t.l.length + cntTs t.l := fun h => by rw [cntT_t, if_pos h]
  have hc0 : ¬ t.k = 3 → cntT t = 0 ∧ cntTs t.l = 0 := fun h => by
    rw [cntT_t, if_neg h, node_l hnl.1 h]
    exact ⟨rfl, rfl⟩
  have hvm := visM_t s.ys ms t
  have hput : ∀ ms0, ms0 = symM s.ys ms ⟨t.s, (t.l.length : Nat)⟩ → (decide (t.k = 2) || decide (t.k = 3)) = true → visMs s.ys ms0 t.l = visM s.ys ms t := fun ms0 e h => by
    rw [hvm, e, if_pos (by simpa using h)]
  have hM : (X.fn 2 [.tok 1, .mk [.fld (.tok 0) 2, .len (.fld (.tok 0) 3)], .lit (.b true)]).ev (evl (tblS [(ct_cells_room_1, cutM mT N gRo1), (ct_cells_find, gFind1)]) [eT t, .mp (eM ms), .i n, eS s]) = .mp (mset (eY ⟨t.s, (t.l.length : Nat)⟩) (.b true) (eM ms)) := by
    simp only [go_need, go_br, go_leaf, go_back, allSay, X.says, X.ev, X.evs, evl, tblS, List.getD_cons_zero, List.getD_cons_succ, List.getElem?_cons_zero, List.getElem?_cons_succ, tt_b, int_i, str_s, rs_r, Option.isSome_some, Option.getD_some, decide_eq_true_eq, decide_eq_false_iff_not, dS_eS, dC_eC, dU_eU, dW_eW, dY_eY, eC_0, eC_1, eU_0, eU_1, eW_0, eW_1, eW_2, eY_0, eY_1, eS_0, eS_1, eS_2, eS_3, eS_4, eS_5, List.length_map, i_inj, b_inj, s_inj, eC_eq, eU_eq, eW_eq, eY_eq, eS_eq, rng64, List.take_succ_cons, List.take_zero, List.nil_append, List.cons_append, decide_true, decide_false, Bool.or_true, true_and, and_true, dT_eT, eT_0, eT_1, eT_2, eT_3, eT_eq, eT_z, fnD, ey, ms_mp]
  have hN : (X.add (.tok 2) (.add (.len (.fld (.tok 0) 3)) (.lit (.i 1)))).ev (evl (tblS [(ct_cells_room_1, cutM mT N gRo1), (ct_cells_find, gFind1)]) [eT t, .mp (eM ms), .i n, eS s]) = .i (n + ((t.l.length : Nat) + 1)) := by
    simp only [go_need, go_br, go_leaf, go_back, allSay, X.says, X.ev, X.evs, evl, tblS, List.getD_cons_zero, List.getD_cons_succ, List.getElem?_cons_zero, List.getElem?_cons_succ, tt_b, int_i, str_s, rs_r, Option.isSome_some, Option.getD_some, decide_eq_true_eq, decide_eq_false_iff_not, dS_eS, dC_eC, dU_eU, dW_eW, dY_eY, eC_0, eC_1, eU_0, eU_1, eW_0, eW_1, eW_2, eY_0, eY_1, eS_0, eS_1, eS_2, eS_3, eS_4, eS_5, List.length_map, i_inj, b_inj, s_inj, eC_eq, eU_eq, eW_eq, eY_eq, eS_eq, rng64, List.take_succ_cons, List.take_zero, List.nil_append, List.cons_append, decide_true, decide_false, Bool.or_true, true_and, and_true, dT_eT, eT_0, eT_1, eT_2, eT_3, eT_eq, eT_z]
  have hno : ((!((if (⟨t.s, (t.l.length : Nat)⟩ : Sy) ∈ ms then some (D.b true) else none).getD (D.b false)).tt && decide (findS s t.s (t.l.length : Nat) < 0)) = true) ↔ ¬ ((⟨t.s, (t.l.length : Nat)⟩ : Sy) ∈ ms ∨ (⟨t.s, (t.l.length : Nat)⟩ : Sy) ∈ s.ys) := by
    rw [← findS_mem (s := s) (nm := t.s) (ar := (t.l.length : Nat))]
    by_cases hm : (⟨t.s, (t.l.length : Nat)⟩ : Sy) ∈ ms
    · simp [hm, D.tt]
    · simp [hm, D.tt]
  refine ⟨fun h23 => ⟨fun hc => ?_, fun hc => ?_⟩, fun h23 => ?_⟩
  · have hc' := hno.1 hc
    have e1 : symM s.ys ms ⟨t.s, (t.l.length : Nat)⟩ = ms ++ [⟨t.s, (t.l.length : Nat)⟩] := by rw [symM, if_neg hc']
    rw [mset_eM fun q => hc' (.inl q), ← e1] at hM
    exact ⟨fun h3 => ⟨⟨⟨by omega, by omega⟩, by omega, by have := hc3 h3; omega⟩, key _ _ _ _ hM hN (by omega) (by have := hc3 h3; omega) (hput _ rfl h23)⟩, fun h3 => key _ _ _ _ hM rfl h0 (by have := hc0 h3; omega) (hput _ rfl h23)⟩
  · have hc' : (⟨t.s, (t.l.length : Nat)⟩ : Sy) ∈ ms ∨ (⟨t.s, (t.l.length : Nat)⟩ : Sy) ∈ s.ys := Classical.byContradiction fun q => by
      rw [hno.2 q] at hc
      cases hc
    have e1 : ms = symM s.ys ms ⟨t.s, (t.l.length : Nat)⟩ := by rw [symM, if_pos hc']
    exact ⟨fun h3 => ⟨⟨⟨by omega, by omega⟩, by omega, by have := hc3 h3; omega⟩, key _ _ _ _ rfl hN (by omega) (by have := hc3 h3; omega) (hput _ e1 h23)⟩, fun h3 => key _ _ _ _ rfl rfl h0 (by have := hc0 h3; omega) (hput _ e1 h23)⟩
  · have h3 : ¬ t.k = 3 := fun q => by simp [q] at h23
    have h4 : ¬ (t.k = 2 ∨ t.k = 3) := fun q => by
      rcases q with q | q <;> simp [q] at h23
    rw [if_neg h4] at hvm
    exact ⟨fun q => (h3 q).elim, fun _ => key _ _ _ _ rfl rfl h0 (by have := hc0 h3; omega) hvm.symm⟩
end Go.Proofs.Ytinclokohcommaa


namespace Go.Proofs.Ytinclokohcommaa
open Go.RowKit
set_option linter.unusedVariables false
set_option linter.unusedSimpArgs false

theorem ok_slices_Clone_VarCell : FOk ct_slices_Clone_VarCell (gCl 5864062014634) := fok_slices_Clone_VarCell fun ds outs hw hg => by
  obtain ⟨d, r, rfl, hd, rfl⟩ := hw
  obtain ⟨l, te, rfl, -⟩ := hd.row
  simp only [gCl, rowQ_r, Option.ite_none_right_eq_some, Option.some.injEq] at hg
  obtain ⟨h1, rfl⟩ := hg
  exact clT_ok h1 rfl

def vAt (s : So) (l : List Vc) (k : Nat) : Bool := decide (0 ≤ (l.getD k default).v) && (decide ((l.getD k default).v ≤ 1099511627776) && (decide (k = 0 ∨ (l.getD (k - 1) default).v < (l.getD k default).v) && vcP s (l.getD k default).c))
def vvP (s : So) (l : List Vc) : Bool := (List.range l.length).all (vAt s l)
theorem getD_el {l : List Vc} {i : Nat} (h : i < l.length) : l.getD i default = l[i] := by
  rw [List.getD_eq_getElem?_getD, List.getElem?_eq_getElem h]
  rfl
theorem vvP_iff {s : So} {l : List Vc} : vvP s l = true ↔ SV l ∧ ∀ x ∈ l, vcP s x.c = true := by
  unfold vvP
  rw [List.all_eq_true]
  constructor
  · intro h
    have h' : ∀ k, k < l.length → vAt s l k = true := fun k hk => h k (List.mem_range.2 hk)
    have step : ∀ j i, i < j → j < l.length → (l.getD i default).v < (l.getD j default).v := by
      intro j
      induction j with
      | zero => intro i hi; omega
      | succ j ih =>
        intro i hi hj
        have h1 := h' (j + 1) hj
        simp only [vAt, Bool.and_eq_true, decide_eq_true_eq] at h1
        have h2 : (l.getD j default).v < (l.getD (j + 1) default).v := by
          rcases h1.2.2.1 with h | h
          · omega
          · exact h
        rcases Nat.lt_or_eq_of_le (Nat.le_of_lt_succ hi) with h3 | rfl
        · have := ih i h3 (by omega)
          omega
        · exact h2
    refine ⟨⟨List.pairwise_iff_getElem.2 fun i j hi hj hij => ?_, fun x hx => ?_⟩, fun x hx => ?_⟩
    · have := step j i hij hj
      rw [getD_el hi, getD_el hj] at this
      exact this
    · obtain ⟨i, hi, rfl⟩ := List.mem_iff_getElem.1 hx
      have h1 := h' i hi
      simp only [vAt, Bool.and_eq_true, decide_eq_true_eq, getD_el hi] at h1
      exact ⟨h1.1, h1.2.1⟩
    · obtain ⟨i, hi, rfl⟩ := List.mem_iff_getElem.1 hx
      have h1 := h' i hi
      simp only [vAt, Bool.and_eq_true, decide_eq_true_eq, getD_el hi] at h1
      exact h1.2.2.2
  · rintro ⟨hs, hc⟩ k hk
    have hk := List.mem_range.1 hk
    have hm := getD_mem hk
    simp only [vAt, Bool.and_eq_true, decide_eq_true_eq]
    refine ⟨(hs.2 _ hm).1, (hs.2 _ hm).2, ?_, hc _ hm⟩
    rcases Nat.eq_zero_or_pos k with h | h
    · exact .inl h
    · right
      have h1 : k - 1 < l.length := by omega
      rw [getD_el h1, getD_el hk]
      exact List.pairwise_iff_getElem.1 hs.1 (k - 1) k h1 hk (by omega)
def gVV (f : So → List Vc → Bool) : List D → Option (List D)
  | [s, l] => some [.b (f (dS s) (dVs l))]
  | _ => none
theorem ok_cells_validVars : FOk ct_cells_validVars (gVV vvP) := fok_cells_validVars ok_cells_ValidCell fun ds outs hw hg => by
  obtain ⟨d, r, rfl, hd, e, r', rfl, he, rfl⟩ := hw
  obtain ⟨s, rfl, hs⟩ := wfS hd
  obtain ⟨l, rfl, hl, hok⟩ := wfVs he
  simp only [gVV, dS_eS, dVs_eVs, Option.some.injEq] at hg
  subst hg
  rw [tree_cells_validVars, go_loop]
  refine ⟨fun st => ∃ k : Nat, k ≤ l.length ∧ st = [.b false, .i k] ∧ ∀ j, j < k → vAt s l j = true, fun st => l.length - (st.getD 1 .u).int.toNat, ⟨0, Nat.zero_le _, rfl, fun j hj => absurd hj (Nat.not_lt_zero _)⟩, ?_⟩
  rintro st - ⟨k, hk, rfl, hP⟩
  rw [go_br]
  refine ⟨fun hlt => ?_, fun hlt => ?_⟩
  · simp only [go_need, go_br, go_leaf, go_back, allSay, X.says, X.ev, X.evs, evl, tblS, List.getD_cons_zero, List.getD_cons_succ, List.getElem?_cons_zero, List.getElem?_cons_succ, tt_b, int_i, str_s, rs_r, Option.isSome_some, Option.getD_some, decide_eq_true_eq, decide_eq_false_iff_not, dS_eS, dC_eC, dU_eU, dW_eW, dY_eY, eC_0, eC_1, eU_0, eU_1, eW_0, eW_1, eW_2, eY_0, eY_1, eS_0, eS_1, eS_2, eS_3, eS_4, eS_5, List.length_map, i_inj, b_inj, s_inj, eC_eq, eU_eq, eW_eq, eY_eq, eS_eq, rng64, List.take_succ_cons, List.take_zero, List.nil_append, List.cons_append, decide_true, decide_false, Bool.or_true, true_and, and_true, dT_eT, eT_0, eT_1, eT_2, eT_3, eT_eq, eT_z] at hlt
    have hkl : k < l.length := by omega
    have hvb := (hok _ (getD_mem hkl)).1
    by_cases h0 : k = 0
    · subst h0
      have e1 : decide ((0 : Int) < ((0 : Nat) : Int)) = false := by decide
      simp only [go_need, go_br, go_leaf, go_back, allSay, X.says, X.ev, X.evs, evl, tblS, List.getD_cons_zero, List.getD_cons_succ, List.getElem?_cons_zero, List.getElem?_cons_succ, tt_b, int_i, str_s, rs_r, Option.isSome_some, Option.getD_some, decide_eq_true_eq, decide_eq_false_iff_not, dS_eS, dC_eC, dU_eU, dW_eW, dY_eY, eC_0, eC_1, eU_0, eU_1, eW_0, eW_1, eW_2, eY_0, eY_1, eS_0, eS_1, eS_2, eS_3, eS_4, eS_5, List.length_map, i_inj, b_inj, s_inj, eC_eq, eU_eq, eW_eq, eY_eq, eS_eq, rng64, List.take_succ_cons, List.take_zero, List.nil_append, List.cons_append, decide_true, decide_false, Bool.or_true, true_and, and_true, dT_eT, eT_0, eT_1, eT_2, eT_3, eT_eq, eT_z, get_n eV hkl, eV_0, eV_1, gSCb, e1, Bool.and_false, Bool.false_and, Bool.not_false, Bool.true_or, Bool.or_false, true_and, and_self]
      refine ⟨⟨by omega, by omega⟩, fun hb => ?_, fun hb => ⟨⟨by omega, by omega⟩, ?_⟩⟩
      · have hv : vAt s l 0 = false := by
          simp only [vAt, true_or, decide_true, Bool.true_and]
          generalize l.getD 0 default = z at hb ⊢
          cases hvc : vcP s z.c
          · simp
          · simp [hvc] at hb ⊢
            omega
        rw [vvP, all_not hkl hv]
      · have hv : vAt s l 0 = true := by
          simp only [vAt, true_or, decide_true, Bool.true_and]
          generalize l.getD 0 default = z at hb ⊢
          cases hvc : vcP s z.c
          · simp [hvc] at hb
          · simp [hvc] at hb ⊢
            omega
        rw [updB, if_pos rfl]
        exact ⟨⟨1, by omega, by simp, upto_succ hP hv⟩, by simp [D.int]; omega⟩
    · have hk1 : ((k : Int) - 1) = ((k - 1 : Nat) : Int) := by omega
      have hkp : k - 1 < l.length := by omega
      have hp : (0 : Int) < k := by omega
      have hr1 : rngB .i64 ((k - 1 : Nat) : Int) = true := by simp [rngB]; omega
      have hr2 : (0 : Int) ≤ ((k - 1 : Nat) : Int) := by omega
      have hr3 : ((k - 1 : Nat) : Int) < l.length := by omega
      simp only [go_need, go_br, go_leaf, go_back, allSay, X.says, X.ev, X.evs, evl, tblS, List.getD_cons_zero, List.getD_cons_succ, List.getElem?_cons_zero, List.getElem?_cons_succ, tt_b, int_i, str_s, rs_r, Option.isSome_some, Option.getD_some, decide_eq_true_eq, decide_eq_false_iff_not, dS_eS, dC_eC, dU_eU, dW_eW, dY_eY, eC_0, eC_1, eU_0, eU_1, eW_0, eW_1, eW_2, eY_0, eY_1, eS_0, eS_1, eS_2, eS_3, eS_4, eS_5, List.length_map, i_inj, b_inj, s_inj, eC_eq, eU_eq, eW_eq, eY_eq, eS_eq, rng64, List.take_succ_cons, List.take_zero, List.nil_append, List.cons_append, decide_true, decide_false, Bool.or_true, true_and, and_true, dT_eT, eT_0, eT_1, eT_2, eT_3, eT_eq, eT_z, hk1, hp, hr1, hr2, hr3, get_n eV hkl, get_n eV hkp, eV_0, eV_1, gSCb, Bool.and_true, Bool.true_and]
      refine ⟨⟨by omega, by omega⟩, fun hb => ?_, fun hb => ⟨⟨by omega, by omega⟩, ?_⟩⟩
      · have hv : vAt s l k = false := by
          simp only [vAt, h0, false_or]
          generalize l.getD k default = z at hb ⊢
          cases hvc : vcP s z.c
          · simp
          · simp [hvc] at hb ⊢
            omega
        rw [vvP, all_not hkl hv]
      · have hv : vAt s l k = true := by
          simp only [vAt, h0, false_or]
          generalize l.getD k default = z at hb ⊢
          cases hvc : vcP s z.c
          · simp [hvc] at hb
          · simp [hvc] at hb ⊢
            omega
        rw [updB, if_pos rfl]
        exact ⟨⟨k + 1, by omega, by simp, upto_succ hP hv⟩, by simp [D.int]; omega⟩
  · simp only [go_need, go_br, go_leaf, go_back, allSay, X.says, X.ev, X.evs, evl, tblS, List.getD_cons_zero, List.getD_cons_succ, List.getElem?_cons_zero, List.getElem?_cons_succ, tt_b, int_i, str_s, rs_r, Option.isSome_some, Option.getD_some, decide_eq_true_eq, decide_eq_false_iff_not, dS_eS, dC_eC, dU_eU, dW_eW, dY_eY, eC_0, eC_1, eU_0, eU_1, eW_0, eW_1, eW_2, eY_0, eY_1, eS_0, eS_1, eS_2, eS_3, eS_4, eS_5, List.length_map, i_inj, b_inj, s_inj, eC_eq, eU_eq, eW_eq, eY_eq, eS_eq, rng64, List.take_succ_cons, List.take_zero, List.nil_append, List.cons_append, decide_true, decide_false, Bool.or_true, true_and, and_true, dT_eT, eT_0, eT_1, eT_2, eT_3, eT_eq, eT_z] at hlt ⊢
    have : k = l.length := by omega
    subst this
    simp only [vvP, all_yes hP]

def roomB (s : So) (t : Te) (l : List Vc) : Bool := decide ((nedT t l : Int) ≤ s.mx - s.cs.length) && decide (((visM s.ys [] t).length : Int) ≤ 1048576 - s.ys.length)
def gRoom : List D → Option (List D)
  | [s, t, l] => if nodesT (dT t) = true ∧ szT (dT t) ≤ 2000 ∧ SV (dVs l) ∧ 0 ≤ (dS s).mx ∧ (dS s).cs.length ≤ 1048576 ∧ (dS s).ys.length ≤ 1048576 then some [.b (roomB (dS s) (dT t) (dVs l))] else none
  | _ => none
theorem ok_cells_room : FOk ct_cells_room gRoom := fok_cells_room ok_cells_room_1 ok_slices_BinarySearchFunc_VarCell fun ds outs hw hg => by
  obtain ⟨d, r, rfl, hd, e, r', rfl, he, f, r2, rfl, hf, rfl⟩ := hw
  obtain ⟨s, rfl, hs⟩ := wfS hd
  obtain ⟨t, rfl, ht⟩ := wfT he
  obtain ⟨l, rfl, hl, hok⟩ := wfVs hf
  simp only [gRoom, dS_eS, dT_eT, dVs_eVs, Option.ite_none_right_eq_some, Option.some.injEq] at hg
  obtain ⟨⟨hnd, hsz, hsv, hmx, hcl, hyl⟩, rfl⟩ := hg
  have hc := cntT_sz t
  have hv := visM_len t s.ys []
  have hc0 : nodesT t = true ∧ (0 : Int) ≤ 0 ∧ 0 + (cntT t : Int) ≤ 1099511627776 := ⟨hnd, by omega, by omega⟩
  have hc1 : nodesT t = true ∧ (0 : Int) ≤ 1 ∧ 1 + (cntT t : Int) ≤ 1099511627776 := ⟨hnd, by omega, by omega⟩
  have hme : (D.mp [] = D.mp (eM [])) = True := eq_true rfl
  have hmd : dM (D.mp []) = [] := rfl
  simp only [tree_cells_room, go_need, go_br, go_leaf, go_back, allSay, X.says, X.ev, X.evs, evl, tblS, List.getD_cons_zero, List.getD_cons_succ, List.getElem?_cons_zero, List.getElem?_cons_succ, tt_b, int_i, str_s, rs_r, Option.isSome_some, Option.getD_some, decide_eq_true_eq, decide_eq_false_iff_not, dS_eS, dC_eC, dU_eU, dW_eW, dY_eY, eC_0, eC_1, eU_0, eU_1, eW_0, eW_1, eW_2, eY_0, eY_1, eS_0, eS_1, eS_2, eS_3, eS_4, eS_5, List.length_map, i_inj, b_inj, s_inj, eC_eq, eU_eq, eW_eq, eY_eq, eS_eq, rng64, List.take_succ_cons, List.take_zero, List.nil_append, List.cons_append, decide_true, decide_false, Bool.or_true, true_and, and_true, dT_eT, eT_0, eT_1, eT_2, eT_3, eT_eq, eT_z, gRo1, gBin, dVs_eVs, if_pos hsv, fnD, ms_mp, hmd, hme, if_pos hc0, if_pos hc1, roomB]
  have hlen : (eM (visM s.ys [] t)).length = (visM s.ys [] t).length := List.length_map _
  have hr1 : rngB .i64 ((visM s.ys [] t).length : Int) = true := by simp [rngB] at hv ⊢; omega
  have hr2 : rngB .i64 (1048576 - (s.ys.length : Int)) = true := by simp [rngB]; omega
  have hx := hs.mx
  simp only [hlen, hr1, hr2, Bool.or_true, true_and]
  refine ⟨fun h0 => ⟨fun hn => ⟨⟨by omega, by omega⟩, ⟨by omega, by omega⟩, ?_⟩, fun hn => ⟨⟨by omega, by omega⟩, ?_⟩⟩, fun h0 => ⟨⟨by omega, by omega⟩, ?_⟩⟩
  · have e : ofV l t.n = none := by simpa using hn
    rw [nedT, if_pos ⟨h0, e⟩, Nat.add_comm]
    rfl
  · have e : ¬ ofV l t.n = none := fun q => by rw [q] at hn; cases hn
    rw [nedT, if_neg fun q => e q.2]
    simp
  · rw [nedT, if_neg fun q => h0 q.1]
    simp

def addQ (s : So) (all : List Vc) (t : Te) (a : Int) : Bool := nodesT t && (decide (SV all) && (decide ((s.cs.length : Int) + ((if a < 0 then nedT t all else cntT t : Nat) : Int) ≤ s.mx) && (decide (s.mx ≤ 1048576) && (decide ((symsT s.ys t).length ≤ 1048576) && decide (a ≤ 1048576)))))
def gAdd : List D → Option (List D)
  | [t, a, all, s] => if addQ (dS s) (dVs all) (dT t) a.int then some [eC (addD (dS s, dVs all) (dT t) a.int).1, .r ((addD (dS s, dVs all) (dT t) a.int).2.2.map eV), eS (addD (dS s, dVs all) (dT t) a.int).2.1] else none
  | _ => none
theorem sym_N {s : So} {nm : ByteArray} {ar : Int} (h : symBad nm ar = false) (hl : (symX s.ys ⟨nm, ar⟩).length ≤ 1048576) : gSym [eS s, .s nm, .i ar] = some [.i (symN s nm ar).1, .i 0, eS (symN s nm ar).2] := by
  simp only [gSym, dS_eS, str_s, int_i, h, symN]
  by_cases h0 : 0 ≤ findS s nm ar
  · simp [h0]
  · have h1 : ¬ (⟨nm, ar⟩ : Sy) ∈ s.ys := fun q => h0 (findS_mem.2 q)
    rw [symX, if_neg h1] at hl
    have h2 : ¬ 1048576 ≤ s.ys.length := by simp at hl; omega
    simp [h0, h2]
theorem set_cs (s : So) (i : Nat) (c : Ce) : D.a ((eS s).fs.set 0 (.r ((s.cs.map eC).set i (eC c)))) = eS (setC s i c) := by
  rw [← List.map_set]
  rfl
theorem cs_apps (s : So) (l : List Ce) : D.a ((eS s).fs.set 0 (.r (s.cs.map eC ++ l.map eC))) = eS { s with cs := s.cs ++ l } := by
  rw [← List.map_append]
  rfl
theorem ok_cells_Put_1 : FOk ct_cells_Put_1 gAdd := fok_cut (m := mT) enter_cells_Put_1 fun N ih => fok_cells_Put_1 ih ok_cells_Symbol ok_slices_BinarySearchFunc_VarCell ok_cells_kept ok_cells_Fresh ok_slices_Insert_VarCell fun ds outs hw hg => by
  obtain ⟨d, r, rfl, hd, e, r', rfl, he, f, r2, rfl, hf, q, r3, rfl, hq, rfl⟩ := hw
  obtain ⟨t, rfl, ht⟩ := wfT hd
  obtain ⟨a, rfl, ha⟩ := wfI he
  obtain ⟨all, rfl, hal, hok⟩ := wfVs hf
  obtain ⟨s, rfl, hs⟩ := wfS hq
  simp only [cutM, mT, gAdd, List.getD_cons_zero, dT_eT, int_i, dS_eS, dVs_eVs, Option.ite_none_right_eq_some, Option.some.injEq] at hg
  obtain ⟨hsz, hA, rfl⟩ := hg
  simp only [addQ, Bool.and_eq_true, decide_eq_true_eq] at hA
  obtain ⟨hnd, hsv, hcs, hmx, hys, hamx⟩ := hA
  have hnl := (nodes_iff t).1 hnd
  obtain ⟨k, n, nm, l⟩ := t
  have hlo := loV_le n all
  have hlen := SV.len hsv
  rcases node_cases hnl.1 with ⟨rfl, rfl, h1, h2⟩ | ⟨rfl, rfl⟩ | ⟨rfl, rfl, h1⟩ | ⟨rfl, h1, h2, h3⟩
  · have hins : ∀ c : Ce, gIns [.r (all.map eV), .i (loV all n), .r [eV ⟨n, c⟩]] = some [.r ((insV all n c).map eV)] := fun c => by
      simp only [gIns, rs_r, int_i, List.length_map, List.length_singleton, Int.toNat_natCast]
      rw [if_pos ⟨trivial, by omega, by omega, by omega⟩, insV_eq]
      simp [List.map_take, List.map_drop]
    have hof := ofV_lo (v := n) hsv
    rw [addD_0]
    simp only [tree_cells_Put_1, go_need, go_br, go_leaf, go_back, allSay, X.says, X.ev, X.evs, evl, tblS, List.getD_cons_zero, List.getD_cons_succ, List.getElem?_cons_zero, List.getElem?_cons_succ, tt_b, int_i, str_s, rs_r, Option.isSome_some, Option.getD_some, decide_eq_true_eq, decide_eq_false_iff_not, dS_eS, dC_eC, dU_eU, dW_eW, dY_eY, eC_0, eC_1, eU_0, eU_1, eW_0, eW_1, eW_2, eY_0, eY_1, eS_0, eS_1, eS_2, eS_3, eS_4, eS_5, List.length_map, i_inj, b_inj, s_inj, eC_eq, eU_eq, eW_eq, eY_eq, eS_eq, rng64, List.take_succ_cons, List.take_zero, List.nil_append, List.cons_append, decide_true, decide_false, Bool.or_true, true_and, and_true, dT_eT, eT_0, eT_1, eT_2, eT_3, eT_eq, eT_z, Te.k, Te.n, Te.s, Te.l, gKept, eC_mk, eV_mk, gBin, dVs_eVs, if_pos hsv, hins]
    refine ⟨fun h => absurd h (by decide), fun _ => ⟨fun h => absurd h (by decide), fun _ => ⟨fun _ => ⟨fun ho => ?_, fun ho => ⟨fun ha0 => ?_, fun ha0 => ?_⟩⟩, fun h => (by cases h)⟩⟩⟩
    · split at hof
      · rename_i hq
        simp only [get_n eV hq.1, eV_1, hof, dC_eC]
        exact ⟨⟨by omega, by omega⟩, trivial⟩
      · rw [hof] at ho
        cases ho
    · have e : ofV all n = none := by simpa using ho
      have hn : nedT (.mk 0 n nm []) all = 1 := by
        rw [nedT, cnt_no (by decide), if_pos ⟨rfl, e⟩]
      rw [if_pos ha0, hn] at hcs
      have h4 : ¬ s.mx ≤ s.cs.length := by omega
      have h5 : s.cs.length < 8796093021952 := by omega
      simp only [gFresh, dS_eS, h4, h5, decide_false, decide_true, Bool.false_eq_true, if_false, if_true, Option.getD_some, Option.isSome_some, List.getD_cons_zero, List.getD_cons_succ, eV_mk, hins, e, ha0, true_and]
      done
    · have e : ofV all n = none := by simpa using ho
      simp only [e, if_neg ha0]
      done
  · rw [addD_1]
    simp [tree_cells_Put_1, go_need, go_br, go_leaf, go_back, allSay, X.says, X.ev, X.evs, evl, tblS, List.getD_cons_zero, List.getD_cons_succ, List.getElem?_cons_zero, List.getElem?_cons_succ, tt_b, int_i, str_s, rs_r, Option.isSome_some, Option.getD_some, decide_eq_true_eq, decide_eq_false_iff_not, dS_eS, dC_eC, dU_eU, dW_eW, dY_eY, eC_0, eC_1, eU_0, eU_1, eW_0, eW_1, eW_2, eY_0, eY_1, eS_0, eS_1, eS_2, eS_3, eS_4, eS_5, List.length_map, i_inj, b_inj, s_inj, eC_eq, eU_eq, eW_eq, eY_eq, eS_eq, rng64, List.take_succ_cons, List.take_zero, List.nil_append, List.cons_append, decide_true, decide_false, Bool.or_true, true_and, and_true, dT_eT, eT_0, eT_1, eT_2, eT_3, eT_eq, eT_z, Te.k, Te.n, Te.s, Te.l, eC_mk]
    done
  · rw [syms_2] at hys
    have hb : symBad nm 0 = false := by simp [symBad]; omega
    rw [addD_2]
    simp [tree_cells_Put_1, go_need, go_br, go_leaf, go_back, allSay, X.says, X.ev, X.evs, evl, tblS, List.getD_cons_zero, List.getD_cons_succ, List.getElem?_cons_zero, List.getElem?_cons_succ, tt_b, int_i, str_s, rs_r, Option.isSome_some, Option.getD_some, decide_eq_true_eq, decide_eq_false_iff_not, dS_eS, dC_eC, dU_eU, dW_eW, dY_eY, eC_0, eC_1, eU_0, eU_1, eW_0, eW_1, eW_2, eY_0, eY_1, eS_0, eS_1, eS_2, eS_3, eS_4, eS_5, List.length_map, i_inj, b_inj, s_inj, eC_eq, eU_eq, eW_eq, eY_eq, eS_eq, rng64, List.take_succ_cons, List.take_zero, List.nil_append, List.cons_append, decide_true, decide_false, Bool.or_true, true_and, and_true, dT_eT, eT_0, eT_1, eT_2, eT_3, eT_eq, eT_z, Te.k, Te.n, Te.s, Te.l, eC_mk, sym_N hb hys]
    done
  · rw [syms_3] at hys
    have hb : symBad nm (l.length : Nat) = false := by simp [symBad]; omega
    have hys0 : (symX s.ys ⟨nm, (l.length : Nat)⟩).length ≤ 1048576 := Nat.le_trans (symsTs_len l _) hys
    have hl8 : (l.length : Int) ≤ 16777216 := by omega
    obtain ⟨y1, y2, y3, y4, y5, y6⟩ := symN_cs s nm (l.length : Nat)
    have hcn : (s.cs.length : Int) + ((1 + l.length + cntTs l : Nat) : Int) ≤ s.mx := by
      rw [ned_no (by decide), cnt_3] at hcs
      split at hcs <;> exact hcs
    rw [addD_3, ← y1]
    rw [← y1] at hcn
    rw [← y3] at hys
    have hS := sym_N (s := s) hb hys0
    generalize symN s nm (l.length : Nat) = S at hS hys hcn y2 ⊢
    have hz : List.replicate l.length (eC ⟨0, 0⟩) = (List.replicate l.length (⟨0, 0⟩ : Ce)).map eC := by rw [List.map_replicate]
    simp only [tree_cells_Put_1, go_need, go_br, go_leaf, go_back, allSay, X.says, X.ev, X.evs, evl, tblS, List.getD_cons_zero, List.getD_cons_succ, List.getElem?_cons_zero, List.getElem?_cons_succ, tt_b, int_i, str_s, rs_r, Option.isSome_some, Option.getD_some, decide_eq_true_eq, decide_eq_false_iff_not, dS_eS, dC_eC, dU_eU, dW_eW, dY_eY, eC_0, eC_1, eU_0, eU_1, eW_0, eW_1, eW_2, eY_0, eY_1, eS_0, eS_1, eS_2, eS_3, eS_4, eS_5, List.length_map, i_inj, b_inj, s_inj, eC_eq, eU_eq, eW_eq, eY_eq, eS_eq, rng64, List.take_succ_cons, List.take_zero, List.nil_append, List.cons_append, decide_true, decide_false, Bool.or_true, true_and, and_true, dT_eT, eT_0, eT_1, eT_2, eT_3, eT_eq, eT_z, Te.k, Te.n, Te.s, Te.l, eC_mk, hS, cs_app, Int.toNat_natCast]
    refine ⟨fun h => absurd h (by decide), fun _ => ⟨fun h => absurd h (by decide), fun _ => ⟨fun h => absurd h (by decide), fun _ => ⟨by omega, ⟨by omega, by omega, by simp; omega⟩, ?_⟩⟩⟩⟩
    rw [go_loop]
    refine ⟨fun st => ∃ (k : Nat) (al : List Vc) (s' : So), k ≤ l.length ∧ st = [.i k, .r (al.map eV), eS s'] ∧ SV al ∧ s'.mx = s.mx ∧ (s'.cs.length : Int) + (cntTs (l.drop k) : Int) ≤ s.mx ∧ S.2.cs.length + 1 + l.length ≤ s'.cs.length ∧ (symsTs s'.ys (l.drop k)).length ≤ 1048576 ∧ addAs (s', al) (l.drop k) (S.2.cs.length + 1 + k) = addAs ({ S.2 with cs := S.2.cs ++ (⟨4, S.1⟩ :: List.replicate l.length ⟨0, 0⟩) }, all) l (S.2.cs.length + 1), fun st => l.length - (st.getD 0 .u).int.toNat, ⟨0, all, { S.2 with cs := S.2.cs ++ (⟨4, S.1⟩ :: List.replicate l.length ⟨0, 0⟩) }, Nat.zero_le _, ?_, hsv, y2, by simp; omega, by simp; omega, hys, rfl⟩, ?_⟩
    · simp only [X.evs, go_need, go_br, go_leaf, go_back, allSay, X.says, X.ev, X.evs, evl, tblS, List.getD_cons_zero, List.getD_cons_succ, List.getElem?_cons_zero, List.getElem?_cons_succ, tt_b, int_i, str_s, rs_r, Option.isSome_some, Option.getD_some, decide_eq_true_eq, decide_eq_false_iff_not, dS_eS, dC_eC, dU_eU, dW_eW, dY_eY, eC_0, eC_1, eU_0, eU_1, eW_0, eW_1, eW_2, eY_0, eY_1, eS_0, eS_1, eS_2, eS_3, eS_4, eS_5, List.length_map, i_inj, b_inj, s_inj, eC_eq, eU_eq, eW_eq, eY_eq, eS_eq, rng64, List.take_succ_cons, List.take_zero, List.nil_append, List.cons_append, decide_true, decide_false, Bool.or_true, true_and, and_true, dT_eT, eT_0, eT_1, eT_2, eT_3, eT_eq, eT_z, Te.k, Te.n, Te.s, Te.l, eC_mk, hS, cs_app, Int.toNat_natCast, hz, cs_apps]
      simp [eS, D.fs]
    rintro st - ⟨k, al, s', hk, rfl, hsv', hmx', hc', hb', hy', hP⟩
    rw [go_br]
    refine ⟨fun hlt => ?_, fun hlt => ?_⟩
    · simp only [go_need, go_br, go_leaf, go_back, allSay, X.says, X.ev, X.evs, evl, tblS, List.getD_cons_zero, List.getD_cons_succ, List.getElem?_cons_zero, List.getElem?_cons_succ, tt_b, int_i, str_s, rs_r, Option.isSome_some, Option.getD_some, decide_eq_true_eq, decide_eq_false_iff_not, dS_eS, dC_eC, dU_eU, dW_eW, dY_eY, eC_0, eC_1, eU_0, eU_1, eW_0, eW_1, eW_2, eY_0, eY_1, eS_0, eS_1, eS_2, eS_3, eS_4, eS_5, List.length_map, i_inj, b_inj, s_inj, eC_eq, eU_eq, eW_eq, eY_eq, eS_eq, rng64, List.take_succ_cons, List.take_zero, List.nil_append, List.cons_append, decide_true, decide_false, Bool.or_true, true_and, and_true, dT_eT, eT_0, eT_1, eT_2, eT_3, eT_eq, eT_z, Te.l] at hlt
      have hkl : k < l.length := by omega
      have ha := arg_sz (t := .mk 3 n nm l) hkl
      simp only [Te.l] at ha
      have hto : ((S.2.cs.length : Int) + 1 + (k : Int)) = ((S.2.cs.length + 1 + k : Nat) : Int) := by omega
      have hdr := drop_get' hkl
      rw [hdr, cntTs] at hc'
      rw [hdr, symsTs] at hy'
      rw [hdr, addAs] at hP
      have hsy := Nat.le_trans (symsTs_len (l.drop (k + 1)) (symsT s'.ys (l.getD k default))) hy'
      have hnk := hnl.2 k hkl
      simp only [Te.l] at hnk
      have hQ : addQ s' al (l.getD k default) ((S.2.cs.length + 1 + k : Nat) : Int) = true := by
        have h0 : ¬ (((S.2.cs.length + 1 + k : Nat) : Int) < 0) := by omega
        simp only [addQ, if_neg h0, Bool.and_eq_true, decide_eq_true_eq]
        exact ⟨hnk, hsv', by omega, by omega, hsy, by omega⟩
      obtain ⟨g1, g2, g3, g4⟩ := addD_len (l.getD k default) (s', al) ((S.2.cs.length + 1 + k : Nat) : Int) hnk hsv'
      rw [if_neg (by omega)] at g1
      simp only [go_need, go_br, go_leaf, go_back, allSay, X.says, X.ev, X.evs, evl, tblS, List.getD_cons_zero, List.getD_cons_succ, List.getElem?_cons_zero, List.getElem?_cons_succ, tt_b, int_i, str_s, rs_r, Option.isSome_some, Option.getD_some, decide_eq_true_eq, decide_eq_false_iff_not, dS_eS, dC_eC, dU_eU, dW_eW, dY_eY, eC_0, eC_1, eU_0, eU_1, eW_0, eW_1, eW_2, eY_0, eY_1, eS_0, eS_1, eS_2, eS_3, eS_4, eS_5, List.length_map, i_inj, b_inj, s_inj, eC_eq, eU_eq, eW_eq, eY_eq, eS_eq, rng64, List.take_succ_cons, List.take_zero, List.nil_append, List.cons_append, decide_true, decide_false, Bool.or_true, true_and, and_true, dT_eT, eT_0, eT_1, eT_2, eT_3, eT_eq, eT_z, Te.k, Te.n, Te.s, Te.l, hS, get_t hkl, hto, cutM, mT, gAdd, dVs_eVs, if_pos hQ, if_pos (show szT (l.getD k default) < N by omega)]
      generalize addD (s', al) (l.getD k default) ((S.2.cs.length + 1 + k : Nat) : Int) = R at g1 g2 g3 g4 hP ⊢
      simp only at g1
      simp only [go_need, go_br, go_leaf, go_back, allSay, X.says, X.ev, X.evs, evl, tblS, List.getD_cons_zero, List.getD_cons_succ, List.getElem?_cons_zero, List.getElem?_cons_succ, tt_b, int_i, str_s, rs_r, Option.isSome_some, Option.getD_some, decide_eq_true_eq, decide_eq_false_iff_not, dS_eS, dC_eC, dU_eU, dW_eW, dY_eY, eC_0, eC_1, eU_0, eU_1, eW_0, eW_1, eW_2, eY_0, eY_1, eS_0, eS_1, eS_2, eS_3, eS_4, eS_5, List.length_map, i_inj, b_inj, s_inj, eC_eq, eU_eq, eW_eq, eY_eq, eS_eq, rng64, List.take_succ_cons, List.take_zero, List.nil_append, List.cons_append, decide_true, decide_false, Bool.or_true, true_and, and_true, dT_eT, eT_0, eT_1, eT_2, eT_3, eT_eq, eT_z, Int.toNat_natCast, set_cs]
      refine ⟨⟨by omega, by omega⟩, ⟨⟨by omega, by omega⟩, by omega, by omega⟩, ⟨by omega, by omega⟩, ⟨by omega, by omega⟩, ?_⟩
      rw [updB, if_pos rfl]
      refine ⟨⟨k + 1, R.2.2, setC R.2.1 (S.2.cs.length + 1 + k) R.1, by omega, by simp, g4, g3.1.trans hmx', ?_, ?_, ?_, hP⟩, ?_⟩
      · rw [setC_len, g1]
        omega
      · rw [setC_len, g1]
        omega
      · show (symsTs R.2.1.ys _).length ≤ _
        rw [g2]
        exact hy'
      · simp [D.int]
        omega
    · simp only [go_need, go_br, go_leaf, go_back, allSay, X.says, X.ev, X.evs, evl, tblS, List.getD_cons_zero, List.getD_cons_succ, List.getElem?_cons_zero, List.getElem?_cons_succ, tt_b, int_i, str_s, rs_r, Option.isSome_some, Option.getD_some, decide_eq_true_eq, decide_eq_false_iff_not, dS_eS, dC_eC, dU_eU, dW_eW, dY_eY, eC_0, eC_1, eU_0, eU_1, eW_0, eW_1, eW_2, eY_0, eY_1, eS_0, eS_1, eS_2, eS_3, eS_4, eS_5, List.length_map, i_inj, b_inj, s_inj, eC_eq, eU_eq, eW_eq, eY_eq, eS_eq, rng64, List.take_succ_cons, List.take_zero, List.nil_append, List.cons_append, decide_true, decide_false, Bool.or_true, true_and, and_true, dT_eT, eT_0, eT_1, eT_2, eT_3, eT_eq, eT_z, Te.l] at hlt
      have : k = l.length := by omega
      subst this
      rw [List.drop_length, addAs] at hP
      simp only [go_need, go_br, go_leaf, go_back, allSay, X.says, X.ev, X.evs, evl, tblS, List.getD_cons_zero, List.getD_cons_succ, List.getElem?_cons_zero, List.getElem?_cons_succ, tt_b, int_i, str_s, rs_r, Option.isSome_some, Option.getD_some, decide_eq_true_eq, decide_eq_false_iff_not, dS_eS, dC_eC, dU_eU, dW_eW, dY_eY, eC_0, eC_1, eU_0, eU_1, eW_0, eW_1, eW_2, eY_0, eY_1, eS_0, eS_1, eS_2, eS_3, eS_4, eS_5, List.length_map, i_inj, b_inj, s_inj, eC_eq, eU_eq, eW_eq, eY_eq, eS_eq, rng64, List.take_succ_cons, List.take_zero, List.nil_append, List.cons_append, decide_true, decide_false, Bool.or_true, true_and, and_true, dT_eT, eT_0, eT_1, eT_2, eT_3, eT_eq, eT_z, Te.k, Te.n, Te.s, Te.l, eC_mk, hS, ← hP]
end Go.Proofs.Ytinclokohcommaa


namespace Go.Proofs.Ytinclokohcommaa
open Go.RowKit
set_option linter.unusedVariables false
set_option linter.unusedSimpArgs false

def putV (s : So) (t : Te) (l : List Vc) : Ce × List Vc × Int × So :=
  if validT t && vvP s l then (if roomB s t l then ((addD (s, l) t (-1)).1, (addD (s, l) t (-1)).2.2, 0, (addD (s, l) t (-1)).2.1) else (⟨0, 0⟩, [], 13, s)) else (⟨0, 0⟩, [], 1, s)
def gPut : List D → Option (List D)
  | [s, t, l] => if validR (dS s) then some [eC (putV (dS s) (dT t) (dVs l)).1, .r ((putV (dS s) (dT t) (dVs l)).2.1.map eV), .i (putV (dS s) (dT t) (dVs l)).2.2.1, eS (putV (dS s) (dT t) (dVs l)).2.2.2] else none
  | _ => none
theorem vr_hd {s : So} (h : validR s = true) : 1 ≤ s.mx ∧ s.mx ≤ 1048576 ∧ (s.cs.length : Int) ≤ s.mx ∧ s.ys.length ≤ 1048576 := by
  have h := vr_head h
  simp only [headB, symsB, Bool.and_eq_true, decide_eq_true_eq] at h
  omega
theorem room_add {s : So} {t : Te} {l : List Vc} (hs : validR s = true) (ht : validT t = true) (hl : vvP s l = true) (hr : roomB s t l = true) : addQ s l t (-1) = true := by
  obtain ⟨h1, h2, h3, h4⟩ := vr_hd hs
  simp only [validT, Bool.and_eq_true, decide_eq_true_eq] at ht
  simp only [roomB, Bool.and_eq_true, decide_eq_true_eq] at hr
  have hv := visM_T t s.ys []
  rw [List.append_nil] at hv
  have hv' := congrArg List.length hv
  rw [List.length_append] at hv'
  simp only [addQ, Bool.and_eq_true, decide_eq_true_eq]
  exact ⟨ht.2, (vvP_iff.1 hl).1, by rw [if_pos (by decide)]; omega, h2, by omega, by decide⟩
theorem ok_cells_Put : FOk ct_cells_Put gPut := fok_cells_Put ok_cells_Put_1 ok_term_Valid ok_cells_validVars ok_cells_room ok_slices_Clone_VarCell fun ds outs hw hg => by
  obtain ⟨d, r, rfl, hd, e, r', rfl, he, f, r2, rfl, hf, rfl⟩ := hw
  obtain ⟨s, rfl, hs⟩ := wfS hd
  obtain ⟨t, rfl, ht⟩ := wfT he
  obtain ⟨l, rfl, hl, hok⟩ := wfVs hf
  simp only [gPut, dS_eS, dT_eT, dVs_eVs, Option.ite_none_right_eq_some, Option.some.injEq] at hg
  obtain ⟨hv, rfl⟩ := hg
  obtain ⟨h1, h2, h3, h4⟩ := vr_hd hv
  have hz : D.a [.i 0, .i 0] = eC ⟨0, 0⟩ := rfl
  have hR : roomB s t l = true → validT t = true → vvP s l = true → addQ s l t (-1) = true := fun a b c => room_add hv b c a
  have hgr : validT t = true → vvP s l = true → gRoom [eS s, eT t, .r (l.map eV)] = some [.b (roomB s t l)] := fun a b => by
    simp only [validT, Bool.and_eq_true, decide_eq_true_eq] at a
    simp only [gRoom, dS_eS, dT_eT, dVs_eVs]
    rw [if_pos ⟨a.2, a.1, (vvP_iff.1 b).1, by omega, by omega, h4⟩]
  simp only [tree_cells_Put, go_need, go_br, go_leaf, go_back, allSay, X.says, X.ev, X.evs, evl, tblS, List.getD_cons_zero, List.getD_cons_succ, List.getElem?_cons_zero, List.getElem?_cons_succ, tt_b, int_i, str_s, rs_r, Option.isSome_some, Option.getD_some, decide_eq_true_eq, decide_eq_false_iff_not, dS_eS, dC_eC, dU_eU, dW_eW, dY_eY, eC_0, eC_1, eU_0, eU_1, eW_0, eW_1, eW_2, eY_0, eY_1, eS_0, eS_1, eS_2, eS_3, eS_4, eS_5, List.length_map, i_inj, b_inj, s_inj, eC_eq, eU_eq, eW_eq, eY_eq, eS_eq, rng64, List.take_succ_cons, List.take_zero, List.nil_append, List.cons_append, decide_true, decide_false, Bool.or_true, true_and, and_true, dT_eT, eT_0, eT_1, eT_2, eT_3, eT_eq, eT_z, gTb, gVV, gCl, rowQ_r, hl, hz, dVs_eVs, putV]
  cases hvt : validT t
  · simp
  cases hvl : vvP s l
  · simp
  simp only [hgr hvt hvl]
  cases hrm : roomB s t l
  · simp [D.tt]
  simp [gAdd, dS_eS, dT_eT, dVs_eVs, D.int, D.tt, hR hrm hvt hvl]
end Go.Proofs.Ytinclokohcommaa


namespace Go.Proofs.Ytinclokohcommaa
open Go.RowKit
set_option linter.unusedVariables false
set_option maxRecDepth 100000

def ct_law30_count : Ct := ⟨31, [.val (.st 42), .val (.row 2)], [(.int .i64, false)], [], none⟩
theorem enter_law30_count (args : Array Value) (w : World) : (callFunc ct_law30_count.f args).run Try.prog w = .ok (.enter ct_law30_count.f args) w := by kernel_rfl
def ann_law30_count : Ann := ⟨[0, 1, 2, 4, 5, 6, 7, 8, 11, 20, 29, 32, 42, 51], [(4, ⟨[(5, .int .i64, false), (6, .int .i64, false)], [], [12, 13, 14, 15, 16, 17, 18, 19, 20, 23, 24, 25, 26, 27, 28, 29, 21, 22], []⟩),
  (13, ⟨[(7, .int .i64, false), (8, .int .i64, false)], [], [38, 39, 40, 41, 42, 45, 46, 47, 48, 49, 50, 51, 52, 53, 54, 55, 56, 57, 58, 59, 60, 43, 44], []⟩)]⟩
def tree_law30_count : Tree := (.br (.not (.eq (.fld (.tok 0) 0) (.lit (.i 3)))) (.loop 4 2 [(.lit (.i 1)), (.lit (.i 0))] (.br (.and (.lt (.tok 3) (.len (.tok 1))) (.eq (.fld (.tok 0) 0) (.lit (.i 0)))) (.need [(.le (.lit (.i 0)) (.tok 3)), (.lt (.tok 3) (.len (.tok 1)))] (.br (.eq (.get (.tok 1) (.tok 3)) (.fld (.tok 0) 1)) (.need [(.rng .i64 (.add (.tok 3) (.lit (.i 1))))] (.back 4 [(.lit (.i 0)), (.add (.tok 3) (.lit (.i 1)))])) (.need [(.rng .i64 (.add (.tok 3) (.lit (.i 1))))] (.back 4 [(.tok 2), (.add (.tok 3) (.lit (.i 1)))])))) (.br (.not (.eq (.fld (.tok 0) 0) (.lit (.i 0)))) (.leaf [(.lit (.i 0))]) (.leaf [(.tok 2)])))) (.need [(.rng .i64 (.add (.lit (.i 1)) (.len (.fld (.tok 0) 3))))] (.loop 13 2 [(.add (.lit (.i 1)) (.len (.fld (.tok 0) 3))), (.lit (.i 0))] (.br (.lt (.tok 3) (.len (.fld (.tok 0) 3))) (.need [(.le (.lit (.i 0)) (.tok 3)), (.lt (.tok 3) (.len (.fld (.tok 0) 3)))] (.br (.eq (.fld (.get (.fld (.tok 0) 3) (.tok 3)) 0) (.lit (.i 3))) (.need [(.le (.lit (.i 0)) (.tok 3)), (.lt (.tok 3) (.len (.fld (.tok 0) 3))), (.ok 0 [(.get (.fld (.tok 0) 3) (.tok 3)), (.tok 1)]), (.rng .i64 (.add (.tok 2) (.call 0 0 [(.get (.fld (.tok 0) 3) (.tok 3)), (.tok 1)])))] (.need [(.rng .i64 (.add (.tok 3) (.lit (.i 1))))] (.back 13 [(.add (.tok 2) (.call 0 0 [(.get (.fld (.tok 0) 3) (.tok 3)), (.tok 1)])), (.add (.tok 3) (.lit (.i 1)))]))) (.need [(.rng .i64 (.add (.tok 3) (.lit (.i 1))))] (.back 13 [(.tok 2), (.add (.tok 3) (.lit (.i 1)))])))) (.leaf [(.tok 2)])))))
set_option maxRecDepth 100000 in
theorem code_law30_count (g0 : List D → Option (List D)) : ∀ cd, Try.f31.body = some cd → treeOf Try.prog [(ct_law30_count, g0)] ann_law30_count ct_law30_count Try.f31 cd = tree_law30_count := by
  intro cd h
  injection h with h
  subst h
  kernel_rfl
theorem fok_law30_count {g0 : List D → Option (List D)} {g : List D → Option (List D)} (h0 : FOk ct_law30_count g0) (h : ∀ ds outs, WfA ct_law30_count.ars ds → g ds = some outs → tree_law30_count.go (tblS [(ct_law30_count, g0)]) (fun o => o = outs) ds fun _ _ => False) : FOk ct_law30_count g :=
  fok_of ann_law30_count Try.f31 _ (.cons h0 .nil) rfl rfl enter_law30_count (by decide) fun ds outs hw hg => by rw [code_law30_count g0 _ rfl]; exact h ds outs hw hg

def ct_law30_CellsFull : Ct := ⟨7, [.val (.st 42)], [(.bool, false)], [], none⟩
theorem enter_law30_CellsFull (args : Array Value) (w : World) : (callFunc ct_law30_CellsFull.f args).run Try.prog w = .ok (.enter ct_law30_CellsFull.f args) w := by kernel_rfl
def ann_law30_CellsFull : Ann := ⟨[0, 1, 2, 3, 4, 5, 8, 10, 11, 12, 14, 18, 51, 53], []⟩
def tree_law30_CellsFull : Tree := (.need [(.ok 0 [(.tok 0)])] (.br (.call 0 0 [(.tok 0)]) (.need [(.ok 1 [(.tok 0), (.lit (.r []))])] (.br (.eq (.call 1 0 [(.tok 0), (.lit (.r []))]) (.lit (.i 0))) (.need [(.ok 2 [])] (.leaf [(.call 2 0 [])])) (.need [(.ok 3 [(.call 1 0 [(.tok 0), (.lit (.r []))])])] (.need [(.ok 4 [(.call 3 0 [(.call 1 0 [(.tok 0), (.lit (.r []))])]), (.tok 0), (.lit (.r []))])] (.need [(.ok 5 [(.call 4 3 [(.call 3 0 [(.call 1 0 [(.tok 0), (.lit (.r []))])]), (.tok 0), (.lit (.r []))])])] (.br (.or (.or (.or (.not (.eq (.call 3 1 [(.call 1 0 [(.tok 0), (.lit (.r []))])]) (.lit (.i 0)))) (.not (.eq (.call 4 2 [(.call 3 0 [(.call 1 0 [(.tok 0), (.lit (.r []))])]), (.tok 0), (.lit (.r []))]) (.lit (.i 0))))) (.not (.eq (.call 5 1 [(.call 4 3 [(.call 3 0 [(.call 1 0 [(.tok 0), (.lit (.r []))])]), (.tok 0), (.lit (.r []))])]) (.lit (.i 13))))) (.not (.eq (.len (.fld (.call 5 2 [(.call 4 3 [(.call 3 0 [(.call 1 0 [(.tok 0), (.lit (.r []))])]), (.tok 0), (.lit (.r []))])]) 0)) (.call 1 0 [(.tok 0), (.lit (.r []))])))) (.leaf [(.lit (.b .false))]) (.br (.eq (.call 1 0 [(.tok 0), (.lit (.r []))]) (.lit (.i 1))) (.need [(.ok 2 [])] (.leaf [(.call 2 0 [])])) (.need [(.rng .i64 (.sub (.call 1 0 [(.tok 0), (.lit (.r []))]) (.lit (.i 1)))), (.ok 3 [(.sub (.call 1 0 [(.tok 0), (.lit (.r []))]) (.lit (.i 1)))])] (.need [(.ok 4 [(.call 3 0 [(.sub (.call 1 0 [(.tok 0), (.lit (.r []))]) (.lit (.i 1)))]), (.tok 0), (.lit (.r []))])] (.need [(.imp (.and (.and (.and (.and (.eq (.call 4 2 [(.call 3 0 [(.sub (.call 1 0 [(.tok 0), (.lit (.r []))]) (.lit (.i 1)))]), (.tok 0), (.lit (.r []))]) (.lit (.i 13))) (.eq (.call 4 0 [(.call 3 0 [(.sub (.call 1 0 [(.tok 0), (.lit (.r []))]) (.lit (.i 1)))]), (.tok 0), (.lit (.r []))]) (.lit (.a [(.i 0), (.i 0)])))) (.eq (.len (.call 4 1 [(.call 3 0 [(.sub (.call 1 0 [(.tok 0), (.lit (.r []))]) (.lit (.i 1)))]), (.tok 0), (.lit (.r []))])) (.lit (.i 0)))) (.eq (.len (.fld (.call 4 3 [(.call 3 0 [(.sub (.call 1 0 [(.tok 0), (.lit (.r []))]) (.lit (.i 1)))]), (.tok 0), (.lit (.r []))]) 0)) (.lit (.i 0)))) (.eq (.len (.fld (.call 4 3 [(.call 3 0 [(.sub (.call 1 0 [(.tok 0), (.lit (.r []))]) (.lit (.i 1)))]), (.tok 0), (.lit (.r []))]) 1)) (.lit (.i 0)))) (.ok 2 []))] (.leaf [(.and (.and (.and (.and (.and (.eq (.call 4 2 [(.call 3 0 [(.sub (.call 1 0 [(.tok 0), (.lit (.r []))]) (.lit (.i 1)))]), (.tok 0), (.lit (.r []))]) (.lit (.i 13))) (.eq (.call 4 0 [(.call 3 0 [(.sub (.call 1 0 [(.tok 0), (.lit (.r []))]) (.lit (.i 1)))]), (.tok 0), (.lit (.r []))]) (.lit (.a [(.i 0), (.i 0)])))) (.eq (.len (.call 4 1 [(.call 3 0 [(.sub (.call 1 0 [(.tok 0), (.lit (.r []))]) (.lit (.i 1)))]), (.tok 0), (.lit (.r []))])) (.lit (.i 0)))) (.eq (.len (.fld (.call 4 3 [(.call 3 0 [(.sub (.call 1 0 [(.tok 0), (.lit (.r []))]) (.lit (.i 1)))]), (.tok 0), (.lit (.r []))]) 0)) (.lit (.i 0)))) (.eq (.len (.fld (.call 4 3 [(.call 3 0 [(.sub (.call 1 0 [(.tok 0), (.lit (.r []))]) (.lit (.i 1)))]), (.tok 0), (.lit (.r []))]) 1)) (.lit (.i 0)))) (.call 2 0 []))]))))))))))) (.need [(.ok 2 [])] (.leaf [(.call 2 0 [])]))))
set_option maxRecDepth 100000 in
theorem code_law30_CellsFull (g0 g1 g2 g3 g4 g5 : List D → Option (List D)) : ∀ cd, Try.f7.body = some cd → treeOf Try.prog [(ct_ref03_Valid, g0), (ct_law30_count, g1), (ct_law30_awake, g2), (ct_cells_New, g3), (ct_cells_Put, g4), (ct_cells_Fresh, g5)] ann_law30_CellsFull ct_law30_CellsFull Try.f7 cd = tree_law30_CellsFull := by
  intro cd h
  injection h with h
  subst h
  kernel_rfl
theorem fok_law30_CellsFull {g0 g1 g2 g3 g4 g5 : List D → Option (List D)} {g : List D → Option (List D)} (h0 : FOk ct_ref03_Valid g0) (h1 : FOk ct_law30_count g1) (h2 : FOk ct_law30_awake g2) (h3 : FOk ct_cells_New g3) (h4 : FOk ct_cells_Put g4) (h5 : FOk ct_cells_Fresh g5) (h : ∀ ds outs, WfA ct_law30_CellsFull.ars ds → g ds = some outs → tree_law30_CellsFull.go (tblS [(ct_ref03_Valid, g0), (ct_law30_count, g1), (ct_law30_awake, g2), (ct_cells_New, g3), (ct_cells_Put, g4), (ct_cells_Fresh, g5)]) (fun o => o = outs) ds fun _ _ => False) : FOk ct_law30_CellsFull g :=
  fok_of ann_law30_CellsFull Try.f7 _ (.cons h0 (.cons h1 (.cons h2 (.cons h3 (.cons h4 (.cons h5 .nil)))))) rfl rfl enter_law30_CellsFull (by decide) fun ds outs hw hg => by rw [code_law30_CellsFull g0 g1 g2 g3 g4 g5 _ rfl]; exact h ds outs hw hg

end Go.Proofs.Ytinclokohcommaa


namespace Go.Proofs.Ytinclokohcommaa
open Go.RowKit
set_option linter.unusedVariables false
set_option linter.unusedSimpArgs false

def eIs (l : List Int) : D := .r (l.map .i)
def dIs (d : D) : List Int := d.rs.map D.int
theorem dIs_eIs (l : List Int) : dIs (eIs l) = l := by
  show (l.map .i).map D.int = l
  rw [List.map_map]
  have : D.int ∘ D.i = id := funext fun _ => rfl
  rw [this, List.map_id]
theorem eIs_len (l : List Int) : (eIs l).rs.length = l.length := by simp [eIs, rs_r]
theorem eIs_get {l : List Int} {k : Nat} (h : k < l.length) : (eIs l).get (k : Int) = .i (l.getD k 0) := by
  show (l.map D.i).getD k .u = _
  simp [List.getD_eq_getElem?_getD, h]
theorem wfIs {d : D} {E : TypeId} (hE : tyOf E = some (.int .i64)) (h : Wf d (.row E)) : ∃ l : List Int, d = eIs l ∧ l.length ≤ 17592186043904 ∧ ∀ x ∈ l, i64 x := by
  obtain ⟨l, rfl, h1, h2⟩ := h.row_of (te := .int .i64) hE
  obtain ⟨m, rfl, h3⟩ := of_all (e := D.i) (P := fun n => i64 n) fun x hx => wfI (h2 x hx)
  refine ⟨m, rfl, ?_, h3⟩
  have e : LM (.int .i64) = 17592186043904 := by kernel_rfl
  rw [List.length_map] at h1
  omega
theorem ty_i64 : tyOf 2 = some (.int .i64) := by kernel_rfl
end Go.Proofs.Ytinclokohcommaa


namespace Go.Proofs.Ytinclokohcommaa
open Go.RowKit
set_option linter.unusedVariables false
set_option linter.unusedSimpArgs false

def cotT (t : Te) (h : List Int) : Nat := cntT t + if t.k = 0 ∧ t.n ∉ h then 1 else 0
def gCot : List D → Option (List D)
  | [t, h] => if nodesT (dT t) = true ∧ szT (dT t) ≤ 2000 then some [.i (cotT (dT t) (dIs h))] else none
  | _ => none
theorem cot_no {t : Te} {h : List Int} (hn : nodeT t = true) (h3 : ¬ t.k = 3) : cotT t h = if t.k = 0 ∧ t.n ∉ h then 1 else 0 := by
  rw [cotT, cntT_t, if_neg h3, Nat.zero_add]
theorem ok_law30_count : FOk ct_law30_count gCot := fok_cut (m := mT) enter_law30_count fun N ih => fok_law30_count ih fun ds outs hw hg => by
  obtain ⟨d, r, rfl, hd, e, r', rfl, he, rfl⟩ := hw
  obtain ⟨t, rfl, ht⟩ := wfT hd
  obtain ⟨h, rfl, hh, hhi⟩ := wfIs ty_i64 he
  simp only [cutM, mT, gCot, List.getD_cons_zero, dT_eT, dIs_eIs, Option.ite_none_right_eq_some, Option.some.injEq] at hg
  obtain ⟨hsz, ⟨hnd, h2k⟩, rfl⟩ := hg
  have hnl := (nodes_iff t).1 hnd
  have hl := ht.l
  simp only [tree_law30_count, go_br]
  simp only [go_need, go_br, go_leaf, go_back, allSay, X.says, X.ev, X.evs, evl, tblS, List.getD_cons_zero, List.getD_cons_succ, List.getElem?_cons_zero, List.getElem?_cons_succ, tt_b, int_i, str_s, rs_r, Option.isSome_some, Option.getD_some, decide_eq_true_eq, decide_eq_false_iff_not, dS_eS, dC_eC, dU_eU, dW_eW, dY_eY, eC_0, eC_1, eU_0, eU_1, eW_0, eW_1, eW_2, eY_0, eY_1, eS_0, eS_1, eS_2, eS_3, eS_4, eS_5, List.length_map, i_inj, b_inj, s_inj, eC_eq, eU_eq, eW_eq, eY_eq, eS_eq, rng64, List.take_succ_cons, List.take_zero, List.nil_append, List.cons_append, decide_true, decide_false, Bool.or_true, true_and, and_true, dT_eT, eT_0, eT_1, eT_2, eT_3, eT_eq, eT_z]
  refine ⟨fun h3 => ?_, fun h3 => ⟨by omega, ?_⟩⟩
  · have h3' : ¬ t.k = 3 := by simpa using h3
    rw [cot_no hnl.1 h3', go_loop]
    refine ⟨fun st => ∃ k : Nat, k ≤ h.length ∧ st = [.i (if t.k = 0 ∧ t.n ∈ h.take k then 0 else 1), .i k], fun st => h.length - (st.getD 1 .u).int.toNat, ⟨0, Nat.zero_le _, by simp [X.evs, X.ev]⟩, ?_⟩
    rintro st - ⟨k, hk, rfl⟩
    rw [go_br]
    refine ⟨fun hlt => ?_, fun hlt => ?_⟩
    · simp only [go_need, go_br, go_leaf, go_back, allSay, X.says, X.ev, X.evs, evl, tblS, List.getD_cons_zero, List.getD_cons_succ, List.getElem?_cons_zero, List.getElem?_cons_succ, tt_b, int_i, str_s, rs_r, Option.isSome_some, Option.getD_some, decide_eq_true_eq, decide_eq_false_iff_not, dS_eS, dC_eC, dU_eU, dW_eW, dY_eY, eC_0, eC_1, eU_0, eU_1, eW_0, eW_1, eW_2, eY_0, eY_1, eS_0, eS_1, eS_2, eS_3, eS_4, eS_5, List.length_map, i_inj, b_inj, s_inj, eC_eq, eU_eq, eW_eq, eY_eq, eS_eq, rng64, List.take_succ_cons, List.take_zero, List.nil_append, List.cons_append, decide_true, decide_false, Bool.or_true, true_and, and_true, dT_eT, eT_0, eT_1, eT_2, eT_3, eT_eq, eT_z, eIs_len, Bool.and_eq_true, decide_eq_true_eq] at hlt
      obtain ⟨hlt, hk0⟩ := hlt
      have hkl : k < h.length := by omega
      have hs : h.take (k + 1) = h.take k ++ [h.getD k 0] := take_snoc hkl
      simp only [go_need, go_br, go_leaf, go_back, allSay, X.says, X.ev, X.evs, evl, tblS, List.getD_cons_zero, List.getD_cons_succ, List.getElem?_cons_zero, List.getElem?_cons_succ, tt_b, int_i, str_s, rs_r, Option.isSome_some, Option.getD_some, decide_eq_true_eq, decide_eq_false_iff_not, dS_eS, dC_eC, dU_eU, dW_eW, dY_eY, eC_0, eC_1, eU_0, eU_1, eW_0, eW_1, eW_2, eY_0, eY_1, eS_0, eS_1, eS_2, eS_3, eS_4, eS_5, List.length_map, i_inj, b_inj, s_inj, eC_eq, eU_eq, eW_eq, eY_eq, eS_eq, rng64, List.take_succ_cons, List.take_zero, List.nil_append, List.cons_append, decide_true, decide_false, Bool.or_true, true_and, and_true, dT_eT, eT_0, eT_1, eT_2, eT_3, eT_eq, eT_z, eIs_get hkl, eIs_len]
      refine ⟨⟨by omega, by omega⟩, fun he => ⟨⟨by omega, by omega⟩, ?_⟩, fun he => ⟨⟨by omega, by omega⟩, ?_⟩⟩
      · rw [updB, if_pos rfl]
        refine ⟨⟨k + 1, by omega, ?_⟩, by simp [D.int]; omega⟩
        rw [hs, if_pos ⟨hk0, List.mem_append.2 (.inr (by rw [he]; exact List.mem_singleton.2 rfl))⟩]
        simp
      · rw [updB, if_pos rfl]
        refine ⟨⟨k + 1, by omega, ?_⟩, by simp [D.int]; omega⟩
        have he' : ¬ t.n = h.getD k 0 := fun q => by simp [q] at he
        rw [hs]
        simp only [List.mem_append, List.mem_singleton, he', or_false]
        simp
    · simp only [go_need, go_br, go_leaf, go_back, allSay, X.says, X.ev, X.evs, evl, tblS, List.getD_cons_zero, List.getD_cons_succ, List.getElem?_cons_zero, List.getElem?_cons_succ, tt_b, int_i, str_s, rs_r, Option.isSome_some, Option.getD_some, decide_eq_true_eq, decide_eq_false_iff_not, dS_eS, dC_eC, dU_eU, dW_eW, dY_eY, eC_0, eC_1, eU_0, eU_1, eW_0, eW_1, eW_2, eY_0, eY_1, eS_0, eS_1, eS_2, eS_3, eS_4, eS_5, List.length_map, i_inj, b_inj, s_inj, eC_eq, eU_eq, eW_eq, eY_eq, eS_eq, rng64, List.take_succ_cons, List.take_zero, List.nil_append, List.cons_append, decide_true, decide_false, Bool.or_true, true_and, and_true, dT_eT, eT_0, eT_1, eT_2, eT_3, eT_eq, eT_z, eIs_len, Bool.and_eq_false_iff, decide_eq_false_iff_not] at hlt ⊢
      refine ⟨fun h0 => ?_, fun h0 => ?_⟩
      · have h0' : ¬ t.k = 0 := by simpa using h0
        simp [h0']
      · have h0' : t.k = 0 := by simpa using h0
        have : k = h.length := by
          rcases hlt with h | h
          · omega
          · exact (h h0').elim
        subst this
        rw [List.take_length]
        by_cases hm : t.n ∈ h <;> simp [h0', hm]
  · have h3' : t.k = 3 := by simpa using h3
    have hc : cotT t h = 1 + t.l.length + cntTs t.l := by
      rw [cotT, cntT_t, if_pos h3', if_neg fun q => by omega]
      rfl
    have hcz := cntTs_sz t.l
    have hzt := szT_l t
    rw [hc, go_loop]
    refine ⟨fun st => ∃ k : Nat, k ≤ t.l.length ∧ st = [.i ((1 + t.l.length + cntTs (t.l.take k) : Nat) : Int), .i k], fun st => t.l.length - (st.getD 1 .u).int.toNat, ⟨0, Nat.zero_le _, by simp [X.evs, go_need, go_br, go_leaf, go_back, allSay, X.says, X.ev, X.evs, evl, tblS, List.getD_cons_zero, List.getD_cons_succ, List.getElem?_cons_zero, List.getElem?_cons_succ, tt_b, int_i, str_s, rs_r, Option.isSome_some, Option.getD_some, decide_eq_true_eq, decide_eq_false_iff_not, dS_eS, dC_eC, dU_eU, dW_eW, dY_eY, eC_0, eC_1, eU_0, eU_1, eW_0, eW_1, eW_2, eY_0, eY_1, eS_0, eS_1, eS_2, eS_3, eS_4, eS_5, List.length_map, i_inj, b_inj, s_inj, eC_eq, eU_eq, eW_eq, eY_eq, eS_eq, rng64, List.take_succ_cons, List.take_zero, List.nil_append, List.cons_append, decide_true, decide_false, Bool.or_true, true_and, and_true, dT_eT, eT_0, eT_1, eT_2, eT_3, eT_eq, eT_z, cntTs]⟩, ?_⟩
    rintro st - ⟨k, hk, rfl⟩
    rw [go_br]
    refine ⟨fun hlt => ?_, fun hlt => ?_⟩
    · simp only [go_need, go_br, go_leaf, go_back, allSay, X.says, X.ev, X.evs, evl, tblS, List.getD_cons_zero, List.getD_cons_succ, List.getElem?_cons_zero, List.getElem?_cons_succ, tt_b, int_i, str_s, rs_r, Option.isSome_some, Option.getD_some, decide_eq_true_eq, decide_eq_false_iff_not, dS_eS, dC_eC, dU_eU, dW_eW, dY_eY, eC_0, eC_1, eU_0, eU_1, eW_0, eW_1, eW_2, eY_0, eY_1, eS_0, eS_1, eS_2, eS_3, eS_4, eS_5, List.length_map, i_inj, b_inj, s_inj, eC_eq, eU_eq, eW_eq, eY_eq, eS_eq, rng64, List.take_succ_cons, List.take_zero, List.nil_append, List.cons_append, decide_true, decide_false, Bool.or_true, true_and, and_true, dT_eT, eT_0, eT_1, eT_2, eT_3, eT_eq, eT_z] at hlt
      have hkl : k < t.l.length := by omega
      have ha := arg_sz hkl
      have hsn : cntTs (t.l.take (k + 1)) = cntTs (t.l.take k) + cntT (t.l.getD k default) := by
        rw [take_snoc hkl, cntTs_app]
        simp [cntTs]
      have hle : cntTs (t.l.take (k + 1)) ≤ cntTs t.l := by
        have := cntTs_app (t.l.take (k + 1)) (t.l.drop (k + 1))
        rw [List.take_append_drop] at this
        omega
      have hnk := hnl.2 k hkl
      simp only [go_need, go_br, go_leaf, go_back, allSay, X.says, X.ev, X.evs, evl, tblS, List.getD_cons_zero, List.getD_cons_succ, List.getElem?_cons_zero, List.getElem?_cons_succ, tt_b, int_i, str_s, rs_r, Option.isSome_some, Option.getD_some, decide_eq_true_eq, decide_eq_false_iff_not, dS_eS, dC_eC, dU_eU, dW_eW, dY_eY, eC_0, eC_1, eU_0, eU_1, eW_0, eW_1, eW_2, eY_0, eY_1, eS_0, eS_1, eS_2, eS_3, eS_4, eS_5, List.length_map, i_inj, b_inj, s_inj, eC_eq, eU_eq, eW_eq, eY_eq, eS_eq, rng64, List.take_succ_cons, List.take_zero, List.nil_append, List.cons_append, decide_true, decide_false, Bool.or_true, true_and, and_true, dT_eT, eT_0, eT_1, eT_2, eT_3, eT_eq, eT_z, get_t hkl, cutM, mT, gCot, dIs_eIs]
      refine ⟨⟨by omega, by omega⟩, fun hk3 => ?_, fun hk3 => ⟨⟨by omega, by omega⟩, ?_⟩⟩
      · have hq : nodesT (t.l.getD k default) = true ∧ szT (t.l.getD k default) ≤ 2000 := ⟨hnk, by omega⟩
        have hcq : cotT (t.l.getD k default) h = cntT (t.l.getD k default) := by
          rw [cotT, if_neg fun q => by omega]
          rfl
        simp only [if_pos hq, if_pos (show szT (t.l.getD k default) < N by omega), hcq, Option.isSome_some, Option.getD_some, List.getD_cons_zero, int_i]
        refine ⟨⟨by omega, by omega, trivial, by omega, by omega⟩, ⟨by omega, by omega⟩, ?_⟩
        rw [updB, if_pos rfl]
        refine ⟨⟨k + 1, by omega, ?_⟩, by simp [D.int]; omega⟩
        rw [hsn]
        simp
        omega
      · have hk0 : cntT (t.l.getD k default) = 0 := by rw [cntT_t, if_neg hk3]
        rw [updB, if_pos rfl]
        refine ⟨⟨k + 1, by omega, ?_⟩, by simp [D.int]; omega⟩
        rw [hsn, hk0]
        simp
    · simp only [go_need, go_br, go_leaf, go_back, allSay, X.says, X.ev, X.evs, evl, tblS, List.getD_cons_zero, List.getD_cons_succ, List.getElem?_cons_zero, List.getElem?_cons_succ, tt_b, int_i, str_s, rs_r, Option.isSome_some, Option.getD_some, decide_eq_true_eq, decide_eq_false_iff_not, dS_eS, dC_eC, dU_eU, dW_eW, dY_eY, eC_0, eC_1, eU_0, eU_1, eW_0, eW_1, eW_2, eY_0, eY_1, eS_0, eS_1, eS_2, eS_3, eS_4, eS_5, List.length_map, i_inj, b_inj, s_inj, eC_eq, eU_eq, eW_eq, eY_eq, eS_eq, rng64, List.take_succ_cons, List.take_zero, List.nil_append, List.cons_append, decide_true, decide_false, Bool.or_true, true_and, and_true, dT_eT, eT_0, eT_1, eT_2, eT_3, eT_eq, eT_z] at hlt ⊢
      have : k = t.l.length := by omega
      subst this
      rw [List.take_length]

theorem cot_need {t : Te} : cotT t [] = nedT t [] := by
  unfold cotT nedT
  simp [ofV]
def newS (n : Int) : So := ⟨[], [], [], [], 0, n⟩
theorem vr_new {n : Int} (h1 : 1 ≤ n) (h2 : n ≤ 1048576) : validR (newS n) = true := by
  simp [validR, newS, headB, symsB, h1, h2]
  exact decide_eq_true (by omega)
theorem law_CellsFull : FOk ct_law30_CellsFull gYes := fok_law30_CellsFull ok_ref03_Valid ok_law30_count ok_law30_awake ok_cells_New ok_cells_Put ok_cells_Fresh fun ds outs hw hg => by
  obtain ⟨d, r, rfl, hd, rfl⟩ := hw
  obtain ⟨t, rfl, ht⟩ := wfT hd
  simp only [gYes, Option.some.injEq] at hg
  subst hg
  rw [tree_law30_CellsFull]
  cases hv : validT t
  · simp [go_need, go_br, go_leaf, go_back, allSay, X.says, X.ev, X.evs, evl, tblS, List.getD_cons_zero, List.getD_cons_succ, List.getElem?_cons_zero, List.getElem?_cons_succ, tt_b, int_i, str_s, rs_r, Option.isSome_some, Option.getD_some, decide_eq_true_eq, decide_eq_false_iff_not, dS_eS, dC_eC, dU_eU, dW_eW, dY_eY, eC_0, eC_1, eU_0, eU_1, eW_0, eW_1, eW_2, eY_0, eY_1, eS_0, eS_1, eS_2, eS_3, eS_4, eS_5, List.length_map, i_inj, b_inj, s_inj, eC_eq, eU_eq, eW_eq, eY_eq, eS_eq, rng64, List.take_succ_cons, List.take_zero, List.nil_append, List.cons_append, decide_true, decide_false, Bool.or_true, true_and, and_true, dT_eT, eT_0, eT_1, eT_2, eT_3, eT_eq, eT_z, gTb, hv, gYes]
  have hv2 := hv
  simp only [validT, Bool.and_eq_true, decide_eq_true_eq] at hv2
  have hcount : gCot [eT t, .r []] = some [.i (cotT t [])] := by
    simp only [gCot, dT_eT, dIs, D.rs, List.map_nil]
    rw [if_pos ⟨hv2.2, hv2.1⟩]
  have hc2 := cntT_sz t
  have hle : cotT t [] ≤ 4000 := by
    unfold cotT
    split <;> omega
  have hvis := visM_len t [] []
  have hnew : ∀ n : Nat, 1 ≤ n → n ≤ 4000 → gNew [.i n] = some [eS (newS n), .i 0] := fun n h1 h2 => by
    have : newBad (n : Int) = false := by simp [newBad]; omega
    simp only [gNew, int_i, this]
    rfl
  have hned := cot_need (t := t)
  generalize hN : cotT t [] = N at *
  by_cases h0 : N = 0
  · simp [go_need, go_br, go_leaf, go_back, allSay, X.says, X.ev, X.evs, evl, tblS, List.getD_cons_zero, List.getD_cons_succ, List.getElem?_cons_zero, List.getElem?_cons_succ, tt_b, int_i, str_s, rs_r, Option.isSome_some, Option.getD_some, decide_eq_true_eq, decide_eq_false_iff_not, dS_eS, dC_eC, dU_eU, dW_eW, dY_eY, eC_0, eC_1, eU_0, eU_1, eW_0, eW_1, eW_2, eY_0, eY_1, eS_0, eS_1, eS_2, eS_3, eS_4, eS_5, List.length_map, i_inj, b_inj, s_inj, eC_eq, eU_eq, eW_eq, eY_eq, eS_eq, rng64, List.take_succ_cons, List.take_zero, List.nil_append, List.cons_append, decide_true, decide_false, Bool.or_true, true_and, and_true, dT_eT, eT_0, eT_1, eT_2, eT_3, eT_eq, eT_z, gTb, hv, hcount, h0, gYes]
  have hs1 := vr_new (n := (N : Int)) (by omega) (by omega)
  have hr1 : roomB (newS N) t [] = true := by
    show (decide ((nedT t [] : Int) ≤ (N : Int) - ((0 : Nat) : Int)) && decide (((visM [] [] t).length : Int) ≤ 1048576 - ((0 : Nat) : Int))) = true
    simp only [Bool.and_eq_true, decide_eq_true_eq, List.length_nil] at hvis ⊢
    omega
  have hpre : validT t = true ∧ vvP (newS N) [] = true := ⟨hv, rfl⟩
  have hA := addD_len t (newS N, []) (-1) hv2.2 SV.nil
  obtain ⟨a1, a2, a3, a4⟩ := hA
  rw [if_pos (by decide)] at a1
  have hput : gPut [eS (newS N), eT t, .r []] = some [eC (addD (newS N, []) t (-1)).1, .r ((addD (newS N, []) t (-1)).2.2.map eV), .i 0, eS (addD (newS N, []) t (-1)).2.1] := by
    have e : dVs (.r []) = [] := rfl
    simp only [gPut, dS_eS, dT_eT, e, if_pos hs1, putV, hv, hpre.2, hr1, Bool.and_self, if_true]
  generalize addD (newS N, []) t (-1) = R at hput a1 a2 a3 a4
  have hl : R.2.1.cs.length = N := by
    have a1' : R.2.1.cs.length = 0 + nedT t [] := a1
    omega
  have hmx : R.2.1.mx = N := a3.1
  have hfr : gFresh [eS R.2.1] = some [eC ⟨0, 0⟩, .i 13, eS R.2.1] := by
    simp only [gFresh, dS_eS, hl, hmx]
    simp
  by_cases h1 : N = 1
  · have e0 : ((N : Int) = 0) = False := eq_false (by omega)
    have e1 : ((N : Int) = 1) = True := eq_true (by omega)
    simp [go_need, go_br, go_leaf, go_back, allSay, X.says, X.ev, X.evs, evl, tblS, List.getD_cons_zero, List.getD_cons_succ, List.getElem?_cons_zero, List.getElem?_cons_succ, tt_b, int_i, str_s, rs_r, Option.isSome_some, Option.getD_some, decide_eq_true_eq, decide_eq_false_iff_not, dS_eS, dC_eC, dU_eU, dW_eW, dY_eY, eC_0, eC_1, eU_0, eU_1, eW_0, eW_1, eW_2, eY_0, eY_1, eS_0, eS_1, eS_2, eS_3, eS_4, eS_5, List.length_map, i_inj, b_inj, s_inj, eC_eq, eU_eq, eW_eq, eY_eq, eS_eq, rng64, List.take_succ_cons, List.take_zero, List.nil_append, List.cons_append, decide_true, decide_false, Bool.or_true, true_and, and_true, dT_eT, eT_0, eT_1, eT_2, eT_3, eT_eq, eT_z, gTb, hv, hcount, e0, e1, gYes, hnew N (by omega) hle, hput, hfr, hl]
  have hs2 := vr_new (n := ((N - 1 : Nat) : Int)) (by omega) (by omega)
  have hr2 : roomB (newS (N - 1 : Nat)) t [] = false := by
    show (decide ((nedT t [] : Int) ≤ ((N - 1 : Nat) : Int) - ((0 : Nat) : Int)) && decide (((visM [] [] t).length : Int) ≤ 1048576 - ((0 : Nat) : Int))) = false
    simp only [Bool.and_eq_false_iff, decide_eq_false_iff_not]
    omega
  have hput2 : gPut [eS (newS (N - 1 : Nat)), eT t, .r []] = some [eC ⟨0, 0⟩, .r [], .i 13, eS (newS (N - 1 : Nat))] := by
    have e : dVs (.r []) = [] := rfl
    have e2 : vvP (newS (N - 1 : Nat)) [] = true := rfl
    simp only [gPut, dS_eS, dT_eT, e, if_pos hs2, putV, hv, e2, hr2, Bool.and_self, if_true]
    rfl
  have hN1 : ((N : Int) - 1) = ((N - 1 : Nat) : Int) := by omega
  have e0 : ((N : Int) = 0) = False := eq_false (by omega)
  have e1 : ((N : Int) = 1) = False := eq_false (by omega)
  simp [go_need, go_br, go_leaf, go_back, allSay, X.says, X.ev, X.evs, evl, tblS, List.getD_cons_zero, List.getD_cons_succ, List.getElem?_cons_zero, List.getElem?_cons_succ, tt_b, int_i, str_s, rs_r, Option.isSome_some, Option.getD_some, decide_eq_true_eq, decide_eq_false_iff_not, dS_eS, dC_eC, dU_eU, dW_eW, dY_eY, eC_0, eC_1, eU_0, eU_1, eW_0, eW_1, eW_2, eY_0, eY_1, eS_0, eS_1, eS_2, eS_3, eS_4, eS_5, List.length_map, i_inj, b_inj, s_inj, eC_eq, eU_eq, eW_eq, eY_eq, eS_eq, rng64, List.take_succ_cons, List.take_zero, List.nil_append, List.cons_append, decide_true, decide_false, Bool.or_true, true_and, and_true, dT_eT, eT_0, eT_1, eT_2, eT_3, eT_eq, eT_z, gTb, hv, hcount, e0, e1, gYes, hnew N (by omega) hle, hput, hfr, hl, hN1, hnew (N - 1) (by omega) (by omega), hput2]
  exact fun _ => ⟨by omega, ⟨rfl, rfl⟩, rfl⟩
end Go.Proofs.Ytinclokohcommaa


namespace Go.Proofs.Ytinclokohcommaa
open Go.ChangeShapes Go.WideShapes Go.ChangeAt Go.RowKit
set_option linter.unusedVariables false
set_option maxRecDepth 100000

theorem own_knobD : ownKnob Try.prog.godebug = none := by kernel_rfl
theorem laid_outD : laidOutB Try.prog = true := by kernel_rfl

section
variable {H : Type} {enc : TypeId × Value → H} {W : World} {base : Nat} {spare : Nat → Bool} {held : Bool}

def LightD (t : TypeId) (d : DataW H) : Prop := ∀ n ∈ d.weights Try.prog t, n ≤ reachBytes

theorem weightsAll_memD {e : TypeId} : ∀ {l : List (DataW H)} {d : DataW H}, d ∈ l → ∀ n ∈ d.weights Try.prog e, n ∈ DataW.weightsAll Try.prog e l
  | [], _, h, _, _ => by cases h
  | x :: l, d, h, n, hn => by
    simp only [DataW.weightsAll, List.mem_append]
    rcases List.mem_cons.1 h with rfl | h
    · exact .inl hn
    · exact .inr (weightsAll_memD h n hn)

theorem LightD.each {ts : List TypeId} {l : List (DataW H)} {k : Nat} {t : TypeId} {d : DataW H} (h : ∀ n ∈ DataW.weightsEach Try.prog ts l, n ≤ reachBytes) (ht : ts[k]? = some t) (hd : l[k]? = some d) : LightD t d := fun n hn =>
  h n (DataW.weights_mem_each ht hd n hn)

theorem reach_eqD : reachBytes = LIM := rfl

theorem cells_w {T : TypeId} {t : Ty} (h : tyOf T = some t) : Try.prog.cellsOf T = t.w := by
  obtain ⟨i, hi, h1, -⟩ := row_info h
  simp [Program.cellsOf, hi, h1]

theorem rng_wf {k : IntKind} {t : TypeId} (ht : tyOf t = some (.int k)) {n : Int} (h : (Lit.int k n).wf = true) : rngB k n = true := by
  have h0 := (row_int ht).2.1
  cases k <;> first | (simp [rngB] at h0; done) | (simp [Lit.wf, IntKind.min, IntKind.max, IntKind.signed, IntKind.bits] at h; simp [rngB]; omega)

theorem spot_noneD {a : Addr} {v : Value} (h : W.cell? a = some v) : a.spot = none := by
  unfold World.cell? at h
  split at h
  · split at h
    · cases h
    · rename_i hs; simpa using hs
  · cases h

theorem rdF_of {F : Nat → Prop} {cs : List Value} : ∀ {fl : List Field} {fs : List Ty} {o : Nat}, fieldsB fl fs o = true → (∀ (j : Nat) (f : Field) (t : Ty), fl[j]? = some f → fs[j]? = some t → ∃ y, Rd W F y t ((cs.drop f.offset).take t.w)) → cs.length = o + widths fs → ∃ ds, RdF W F ds fs (cs.drop o)
  | [], [], o, _, _, hl => by
    simp [widths] at hl
    exact ⟨[], rfl, by rw [List.drop_eq_nil_iff]; omega⟩
  | f :: l, t :: ts, o, hb, hf, hl => by
    simp only [fieldsB, Bool.and_eq_true] at hb
    obtain ⟨⟨⟨h1, -⟩, -⟩, h3⟩ := hb
    have ho := Nat.eq_of_beq_eq_true h1
    rw [widths_cons] at hl
    obtain ⟨ds, hds⟩ := rdF_of h3 (fun j f' t' hj ht => hf (j + 1) f' t' (by simpa using hj) (by simpa using ht)) (by omega)
    obtain ⟨y, hy⟩ := hf 0 f t rfl rfl
    refine ⟨y :: ds, t, ts, (cs.drop o).take t.w, cs.drop (o + t.w), rfl, ?_, by rw [← ho]; exact hy, hds⟩
    rw [← List.drop_drop, List.take_append_drop]
  | [], _ :: _, o, hb, _, _ => by cases hb
  | _ :: _, [], o, hb, _, _ => by cases hb

theorem open_recD : ∀ (fuel : Nat) {T : TypeId} {t : Ty} (cs : List Value) (x : DataW H × List MemPlace), tyOf T = some t → isMp t = false → DataW.trod enc Try.prog W base spare held fuel T cs = some x → LightD T x.1 → ∃ y, Rd W (fun _ => True) y t cs := by
  intro fuel
  induction fuel with
  | zero => intro T t cs x _ _ h; simp [DataW.trod] at h
  | succ fuel ih =>
    intro T t cs x hT hM h hL
    cases t with
    | map K V => cases hM
    | int k =>
      obtain ⟨n, rfl, -, hw⟩ := DataW.trod_int (row_int hT).1 h
      exact ⟨.i n, k, rfl, rfl, rng_wf hT hw⟩
    | bool =>
      obtain ⟨b, rfl, -⟩ := DataW.trod_bool (row_bool hT).1 h
      exact ⟨.b b, rfl, rfl⟩
    | str =>
      obtain ⟨s, rfl, rfl, -⟩ := DataW.trod_string (row_str hT).1 h
      have := hL s.data.toList.length (by simp [DataW.weights])
      exact ⟨.s s, rfl, rfl, by rw [reach_eqD] at this; simpa using this⟩
    | st S =>
      obtain ⟨fields, fs, zc, i, hu, hfs, hfb, hi, hsz, -, -, -, -⟩ := row_st hT
      obtain ⟨xs, n, hn, hx, hlen, hxl, hf⟩ := DataW.trod_struct hu h
      obtain rfl : fuel = n := by omega
      have hw : ∀ n ∈ DataW.weightsEach Try.prog (fields.toList.map (·.type)) (xs.map (·.1)), n ≤ reachBytes := fun n hn => hL n (by rw [hx]; simp only [DataW.weights, hu]; exact hn)
      have hcl : cs.length = 0 + widths fs := by rw [hlen, cells_w hT, (fld_okD hfs).1]; omega
      obtain ⟨ds, hds⟩ := rdF_of (W := W) (F := fun _ => True) hfb (fun j f t hj ht => by
        obtain ⟨f', hf', ho, hty, -⟩ := fieldsB_get hfb ht
        obtain rfl := Option.some.inj (hj.symm.trans hf')
        have h5 := hf j f (by rw [← Array.getElem?_toList]; exact hj)
        have hjl : j < fields.toList.length := (List.getElem?_eq_some_iff.1 hj).1
        have hjx : j < xs.length := by rw [hxl]; simpa using hjl
        rw [cells_w hty, List.getElem?_eq_getElem hjx] at h5
        refine ih _ _ hty (fld_noM hfs (List.mem_of_getElem? ht)) h5 (LightD.each (k := j) hw ?_ ?_)
        · rw [List.getElem?_map, hj]; rfl
        · rw [List.getElem?_map, List.getElem?_eq_getElem hjx]; rfl) hcl
      exact ⟨.a ds, S, fs, rfl, hfs, by simpa using hds⟩
    | row E =>
      obtain ⟨hu, ⟨te, hte⟩, -⟩ := row_row hT
      rcases DataW.trod_slice hu h with ⟨rfl, hx⟩ | ⟨a, len, cap, elems, rest, n, hn, rfl, hx, hb, hl, hm, hlen, hel, -⟩
      · exact ⟨.r [], E, te, none, 0, rfl, hte, rfl, by simp, by simp, by simp [maxLen], by simp [RdE]⟩
      · obtain rfl : fuel = n := by omega
        have hwd := tyOf_pos hte
        rw [cells_w hte] at hel
        have hw := hL
        rw [hx] at hw
        simp only [LightD, DataW.weights, hu, List.mem_cons, List.mem_append] at hw
        have hlen2 : len ≤ LM te := by
          have := hw _ (.inl rfl)
          rw [reach_eqD] at this
          have hbe : Try.prog.bytesOf E = te.by := by
            obtain ⟨i, hi, -⟩ := row_info hte
            simp [Program.bytesOf, hi, row_bytes hte hi]
          refine (Nat.le_div_iff_mul_le (by_pos hte).1).2 ?_
          simp [hbe] at this
          have h2 : len * te.by ≤ (elems.length + rest.length) * te.by := Nat.mul_le_mul_right _ (by omega)
          exact Nat.le_trans h2 this
        have spot : 0 < len → a.spot = none := fun h0 => by
          have h2 := hel 0 h0
          rw [List.getElem?_eq_getElem (by omega)] at h2
          cases hc0 : W.cells? base (a.add (0 * te.w)) te.w with
          | none => rw [hc0] at h2; cases h2
          | some cs0 =>
            obtain ⟨_, hcl0, hat0⟩ := World.cells?_some hc0
            have hp : 0 < cs0.length := by omega
            have := hat0 0 (by omega)
            rw [List.getElem?_eq_getElem hp] at this
            exact spot_noneD (a := a) (v := cs0[0]) (by simpa [Addr.add] using this)
        have each : ∀ i, i < len → ∃ y, RdEl W (fun _ => True) y te (some a) i := fun i hi => by
          have h1 := hel i hi
          rw [List.getElem?_eq_getElem (by omega)] at h1
          cases hc : W.cells? base (a.add (i * te.w)) te.w with
          | none => rw [hc] at h1; cases h1
          | some cs' =>
            rw [hc] at h1
            obtain ⟨_, hcl, hat⟩ := World.cells?_some hc
            obtain ⟨y, hy⟩ := ih cs' _ hte (row_noM hT hte) h1 (fun n hn => hw n (.inr (.inl (weightsAll_memD (List.mem_map.2 ⟨_, List.getElem_mem (by omega), rfl⟩) n hn))))
            have hsp := spot (by omega)
            obtain ⟨b, o, sp⟩ := a
            obtain rfl : sp = none := hsp
            have add : ∀ k, (Addr.add ⟨b, o, none⟩ (i * te.w)).add k = ⟨b, o + i * te.w + k, none⟩ := fun k => by
              unfold Addr.add
              split <;> split <;> simp <;> omega
            refine ⟨y, b, o, cs', rfl, trivial, fun j v hj => ?_, hy⟩
            have hj' := (List.getElem?_eq_some_iff.1 hj).1
            have := hat j (by omega)
            rw [add, hj] at this
            exact this
        have pick : ∀ n, n ≤ len → ∃ l : List D, l.length = n ∧ ∀ i (h : i < l.length), RdEl W (fun _ => True) l[i] te (some a) i := by
          intro n
          induction n with
          | zero => exact fun _ => ⟨[], rfl, fun i hi => by simp at hi⟩
          | succ n ihn =>
            intro hn
            obtain ⟨l, hl1, hl2⟩ := ihn (by omega)
            obtain ⟨t, ht⟩ := each n (by omega)
            refine ⟨l ++ [t], by simp [hl1], fun i hi => ?_⟩
            by_cases hin : i < l.length
            · rw [List.getElem_append_left hin]; exact hl2 i hin
            · obtain rfl : i = l.length := by simp at hi; omega
              rw [List.getElem_append_right (by omega)]
              simp [hl1]
              exact ht
        obtain ⟨l, hl1, hl2⟩ := pick len (Nat.le_refl _)
        exact ⟨.r l, E, te, some a, cap, rfl, hte, by rw [hl1], by omega, by omega, hm, rdE_iff.2 fun j hj => by rw [Nat.zero_add]; exact hl2 j hj⟩

theorem open_D {T : TypeId} {t : Ty} (hT : tyOf T = some t) (hM : isMp t = false) {v : Value} {d : DataW H} {p : List MemPlace} {b0 : Nat} {r : Reach} (hv : Value.okWide Try.prog W r b0 T v) (h : DataW.Trod enc Try.prog W base spare held T v d p) (hL : LightD T d) :
    ∃ x cs, Pack t cs v ∧ Rd W (fun b => b < W.heap.size) x t cs := by
  obtain ⟨fuel, hf⟩ := h
  obtain ⟨y, hy⟩ := open_recD fuel _ _ hT hM hf hL
  refine ⟨y, v.cells.toList, ?_, Rd.keeps (fun b o _ ho => ⟨ho, lt_of_heap ho⟩) _ hy⟩
  cases t with
  | int k => obtain ⟨n, rfl⟩ := okWide_int (row_int hT).1 hv; rfl
  | bool => obtain ⟨n, rfl⟩ := okWide_bool (row_bool hT).1 hv; rfl
  | str => obtain ⟨n, rfl⟩ := okWide_string (row_str hT).1 hv; rfl
  | map K V => cases hM
  | row E => obtain ⟨A, l, c, rfl⟩ := okWide_slice (row_row hT).1 hv; rfl
  | st S =>
    obtain ⟨fields, fs, zc, i, hu, -⟩ := row_st hT
    obtain ⟨cs, rfl, -⟩ := okWide_struct hu hv
    simp [Pack, Value.cells]
end

def ArgsV (W : World) : List Ar → List Value → List D → Prop
  | [], vs, ds => vs = [] ∧ ds = []
  | .val t :: l, vs, ds => ∃ v r d ds', vs = v :: r ∧ ds = d :: ds' ∧ (∃ cs, Pack t cs v ∧ Rd W (FFD (fun _ => True) (fun _ => none) []) d t cs) ∧ ArgsV W l r ds'
  | _ :: _, _, _ => False
theorem ArgsV.ok {W : World} {V : List Value} : ∀ {i : Nat} {ar : List Ar} {vs : List Value} {ds : List D}, ArgsV W ar vs ds → ArgsOk V (fun _ => True) (fun _ => none) W (idx i ar) vs ds ∧ vs.length = ar.length
  | _, [], vs, ds, h => ⟨h, by rw [h.1]; rfl⟩
  | i, .val t :: l, vs, ds, ⟨v, r, d, ds', e1, e2, h1, h⟩ => by
    obtain ⟨h2, h3⟩ := ArgsV.ok (V := V) (i := i + 1) h
    exact ⟨⟨v, r, d, ds', e1, e2, h1, h2⟩, by rw [e1]; simp [h3]⟩
  | _, .ref _ :: _, _, _, h => h.elim
  | _, .rref _ :: _, _, _, h => h.elim
  | _, .own _ :: _, _, _, h => h.elim
  | _, .mref _ :: _, _, _, h => h.elim
  | _, .nils :: _, _, _, h => h.elim
  | _, .nilp :: _, _, _, h => h.elim
  | _, .fn _ _ :: _, _, _, h => h.elim
  | _, .cell _ _ :: _, _, _, h => h.elim
theorem law_calls {ct : Ct} {g : List D → Option (List D)} (h : FOk ct g) (hrs : ct.rs = [(.bool, false)]) (hvr : ct.vr = []) {W : World} {vs : List Value} {ds : List D} (ha : ArgsV W ct.ar vs ds) (hg : g ds = some [.b true]) :
    Calls Try.prog ct.f vs.toArray W fun e W' => e = .returned (.bool true) ∧ But Nil W W' := by
  obtain ⟨h1, h2⟩ := ArgsV.ok (V := vs ++ []) (i := 0) ha
  refine (h.call (fun _ => True) (fun _ => none) W vs [] ds _ hg (by constructor <;> simp) h2 (by simpa [Ct.all, hvr, idx] using h1)).mono ?_
  rintro e W' (⟨T, -, ho, -⟩ | ⟨rs, p', rfl, hb, hr, -⟩)
  · cases ho
  rw [hrs] at hr
  obtain ⟨v, r, d, ds', rfl, hd, ⟨cs, hp, hc⟩, rfl⟩ := hr
  simp at hd
  obtain ⟨rfl, rfl⟩ := hd
  obtain ⟨e1, e2⟩ : D.b true = .b true ∧ cs = [.bool true] := ⟨rfl, by
    have hc' : Rd W' (FFD (fun _ => True) p' []) (.b true) .bool cs := hc
    exact hc'.2⟩
  subst e2
  have hpv : [Value.bool true] = [v] := hp
  injection hpv with hpv
  subst hpv
  exact ⟨rfl, hb.but.mono fun i hi _ => by obtain ⟨x, hx⟩ := hi; cases hx⟩
end Go.Proofs.Ytinclokohcommaa

