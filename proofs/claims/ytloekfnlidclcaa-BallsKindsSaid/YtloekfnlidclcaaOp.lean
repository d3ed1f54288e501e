/-
  What the claim's form hands in as a term, or as a slice of terms, is a term, or a row of terms. No condition.
-/
import Derived.Test.YtloekfnlidclcaaTm
import Derived.ProofKit
import Derived.SizedLaws
import Derived.ChangeArms
import Derived.OpenShut
namespace Go.Proofs.Ytloekfnlidclcaa
open Go.ChangeShapes Go.WideShapes Go.ChangeAt Go.RowKit
set_option linter.unusedVariables false

section
variable {H : Type} {enc : TypeId × Value → H} {W : World} {base : Nat} {spare : Nat → Bool} {held : Bool}

def Light (t : TypeId) (d : DataW H) : Prop := ∀ n ∈ d.weights Try.prog t, n ≤ reachBytes

theorem weightsAll_mem {e : TypeId} : ∀ {l : List (DataW H)} {d : DataW H}, d ∈ l → ∀ n ∈ d.weights Try.prog e, n ∈ DataW.weightsAll Try.prog e l
  | [], _, h, _, _ => by cases h
  | x :: l, d, h, n, hn => by
    simp only [DataW.weightsAll, List.mem_append]
    rcases List.mem_cons.1 h with rfl | h
    · exact .inl hn
    · exact .inr (weightsAll_mem h n hn)

theorem Light.each {ts : List TypeId} {l : List (DataW H)} {k : Nat} {t : TypeId} {d : DataW H} (h : ∀ n ∈ DataW.weightsEach Try.prog ts l, n ≤ reachBytes) (ht : ts[k]? = some t) (hd : l[k]? = some d) : Light t d := fun n hn =>
  h n (DataW.weights_mem_each ht hd n hn)

theorem reach_eq : reachBytes = 140737488351232 := rfl

noncomputable def TermFields : Array Field := match Try.prog.underlying 24 with
  | some (.struct fs) => fs
  | _ => #[]
theorem termU : Try.prog.underlying 24 = some (.struct TermFields) := by kernel_rfl
theorem termC : Try.prog.cellsOf 24 = 4 := by kernel_rfl
theorem termB : Try.prog.bytesOf 24 = 56 := by kernel_rfl
theorem termF : (TermFields.toList.map fun f => (f.type, f.offset, Try.prog.cellsOf f.type)) = [(3, 0, 1), (2, 1, 1), (9, 2, 1), (22, 3, 1)] := by kernel_rfl

theorem field_at {j : Nat} {t o c : Nat} (h : (TermFields.toList.map fun f => (f.type, f.offset, Try.prog.cellsOf f.type))[j]? = some (t, o, c)) : ∃ f, TermFields[j]? = some f ∧ f.type = t ∧ f.offset = o ∧ Try.prog.cellsOf f.type = c := by
  rw [List.getElem?_map] at h
  cases hf : TermFields.toList[j]? with
  | none => rw [hf] at h; cases h
  | some f =>
    rw [hf] at h
    simp only [Option.map_some, Option.some.injEq, Prod.mk.injEq] at h
    exact ⟨f, by rw [← Array.getElem?_toList]; exact hf, h.1, h.2.1, h.2.2⟩

theorem spot_none {a : Addr} {v : Value} (h : W.cell? a = some v) : a.spot = none := by
  unfold World.cell? at h
  split at h
  · split at h
    · cases h
    · rename_i hs; simpa using hs
  · cases h

theorem open_rec : ∀ (fuel : Nat),
    (∀ (cs : List Value) (x : DataW H × List MemPlace), DataW.trod enc Try.prog W base spare held fuel 24 cs = some x → Light 24 x.1 → ∃ t, TmIn W (fun _ => True) t (.agg cs.toArray)) ∧
    (∀ (cs : List Value) (x : DataW H × List MemPlace), DataW.trod enc Try.prog W base spare held fuel 22 cs = some x → Light 22 x.1 → ∃ A cap, ∃ l : List Tm, cs = [.slice A l.length cap] ∧ l.length ≤ cap ∧ l.length ≤ 140737488351232 ∧ cap ≤ maxLen ∧ ArgsIn W (fun _ => True) l A 0) := by
  intro fuel
  induction fuel with
  | zero => exact ⟨fun cs x h => by simp [DataW.trod] at h, fun cs x h => by simp [DataW.trod] at h⟩
  | succ fuel ih =>
    refine ⟨fun cs x h hL => ?_, fun cs x h hL => ?_⟩
    · obtain ⟨xs, n, hn, hx, hlen, hxl, hf⟩ := DataW.trod_struct termU h
      obtain rfl : fuel = n := by omega
      rw [termC] at hlen
      have hw : ∀ n ∈ DataW.weightsEach Try.prog (TermFields.toList.map (·.type)) (xs.map (·.1)), n ≤ reachBytes := fun n hn => hL n (by rw [hx]; simp only [DataW.weights, termU]; exact hn)
      match cs, hlen with
      | [c0, c1, c2, c3], _ =>
        have get : ∀ (j t o c : Nat), (TermFields.toList.map fun f => (f.type, f.offset, Try.prog.cellsOf f.type))[j]? = some (t, o, c) → ∃ y, xs[j]? = some y ∧ DataW.trod enc Try.prog W base spare held fuel t (([c0, c1, c2, c3].drop o).take c) = some y ∧ Light t y.1 := fun j t o c he => by
          obtain ⟨f, h1, h2, h3, h4⟩ := field_at he
          have h5 := hf j f h1
          have hjx : j < xs.length := by rw [hxl]; exact (Array.getElem?_eq_some_iff.1 h1).1
          refine ⟨xs[j], List.getElem?_eq_getElem hjx, ?_, ?_⟩
          · rw [← h2, ← h3, ← h4, h5, List.getElem?_eq_getElem hjx]
          · refine Light.each (k := j) hw ?_ ?_
            · rw [List.getElem?_map, Array.getElem?_toList, h1]; simp [h2]
            · rw [List.getElem?_map, List.getElem?_eq_getElem hjx]; rfl
        obtain ⟨y0, -, t0, -⟩ := get 0 3 0 1 (by rw [termF]; rfl)
        obtain ⟨y1, -, t1, -⟩ := get 1 2 1 1 (by rw [termF]; rfl)
        obtain ⟨y2, -, t2, l2⟩ := get 2 9 2 1 (by rw [termF]; rfl)
        obtain ⟨y3, -, t3, l3⟩ := get 3 22 3 1 (by rw [termF]; rfl)
        obtain ⟨k, e0, -, w0⟩ := DataW.trod_int Try.underlying3 t0
        obtain ⟨m, e1, -, w1⟩ := DataW.trod_int Try.underlying2 t1
        obtain ⟨s, e2, hx2, w2⟩ := DataW.trod_string Try.underlying9 t2
        obtain ⟨A, cap, l, e3, h1, h2, h3, h4⟩ := ih.2 _ _ t3 l3
        have hs : s.size ≤ 140737488351232 := by
          have := l2 s.data.toList.length (by rw [hx2]; simp [DataW.weights])
          rw [reach_eq] at this
          simpa using this
        simp only [List.drop_zero, List.drop_succ_cons, List.take_succ_cons, List.take_zero, List.cons.injEq, and_true] at e0 e1 e2 e3
        subst e0 e1 e2 e3
        refine ⟨.mk k m s l, ?_⟩
        unfold TmIn
        refine ⟨A, l.length, cap, rfl, ?_, ?_, hs, rfl, h1, h2, h3, h4⟩
        · exact bounds_i64 w0
        · exact bounds_i64 w1
    · rcases DataW.trod_slice Try.underlying22 h with ⟨rfl, hx⟩ | ⟨a, len, cap, elems, rest, n, hn, rfl, hx, hb, hl, hm, hlen, hel, -⟩
      · exact ⟨none, 0, [], rfl, by simp, by simp, by unfold maxLen; omega, by unfold ArgsIn; trivial⟩
      · obtain rfl : fuel = n := by omega
        rw [termC] at hel
        have hw := hL
        rw [hx] at hw
        simp only [Light, DataW.weights, Try.underlying22, List.mem_cons, List.mem_append] at hw
        have hlen2 : len ≤ 140737488351232 := by
          have := hw _ (.inl rfl)
          rw [reach_eq, termB] at this
          simp at this
          omega
        have each : ∀ i, i < len → ∃ t, ArgIn W (fun _ => True) t (some a) i := fun i hi => by
          have h1 := hel i hi
          rw [List.getElem?_eq_getElem (by omega)] at h1
          cases hc : W.cells? base (a.add (i * 4)) 4 with
          | none => rw [hc] at h1; cases h1
          | some cs' =>
            rw [hc] at h1
            obtain ⟨_, hcl, hat⟩ := World.cells?_some hc
            obtain ⟨t, ht⟩ := ih.1 cs' _ h1 (fun n hn => hw n (.inr (.inl (weightsAll_mem (List.mem_map.2 ⟨_, List.getElem_mem (by omega), rfl⟩) n hn))))
            match cs', hcl with
            | [c0, c1, c2, c3], _ =>
              have hsp : a.spot = none := by
                by_cases hi0 : i = 0
                · subst hi0
                  have := hat 0 (by omega)
                  exact spot_none (a := a) (by simpa [Addr.add] using this)
                · have h2 := hel 0 (by omega)
                  rw [List.getElem?_eq_getElem (by omega)] at h2
                  cases hc0 : W.cells? base (a.add (0 * 4)) 4 with
                  | none => rw [hc0] at h2; cases h2
                  | some cs0 =>
                    obtain ⟨_, hcl0, hat0⟩ := World.cells?_some hc0
                    match cs0, hcl0 with
                    | [d0, d1, d2, d3], _ =>
                      have := hat0 0 (by omega)
                      exact spot_none (a := a) (by simpa [Addr.add] using this)
              obtain ⟨b, o, sp⟩ := a
              obtain rfl : sp = none := hsp
              have add : ∀ k, (Addr.add ⟨b, o, none⟩ (i * 4)).add k = ⟨b, o + i * 4 + k, none⟩ := fun k => by
                unfold Addr.add
                split <;> split <;> simp <;> omega
              refine ⟨t, b, o, c0, c1, c2, c3, rfl, trivial, ?_, ?_, ?_, ?_, ht⟩
              · have := hat 0 (by omega); rw [add] at this; simpa using this
              · have := hat 1 (by omega); rw [add] at this; simpa using this
              · have := hat 2 (by omega); rw [add] at this; simpa using this
              · have := hat 3 (by omega); rw [add] at this; simpa using this
        have pick : ∀ n, n ≤ len → ∃ l : List Tm, l.length = n ∧ ∀ i (h : i < l.length), ArgIn W (fun _ => True) l[i] (some a) i := by
          intro n
          induction n with
          | zero => exact fun _ => ⟨[], rfl, fun i hi => by simp at hi⟩
          | succ n ihn =>
            intro hn
            obtain ⟨l, hl1, hl2⟩ := ihn (by omega)
            obtain ⟨t, ht⟩ := each n (by omega)
            refine ⟨l ++ [t], by simp [hl1], fun i hi => ?_⟩
            by_cases hin : i < l.length
            · rw [List.getElem_append_left hin]; exact hl2 i hin
            · obtain rfl : i = l.length := by simp at hi; omega
              rw [List.getElem_append_right (by omega)]
              simp [hl1]
              exact ht
        obtain ⟨l, hl1, hl2⟩ := pick len (Nat.le_refl _)
        exact ⟨some a, cap, l, by rw [hl1], by omega, by omega, hm, argsIn_iff.2 fun j hj => by rw [Nat.zero_add]; exact hl2 j hj⟩

theorem open_term {v : Value} {d : DataW H} {p : List MemPlace} {b0 : Nat} {r : Reach} (hv : Value.okWide Try.prog W r b0 24 v) (h : DataW.Trod enc Try.prog W base spare held 24 v d p) (hL : Light 24 d) : ∃ t, TmAt W W.heap.size t v := by
  obtain ⟨cs, rfl, hsz⟩ := okWide_struct termU hv
  obtain ⟨fuel, hf⟩ := h
  obtain ⟨t, ht⟩ := (open_rec fuel).1 _ _ hf hL
  have ht' : TmIn W (fun _ => True) t (.agg cs) := by simpa [Value.cells] using ht
  exact ⟨t, TmIn.keeps (fun k o hk _ => ⟨hk, .inl (lt_of_heap hk)⟩) _ ht'⟩
end
end Go.Proofs.Ytloekfnlidclcaa

