/-
  Lemmas of the walk and plain laws, put together. No condition.
-/
import Derived.ChangeArms
import Derived.OpenShut
import Derived.ProofKit
import Derived.SizedLaws
import Derived.Test.YtloekfnlidclcaaRows
import Derived.Test.YtloekfnlidclcaaZd
namespace Go.Proofs.Ytloekfnlidclcaa
open Go.ChangeShapes Go.WideShapes Go.ChangeAt Go.RowKit
set_option linter.unusedVariables false
set_option maxRecDepth 100000

theorem own_knobD : ownKnob Try.prog.godebug = none := by kernel_rfl
theorem laid_outD : laidOutB Try.prog = true := by kernel_rfl

section
variable {H : Type} {enc : TypeId × Value → H} {W : World} {base : Nat} {spare : Nat → Bool} {held : Bool}

def LightD (t : TypeId) (d : DataW H) : Prop := ∀ n ∈ d.weights Try.prog t, n ≤ reachBytes

theorem weightsAll_memD {e : TypeId} : ∀ {l : List (DataW H)} {d : DataW H}, d ∈ l → ∀ n ∈ d.weights Try.prog e, n ∈ DataW.weightsAll Try.prog e l
  | [], _, h, _, _ => by cases h
  | x :: l, d, h, n, hn => by
    simp only [DataW.weightsAll, List.mem_append]
    rcases List.mem_cons.1 h with rfl | h
    · exact .inl hn
    · exact .inr (weightsAll_memD h n hn)

theorem LightD.each {ts : List TypeId} {l : List (DataW H)} {k : Nat} {t : TypeId} {d : DataW H} (h : ∀ n ∈ DataW.weightsEach Try.prog ts l, n ≤ reachBytes) (ht : ts[k]? = some t) (hd : l[k]? = some d) : LightD t d := fun n hn =>
  h n (DataW.weights_mem_each ht hd n hn)

theorem reach_eqD : reachBytes = LIM := rfl

theorem cells_w {T : TypeId} {t : Ty} (h : tyOf T = some t) : Try.prog.cellsOf T = t.w := by
  obtain ⟨i, hi, h1, -⟩ := row_info h
  simp [Program.cellsOf, hi, h1]

theorem rng_wf {k : IntKind} {t : TypeId} (ht : tyOf t = some (.int k)) {n : Int} (h : (Lit.int k n).wf = true) : rngB k n = true := by
  have h0 := (row_int ht).2.1
  cases k <;> first | (simp [rngB] at h0; done) | (simp [Lit.wf, IntKind.min, IntKind.max, IntKind.signed, IntKind.bits] at h; simp [rngB]; omega)

theorem spot_noneD {a : Addr} {v : Value} (h : W.cell? a = some v) : a.spot = none := by
  unfold World.cell? at h
  split at h
  · split at h
    · cases h
    · rename_i hs; simpa using hs
  · cases h

theorem rdF_of {F : Nat → Prop} {cs : List Value} : ∀ {fl : List Field} {fs : List Ty} {o : Nat}, fieldsB fl fs o = true → (∀ (j : Nat) (f : Field) (t : Ty), fl[j]? = some f → fs[j]? = some t → ∃ y, Rd W F y t ((cs.drop f.offset).take t.w)) → cs.length = o + widths fs → ∃ ds, RdF W F ds fs (cs.drop o)
  | [], [], o, _, _, hl => by
    simp [widths] at hl
    exact ⟨[], rfl, by rw [List.drop_eq_nil_iff]; omega⟩
  | f :: l, t :: ts, o, hb, hf, hl => by
    simp only [fieldsB, Bool.and_eq_true] at hb
    obtain ⟨⟨⟨h1, -⟩, -⟩, h3⟩ := hb
    have ho := Nat.eq_of_beq_eq_true h1
    rw [widths_cons] at hl
    obtain ⟨ds, hds⟩ := rdF_of h3 (fun j f' t' hj ht => hf (j + 1) f' t' (by simpa using hj) (by simpa using ht)) (by omega)
    obtain ⟨y, hy⟩ := hf 0 f t rfl rfl
    refine ⟨y :: ds, t, ts, (cs.drop o).take t.w, cs.drop (o + t.w), rfl, ?_, by rw [← ho]; exact hy, hds⟩
    rw [← List.drop_drop, List.take_append_drop]
  | [], _ :: _, o, hb, _, _ => by cases hb
  | _ :: _, [], o, hb, _, _ => by cases hb

theorem open_recD : ∀ (fuel : Nat) {T : TypeId} {t : Ty} (cs : List Value) (x : DataW H × List MemPlace), tyOf T = some t → isMp t = false → DataW.trod enc Try.prog W base spare held fuel T cs = some x → LightD T x.1 → ∃ y, Rd W (fun _ => True) y t cs := by
  intro fuel
  induction fuel with
  | zero => intro T t cs x _ _ h; simp [DataW.trod] at h
  | succ fuel ih =>
    intro T t cs x hT hM h hL
    cases t with
    | map K V => cases hM
    | int k =>
      obtain ⟨n, rfl, -, hw⟩ := DataW.trod_int (row_int hT).1 h
      exact ⟨.i n, k, rfl, rfl, rng_wf hT hw⟩
    | bool =>
      obtain ⟨b, rfl, -⟩ := DataW.trod_bool (row_bool hT).1 h
      exact ⟨.b b, rfl, rfl⟩
    | str =>
      obtain ⟨s, rfl, rfl, -⟩ := DataW.trod_string (row_str hT).1 h
      have := hL s.data.toList.length (by simp [DataW.weights])
      exact ⟨.s s, rfl, rfl, by rw [reach_eqD] at this; simpa using this⟩
    | st S =>
      obtain ⟨fields, fs, zc, i, hu, hfs, hfb, hi, hsz, -, -, -, -⟩ := row_st hT
      obtain ⟨xs, n, hn, hx, hlen, hxl, hf⟩ := DataW.trod_struct hu h
      obtain rfl : fuel = n := by omega
      have hw : ∀ n ∈ DataW.weightsEach Try.prog (fields.toList.map (·.type)) (xs.map (·.1)), n ≤ reachBytes := fun n hn => hL n (by rw [hx]; simp only [DataW.weights, hu]; exact hn)
      have hcl : cs.length = 0 + widths fs := by rw [hlen, cells_w hT, (fld_okD hfs).1]; omega
      obtain ⟨ds, hds⟩ := rdF_of (W := W) (F := fun _ => True) hfb (fun j f t hj ht => by
        obtain ⟨f', hf', ho, hty, -⟩ := fieldsB_get hfb ht
        obtain rfl := Option.some.inj (hj.symm.trans hf')
        have h5 := hf j f (by rw [← Array.getElem?_toList]; exact hj)
        have hjl : j < fields.toList.length := (List.getElem?_eq_some_iff.1 hj).1
        have hjx : j < xs.length := by rw [hxl]; simpa using hjl
        rw [cells_w hty, List.getElem?_eq_getElem hjx] at h5
        refine ih _ _ hty (fld_noM hfs (List.mem_of_getElem? ht)) h5 (LightD.each (k := j) hw ?_ ?_)
        · rw [List.getElem?_map, hj]; rfl
        · rw [List.getElem?_map, List.getElem?_eq_getElem hjx]; rfl) hcl
      exact ⟨.a ds, S, fs, rfl, hfs, by simpa using hds⟩
    | row E =>
      obtain ⟨hu, ⟨te, hte⟩, -⟩ := row_row hT
      rcases DataW.trod_slice hu h with ⟨rfl, hx⟩ | ⟨a, len, cap, elems, rest, n, hn, rfl, hx, hb, hl, hm, hlen, hel, -⟩
      · exact ⟨.r [], E, te, none, 0, rfl, hte, rfl, by simp, by simp, by simp [maxLen], by simp [RdE]⟩
      · obtain rfl : fuel = n := by omega
        have hwd := tyOf_pos hte
        rw [cells_w hte] at hel
        have hw := hL
        rw [hx] at hw
        simp only [LightD, DataW.weights, hu, List.mem_cons, List.mem_append] at hw
        have hlen2 : len ≤ LM te := by
          have := hw _ (.inl rfl)
          rw [reach_eqD] at this
          have hbe : Try.prog.bytesOf E = te.by := by
            obtain ⟨i, hi, -⟩ := row_info hte
            simp [Program.bytesOf, hi, row_bytes hte hi]
          refine (Nat.le_div_iff_mul_le (by_pos hte).1).2 ?_
          simp [hbe] at this
          have h2 : len * te.by ≤ (elems.length + rest.length) * te.by := Nat.mul_le_mul_right _ (by omega)
          exact Nat.le_trans h2 this
        have spot : 0 < len → a.spot = none := fun h0 => by
          have h2 := hel 0 h0
          rw [List.getElem?_eq_getElem (by omega)] at h2
          cases hc0 : W.cells? base (a.add (0 * te.w)) te.w with
          | none => rw [hc0] at h2; cases h2
          | some cs0 =>
            obtain ⟨_, hcl0, hat0⟩ := World.cells?_some hc0
            have hp : 0 < cs0.length := by omega
            have := hat0 0 (by omega)
            rw [List.getElem?_eq_getElem hp] at this
            exact spot_noneD (a := a) (v := cs0[0]) (by simpa [Addr.add] using this)
        have each : ∀ i, i < len → ∃ y, RdEl W (fun _ => True) y te (some a) i := fun i hi => by
          have h1 := hel i hi
          rw [List.getElem?_eq_getElem (by omega)] at h1
          cases hc : W.cells? base (a.add (i * te.w)) te.w with
          | none => rw [hc] at h1; cases h1
          | some cs' =>
            rw [hc] at h1
            obtain ⟨_, hcl, hat⟩ := World.cells?_some hc
            obtain ⟨y, hy⟩ := ih cs' _ hte (row_noM hT hte) h1 (fun n hn => hw n (.inr (.inl (weightsAll_memD (List.mem_map.2 ⟨_, List.getElem_mem (by omega), rfl⟩) n hn))))
            have hsp := spot (by omega)
            obtain ⟨b, o, sp⟩ := a
            obtain rfl : sp = none := hsp
            have add : ∀ k, (Addr.add ⟨b, o, none⟩ (i * te.w)).add k = ⟨b, o + i * te.w + k, none⟩ := fun k => by
              unfold Addr.add
              split <;> split <;> simp <;> omega
            refine ⟨y, b, o, cs', rfl, trivial, fun j v hj => ?_, hy⟩
            have hj' := (List.getElem?_eq_some_iff.1 hj).1
            have := hat j (by omega)
            rw [add, hj] at this
            exact this
        have pick : ∀ n, n ≤ len → ∃ l : List D, l.length = n ∧ ∀ i (h : i < l.length), RdEl W (fun _ => True) l[i] te (some a) i := by
          intro n
          induction n with
          | zero => exact fun _ => ⟨[], rfl, fun i hi => by simp at hi⟩
          | succ n ihn =>
            intro hn
            obtain ⟨l, hl1, hl2⟩ := ihn (by omega)
            obtain ⟨t, ht⟩ := each n (by omega)
            refine ⟨l ++ [t], by simp [hl1], fun i hi => ?_⟩
            by_cases hin : i < l.length
            · rw [List.getElem_append_left hin]; exact hl2 i hin
            · obtain rfl : i = l.length := by simp at hi; omega
              rw [List.getElem_append_right (by omega)]
              simp [hl1]
              exact ht
        obtain ⟨l, hl1, hl2⟩ := pick len (Nat.le_refl _)
        exact ⟨.r l, E, te, some a, cap, rfl, hte, by rw [hl1], by omega, by omega, hm, rdE_iff.2 fun j hj => by rw [Nat.zero_add]; exact hl2 j hj⟩

theorem open_D {T : TypeId} {t : Ty} (hT : tyOf T = some t) (hM : isMp t = false) {v : Value} {d : DataW H} {p : List MemPlace} {b0 : Nat} {r : Reach} (hv : Value.okWide Try.prog W r b0 T v) (h : DataW.Trod enc Try.prog W base spare held T v d p) (hL : LightD T d) :
    ∃ x cs, Pack t cs v ∧ Rd W (fun b => b < W.heap.size) x t cs := by
  obtain ⟨fuel, hf⟩ := h
  obtain ⟨y, hy⟩ := open_recD fuel _ _ hT hM hf hL
  refine ⟨y, v.cells.toList, ?_, Rd.keeps (fun b o _ ho => ⟨ho, lt_of_heap ho⟩) _ hy⟩
  cases t with
  | int k => obtain ⟨n, rfl⟩ := okWide_int (row_int hT).1 hv; rfl
  | bool => obtain ⟨n, rfl⟩ := okWide_bool (row_bool hT).1 hv; rfl
  | str => obtain ⟨n, rfl⟩ := okWide_string (row_str hT).1 hv; rfl
  | map K V => cases hM
  | row E => obtain ⟨A, l, c, rfl⟩ := okWide_slice (row_row hT).1 hv; rfl
  | st S =>
    obtain ⟨fields, fs, zc, i, hu, -⟩ := row_st hT
    obtain ⟨cs, rfl, -⟩ := okWide_struct hu hv
    simp [Pack, Value.cells]
end

def ArgsV (W : World) : List Ar → List Value → List D → Prop
  | [], vs, ds => vs = [] ∧ ds = []
  | .val t :: l, vs, ds => ∃ v r d ds', vs = v :: r ∧ ds = d :: ds' ∧ (∃ cs, Pack t cs v ∧ Rd W (FFD (fun _ => True) (fun _ => none) []) d t cs) ∧ ArgsV W l r ds'
  | _ :: _, _, _ => False
theorem ArgsV.ok {W : World} {V : List Value} : ∀ {i : Nat} {ar : List Ar} {vs : List Value} {ds : List D}, ArgsV W ar vs ds → ArgsOk V (fun _ => True) (fun _ => none) W (idx i ar) vs ds ∧ vs.length = ar.length
  | _, [], vs, ds, h => ⟨h, by rw [h.1]; rfl⟩
  | i, .val t :: l, vs, ds, ⟨v, r, d, ds', e1, e2, h1, h⟩ => by
    obtain ⟨h2, h3⟩ := ArgsV.ok (V := V) (i := i + 1) h
    exact ⟨⟨v, r, d, ds', e1, e2, h1, h2⟩, by rw [e1]; simp [h3]⟩
  | _, .ref _ :: _, _, _, h => h.elim
  | _, .rref _ :: _, _, _, h => h.elim
  | _, .own _ :: _, _, _, h => h.elim
  | _, .mref _ :: _, _, _, h => h.elim
  | _, .nils :: _, _, _, h => h.elim
  | _, .nilp :: _, _, _, h => h.elim
  | _, .fn _ _ :: _, _, _, h => h.elim
  | _, .cell _ _ :: _, _, _, h => h.elim
theorem law_calls {ct : Ct} {g : List D → Option (List D)} (h : FOk ct g) (hrs : ct.rs = [(.bool, false)]) (hvr : ct.vr = []) {W : World} {vs : List Value} {ds : List D} (ha : ArgsV W ct.ar vs ds) (hg : g ds = some [.b true]) :
    Calls Try.prog ct.f vs.toArray W fun e W' => e = .returned (.bool true) ∧ But Nil W W' := by
  obtain ⟨h1, h2⟩ := ArgsV.ok (V := vs ++ []) (i := 0) ha
  refine (h.call (fun _ => True) (fun _ => none) W vs [] ds _ hg (by constructor <;> simp) h2 (by simpa [Ct.all, hvr, idx] using h1)).mono ?_
  rintro e W' (⟨T, -, ho, -⟩ | ⟨rs, p', rfl, hb, hr, -⟩)
  · cases ho
  rw [hrs] at hr
  obtain ⟨v, r, d, ds', rfl, hd, ⟨cs, hp, hc⟩, rfl⟩ := hr
  simp at hd
  obtain ⟨rfl, rfl⟩ := hd
  obtain ⟨e1, e2⟩ : D.b true = .b true ∧ cs = [.bool true] := ⟨rfl, by
    have hc' : Rd W' (FFD (fun _ => True) p' []) (.b true) .bool cs := hc
    exact hc'.2⟩
  subst e2
  have hpv : [Value.bool true] = [v] := hp
  injection hpv with hpv
  subst hpv
  exact ⟨rfl, hb.but.mono fun i hi _ => by obtain ⟨x, hx⟩ := hi; cases hx⟩
end Go.Proofs.Ytloekfnlidclcaa

