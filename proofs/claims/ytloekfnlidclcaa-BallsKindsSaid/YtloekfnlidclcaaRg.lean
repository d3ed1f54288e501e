/-
  A region that draws its order and whose operations only read and make memory: one run of the operations in the text's order serves every order. Plain laws on the walk. No condition.
-/
import Derived.Test.YtloekfnlidclcaaBt
import Derived.StillTail
namespace Go.Proofs.Ytloekfnlidclcaa
open Go.RowKit
set_option linter.unusedVariables false

/-- What is known of a value: it hangs on the pins (the new variables' blocks, by slot) and on the world. -/
abbrev Pd := (Nat → Option Nat) → World → Value → Prop

structure Ext (p : Nat → Option Nat) (w : World) (p' : Nat → Option Nat) (w' : World) : Prop where
  but : But Nil w w'
  pin : ∀ b, b < w.heap.size → p' b = p b

theorem Ext.refl (p : Nat → Option Nat) (w : World) : Ext p w p w := ⟨But.refl _ _, fun _ _ => rfl⟩
theorem Ext.trans {p p' p'' : Nat → Option Nat} {w w' w'' : World} (h : Ext p w p' w') (k : Ext p' w' p'' w'') : Ext p w p'' w'' :=
  ⟨h.but.trans_nil k.but, fun b hb => (k.pin b (Nat.lt_of_lt_of_le hb h.but.size)).trans (h.pin b hb)⟩

def Kept (f : Pd) : Prop := ∀ p w p' w' v, Ext p w p' w' → f p w v → f p' w' v

def opTmps (o : Oper) : List Tmp := o.op.operands.toList.filterMap fun | .tmp t => some t | _ => none

/-- What an operation leaves. -/
def Leaves (f : Pd) (o : Oper) (a : Act) (p : Nat → Option Nat) (w : World) (a' : Act) (w' : World) : Prop :=
  ∃ v p', a' = a.put o.dst v ∧ Ext p w p' w' ∧ f p' w' v

/-- An operation runs well wherever its operands' facts hold. -/
def Runs (P : Program) (Q : Exit → Act → World → Prop) (F : Tmp → Pd) (o : Oper) (f : Pd) : Prop :=
  ∀ (a : Act) (p : Nat → Option Nat) (w : World), (∀ t ∈ opTmps o, ∃ v, a.tmps[t]? = some v ∧ F t p w v) → o.wp P a w (Leaves f o a p w) Q

def OpOk (P : Program) (Q : Exit → Act → World → Prop) (ops : List Oper) (F : Tmp → Pd) (o : Oper) : Prop :=
  ∃ t, o.dst = some t ∧ match o.guard with
  | none => Runs P Q F o (F t)
  | some (g, b) => ∃ og tg, ops[g]? = some og ∧ og.dst = some tg ∧ ((∃ c, (∀ p w v, F tg p w v → v = .bool c) ∧ if c = b then Runs P Q F o (F t) else ∀ p w, F t p w undef) ∨ ((∀ p w v, F tg p w v → v = undef) ∧ ∀ p w, F t p w undef))

def readsB (ds : List (Option Tmp)) (n : Nat) (K : List Tmp) (after : Array Edge) (t : Tmp) : Bool :=
  K.contains t || after.any fun e => Region.binds .any e && decide (e.on < n) && ((ds[e.on]?).join == some t)

def opB (ds : List (Option Tmp)) (n T : Nat) (K : List Tmp) (i : Nat) (o : Oper) : Bool :=
  o.after.all (fun e => !Region.binds .any e || decide (e.on < i)) &&
  (match o.dst with
   | some t => decide (t < T) && !K.contains t && (ds.take i).all (· != some t)
   | none => false) &&
  (opTmps o).all (readsB ds n K o.after) &&
  (match o.guard with
   | none => true
   | some (g, _) => match (ds[g]?).join with
     | some t => readsB ds n K o.after t
     | none => false)

def opsB (ds : List (Option Tmp)) (n T : Nat) (K : List Tmp) : Nat → List Oper → Bool
  | _, [] => true
  | i, o :: l => opB ds n T K i o && opsB ds n T K (i + 1) l

def listedN (n m : Nat) : Array Bool := (List.replicate n true ++ List.replicate (m - n) false).toArray

def rgB (l : List Oper) (n T : Nat) (K : List Tmp) : Bool :=
  decide (n ≤ l.length) && opsB (l.map (·.dst)) n T K 0 (l.take n) &&
  (decide (n = l.length) || (Region.sinkB .any l.toArray n && Region.chainB .any l.toArray n)) && Region.seqB .any l.toArray (l.length - n) n (listedN n l.length)

section
variable {P : Program} {Q : Exit → Act → World → Prop}

theorem opsB_get {ds : List (Option Tmp)} {n T : Nat} {K : List Tmp} : ∀ {l : List Oper} {k i : Nat} {o : Oper}, opsB ds n T K k l = true → l[i]? = some o → opB ds n T K (k + i) o = true
  | [], _, _, _, _, h => by simp at h
  | o' :: l, k, 0, o, hB, h => by
    simp only [opsB, Bool.and_eq_true] at hB
    simp at h
    rw [← h]
    exact hB.1
  | o' :: l, k, i + 1, o, hB, h => by
    simp only [opsB, Bool.and_eq_true] at hB
    have := opsB_get hB.2 (by simpa using h) (i := i)
    rwa [show k + 1 + i = k + (i + 1) by omega] at this

theorem wpAny_more {md : Region.Mode} {ops : Array Oper} : ∀ (f : Nat) (listed : Array Bool) (a : Act) (w : World), wpAny P md ops Q f listed a w → wpAny P md ops Q (f + 1) listed a w
  | 0, listed, a, w, h => ⟨fun _ => h.2, fun i hi => by rw [h.1] at hi; cases hi⟩
  | f + 1, listed, a, w, h => ⟨h.1, fun i hi => wpOp_mono (fun a' w' h' => wpAny_more f _ a' w' h') (h.2 i hi)⟩

theorem wpAny_ge {md : Region.Mode} {ops : Array Oper} {f g : Nat} {listed : Array Bool} {a : Act} {w : World} (hfg : f ≤ g) (h : wpAny P md ops Q f listed a w) : wpAny P md ops Q g listed a w := by
  obtain ⟨d, rfl⟩ := Nat.le.dest hfg
  clear hfg
  induction d with
  | zero => exact h
  | succ d ih => exact wpAny_more _ _ _ _ ih

def cnt (n : Nat) (listed : Array Bool) : Nat := (List.range n).countP fun i => listed.getD i true == false

theorem countP_lt {p q : Nat → Bool} {x : Nat} : ∀ {l : List Nat}, (∀ y ∈ l, q y = true → p y = true) → x ∈ l → p x = true → q x = false → l.countP q < l.countP p
  | [], _, hx, _, _ => by cases hx
  | y :: l, h, hx, hp, hq => by
    have hle : l.countP q ≤ l.countP p := List.countP_mono_left fun z hz => h z (List.mem_cons_of_mem _ hz)
    rw [List.countP_cons, List.countP_cons]
    by_cases hyx : y = x
    · subst hyx
      simp only [hp, hq, if_true]
      simp
      omega
    · have hx' : x ∈ l := by
        rcases List.mem_cons.1 hx with h1 | h1
        · exact absurd h1.symm hyx
        · exact h1
      have := countP_lt (fun z hz => h z (List.mem_cons_of_mem _ hz)) hx' hp hq
      have hy := h y (List.mem_cons_self)
      by_cases h1 : q y = true
      · simp only [h1, hy h1, if_true]; omega
      · rw [if_neg h1]; split <;> omega

theorem cnt_set {n i : Nat} {listed : Array Bool} (hi : i < n) (hu : listed.getD i true = false) : cnt n (listed.setIfInBounds i true) < cnt n listed := by
  refine countP_lt (x := i) (fun y hy h => ?_) (List.mem_range.2 hi) (by simp only [hu]; rfl) ?_
  · by_cases hyi : i = y
    · subst hyi
      simp only [hu]; rfl
    · rw [getD_set_ne true hyi] at h; exact h
  · have hlt : i < listed.size := by
      rcases Nat.lt_or_ge i listed.size with h | h
      · exact h
      · simp [Array.getElem?_eq_none h] at hu
    simp [hlt]

theorem cnt_zero {n : Nat} {listed : Array Bool} (h : cnt n listed = 0) : ∀ i, i < n → listed.getD i true = true := fun i hi => by
  have := List.countP_eq_zero.1 h i (List.mem_range.2 hi)
  simpa using this

structure FInv (l : List Oper) (n : Nat) (K : List Tmp) (F : Tmp → Pd) (a0 : Act) (p0 : Nat → Option Nat) (w0 : World) (listed : Array Bool) (a : Act) (p : Nat → Option Nat) (w : World) : Prop where
  head : HeadInv .any l.toArray n listed
  ext : Ext p0 w0 p w
  dfr : a.defers = a0.defers
  size : a.tmps.size = a0.tmps.size
  rest : ∀ t, (∀ i o, i < n → l[i]? = some o → o.dst ≠ some t) → a.tmps[t]? = a0.tmps[t]?
  old : ∀ t ∈ K, ∃ v, a.tmps[t]? = some v ∧ F t p w v
  new : ∀ i o t, i < n → l[i]? = some o → o.dst = some t → listed.getD i false = true → ∃ v, a.tmps[t]? = some v ∧ F t p w v

theorem FInv.reads {l : List Oper} {n : Nat} {K : List Tmp} {F : Tmp → Pd} {a0 a : Act} {w0 w : World} {listed : Array Bool} {p0 p : Nat → Option Nat} (h : FInv l n K F a0 p0 w0 listed a p w) {after : Array Edge} {t : Tmp}
    (hB : readsB (l.map (·.dst)) n K after t = true) (hl : ∀ e ∈ after, Region.binds .any e = true → listed.getD e.on false = true) : ∃ v, a.tmps[t]? = some v ∧ F t p w v := by
  unfold readsB at hB
  rcases Bool.or_eq_true_iff.1 hB with h1 | h1
  · exact h.old t (by simpa using h1)
  · obtain ⟨e, he, h2⟩ := Array.any_eq_true'.1 h1
    simp only [Bool.and_eq_true, decide_eq_true_eq, beq_iff_eq] at h2
    obtain ⟨⟨hb, hn⟩, hd⟩ := h2
    rw [List.getElem?_map] at hd
    cases ho : l[e.on]? with
    | none => rw [ho] at hd; cases hd
    | some o =>
      rw [ho] at hd
      exact h.new e.on o t hn ho (by simpa using hd) (hl e he hb)

theorem FInv.step {l : List Oper} {n T : Nat} {K : List Tmp} {F : Tmp → Pd} {a0 a : Act} {w0 w : World} {listed : Array Bool} {p0 p : Nat → Option Nat} (hF : ∀ t, Kept (F t)) (hT : T ≤ a0.tmps.size) (hB : opsB (l.map (·.dst)) n T K 0 (l.take n) = true)
    (h : FInv l n K F a0 p0 w0 listed a p w) {i : Nat} {o : Oper} (hin : i < n) (ho : l[i]? = some o) (hr : i ∈ Region.ready .any l.toArray listed) {t : Tmp} (hd : o.dst = some t) {v : Value} {p' : Nat → Option Nat} {w' : World} (hx : Ext p w p' w') (hv : F t p' w' v) :
    FInv l n K F a0 p0 w0 (listed.setIfInBounds i true) (a.put o.dst v) p' w' := by
  have hget : ∀ j oj, j < n → l[j]? = some oj → opB (l.map (·.dst)) n T K j oj = true := fun j oj hj hoj => by
    have := opsB_get hB (i := j) (o := oj) (by rw [List.getElem?_take_of_lt hj]; exact hoj)
    rwa [Nat.zero_add] at this
  have hdst : ∀ j oj tj, j < n → l[j]? = some oj → oj.dst = some tj → tj < T ∧ tj ∉ K ∧ ∀ k, k < j → (l[k]?).bind (·.dst) ≠ some tj := fun j oj tj hj hoj hdj => by
    have := hget j oj hj hoj
    unfold opB at this
    simp only [hdj, Bool.and_eq_true, decide_eq_true_eq, Bool.not_eq_true', List.all_eq_true] at this
    obtain ⟨⟨⟨_, ⟨h1, h2⟩, h3⟩, _⟩, _⟩ := this
    refine ⟨h1, by simpa using h2, fun k hk he => ?_⟩
    have hkl : k < l.length := by
      rcases Nat.lt_or_ge k l.length with h' | h'
      · exact h'
      · rw [List.getElem?_eq_none h'] at he; cases he
    have hm : (l[k]).dst ∈ List.take j (l.map (·.dst)) := by
      rw [List.mem_take_iff_getElem]
      exact ⟨k, by simp; omega, by simp⟩
    have h5 := h3 _ hm
    rw [List.getElem?_eq_getElem hkl] at he
    simp at he h5
    exact h5 he
  obtain ⟨ht1, ht2, ht3⟩ := hdst i o t hin ho hd
  have hne : ∀ j oj tj, j < n → l[j]? = some oj → oj.dst = some tj → j ≠ i → tj ≠ t := fun j oj tj hj hoj hdj hji he => by
    subst he
    rcases Nat.lt_or_gt_of_ne hji with h1 | h1
    · exact ht3 j h1 (by rw [hoj]; exact hdj)
    · exact (hdst j oj tj hj hoj hdj).2.2 i h1 (by rw [ho]; exact hd)
  have hput : ∀ s, s ≠ t → (a.put o.dst v).tmps[s]? = a.tmps[s]? := fun s hs => by
    rw [hd]
    exact Array.getElem?_setIfInBounds_ne (Ne.symm hs)
  have hself : (a.put o.dst v).tmps[t]? = some v := by
    rw [hd]
    exact Array.getElem?_setIfInBounds_self_of_lt (by rw [h.size]; exact Nat.lt_of_lt_of_le ht1 hT)
  refine ⟨h.head.set hr hin, h.ext.trans hx, ?_, ?_, fun s hs => ?_, fun s hs => ?_, fun j oj tj hj hoj hdj hl => ?_⟩
  · rw [hd]; exact h.dfr
  · rw [hd]; simp only [Act.put, Array.size_setIfInBounds]; exact h.size
  · rw [hput s (fun e => hs i o hin ho (by rw [hd, e]))]
    exact h.rest s hs
  · obtain ⟨u, h1, h2⟩ := h.old s hs
    exact ⟨u, by rw [hput s (fun e => ht2 (e ▸ hs))]; exact h1, hF s _ _ _ _ _ hx h2⟩
  · by_cases hji : j = i
    · subst hji
      obtain rfl : oj = o := Option.some.inj (hoj.symm.trans ho)
      obtain rfl : tj = t := Option.some.inj (hdj.symm.trans hd)
      exact ⟨v, hself, hv⟩
    · rw [getD_set_ne false (Ne.symm hji)] at hl
      obtain ⟨u, h1, h2⟩ := h.new j oj tj hj hoj hdj hl
      exact ⟨u, by rw [hput tj (hne j oj tj hj hoj hdj hji)]; exact h1, hF tj _ _ _ _ _ hx h2⟩

theorem wpAny_facts {l : List Oper} {a0 : Act} {p0 : Nat → Option Nat} {w0 : World} (n T : Nat) (K : List Tmp) (F : Tmp → Pd)
    (hB : rgB l n T K = true) (hT : T ≤ a0.tmps.size) (hF : ∀ t, Kept (F t)) (hops : ∀ i (o : Oper), i < n → l[i]? = some o → OpOk P Q l F o)
    (hend : ∀ a p w, Ext p0 w0 p w → a.defers = a0.defers → a.tmps.size = a0.tmps.size → (∀ t, (∀ i o, i < n → l[i]? = some o → o.dst ≠ some t) → a.tmps[t]? = a0.tmps[t]?) →
      (∀ t ∈ K, ∃ v, a.tmps[t]? = some v ∧ F t p w v) → (∀ i o t, i < n → l[i]? = some o → o.dst = some t → ∃ v, a.tmps[t]? = some v ∧ F t p w v) → wpList P l.toArray Q (l.drop n) a w) :
    ∀ (f : Nat) (listed : Array Bool) (a : Act) (p : Nat → Option Nat) (w : World), cnt n listed + (l.length - n) ≤ f → FInv l n K F a0 p0 w0 listed a p w → wpAny P .any l.toArray Q f listed a w := by
  have hB0 := hB
  unfold rgB at hB
  simp only [Bool.and_eq_true, Bool.or_eq_true, decide_eq_true_eq] at hB
  obtain ⟨⟨⟨hnl, hB1⟩, hB2⟩, hB3⟩ := hB
  have hget : ∀ j oj, j < n → l[j]? = some oj → opB (l.map (·.dst)) n T K j oj = true := fun j oj hj hoj => by
    have := opsB_get hB1 (i := j) (o := oj) (by rw [List.getElem?_take_of_lt hj]; exact hoj)
    rwa [Nat.zero_add] at this
  intro f
  induction f with
  | zero =>
    intro listed a p w hc inv
    have h0 : cnt n listed = 0 := by omega
    have hn : n = l.length := by omega
    have hall := cnt_zero h0
    have hr : Region.ready .any l.toArray listed = [] := by
      rw [List.eq_nil_iff_forall_not_mem]
      intro i hi
      obtain ⟨h1, o, ho, _⟩ := mem_ready.1 hi
      have hil : i < n := by rw [hn]; simpa using (Array.getElem?_eq_some_iff.1 ho).1
      rw [hall i hil] at h1
      cases h1
    refine ⟨hr, ?_⟩
    have := hend a p w inv.ext inv.dfr inv.size inv.rest inv.old (fun i o t hi ho hd => inv.new i o t hi ho hd (by
      have h1 := hall i hi
      have hs : i < listed.size := by rw [inv.head.size]; simp; omega
      simpa [hs] using h1))
    rwa [List.drop_eq_nil_of_le (by omega)] at this
  | succ f ih =>
    intro listed a p w hc inv
    by_cases h0 : cnt n listed = 0
    · have hall := cnt_zero h0
      have hall' : ∀ i, i < n → listed.getD i false = true := fun i hi => by
        have h1 := hall i hi
        have hs : i < listed.size := by rw [inv.head.size]; simp; omega
        simpa [hs] using h1
      have hlist : listed = listedN n l.length := by
        apply Array.ext_getElem?
        intro i
        have hsz := inv.head.size
        simp only [List.size_toArray] at hsz
        unfold listedN
        simp only [List.getElem?_toArray]
        by_cases hi : i < n
        · rw [List.getElem?_append_left (by simpa using hi), List.getElem?_replicate, if_pos hi]
          have := hall i hi
          have hs : i < listed.size := by omega
          simp [hs] at this
          simp [hs, this]
        · rw [List.getElem?_append_right (by simp; omega), List.getElem?_replicate]
          by_cases hil : i < l.length
          · have := inv.head.tail i (by omega) (by simpa using hil)
            have hs : i < listed.size := by omega
            simp [hs] at this
            rw [if_pos (by simp; omega)]
            simp [hs, this]
          · rw [if_neg (by simp; omega), Array.getElem?_eq_none (by omega)]
      have hwl := hend a p w inv.ext inv.dfr inv.size inv.rest inv.old (fun i o t hi ho hd => inv.new i o t hi ho hd (hall' i hi))
      refine wpAny_ge (f := (l.drop n).length) (by simp; omega) (wpAny_of_seq (l.drop n) n listed a w (fun j => by simp [List.getElem?_drop]) ?_ hwl)
      rw [hlist, List.length_drop]
      exact hB3
    · have hex : ∃ i, i < n ∧ listed.getD i true = false := by
        rcases Classical.em (∃ i, i < n ∧ listed.getD i true = false) with h | h
        · exact h
        · refine absurd (List.countP_eq_zero.2 fun i hi => ?_) h0
          cases hv : listed.getD i true with
          | true => simp
          | false => exact absurd ⟨i, List.mem_range.1 hi, hv⟩ h
      have hprog : ∀ i, i < n → listed.getD i true = false → ∃ j, j ∈ Region.ready .any l.toArray listed := by
        intro i
        induction i using Nat.strongRecOn with
        | _ i ihi =>
          intro hi hu
          rcases Classical.em (∃ j, j < i ∧ listed.getD j true = false) with ⟨j, hj, hju⟩ | hno
          · exact ihi j hj (by omega) hju
          · have hil : i < l.length := by omega
            refine ⟨i, mem_ready.2 ⟨hu, l[i], by simp [hil], fun e he hb => ?_⟩⟩
            have h1 := hget i l[i] hi (by simp [hil])
            unfold opB at h1
            simp only [Bool.and_eq_true] at h1
            have h2 := Array.all_eq_true_iff_forall_mem.1 h1.1.1.1 e he
            simp only [Bool.or_eq_true, Bool.not_eq_true', decide_eq_true_eq] at h2
            rcases h2 with h2 | h2
            · rw [hb] at h2; cases h2
            · cases hv : listed.getD e.on true with
              | true =>
                have hs : e.on < listed.size := by rw [inv.head.size]; simp; omega
                simpa [hs] using hv
              | false => exact absurd ⟨e.on, h2, hv⟩ hno
      refine ⟨fun hr => ?_, fun i hi => ?_⟩
      · obtain ⟨i, hi, hu⟩ := hex
        obtain ⟨j, hj⟩ := hprog i hi hu
        rw [hr] at hj
        cases hj
      · obtain ⟨hu, o, ho, hall⟩ := mem_ready.1 hi
        have ho' : l[i]? = some o := by simpa using ho
        have hil : i < l.length := by simpa using (Array.getElem?_eq_some_iff.1 ho).1
        have hin : i < n := by
          rcases Nat.lt_or_ge i n with h | h
          · exact h
          · rcases hB2 with h2 | h2
            · omega
            · obtain ⟨k, hk, hku⟩ := hex
              exact absurd hi (tail_waits h2.1 h2.2 (by simp; omega) inv.head _ k rfl hk hku i h)
        have h1 := hget i o hin ho'
        unfold opB at h1
        simp only [Bool.and_eq_true, List.all_eq_true] at h1
        have hreads : ∀ t ∈ opTmps o, ∃ v, a.tmps[t]? = some v ∧ F t p w v := fun t ht => inv.reads (h1.1.2 t ht) hall
        obtain ⟨t, hd, hok⟩ := hops i o hin ho'
        have hstep : ∀ v p' w', Ext p w p' w' → F t p' w' v → wpAny P .any l.toArray Q f (listed.setIfInBounds i true) (a.put o.dst v) w' := fun v p' w' hx hv =>
          ih _ _ p' w' (by have := cnt_set hin hu; omega) (inv.step hF hT hB1 hin ho' hi hd hx hv)
        have hrun : Runs P Q F o (F t) → o.wp P a w (wpAny P .any l.toArray Q f (listed.setIfInBounds i true)) Q := fun hR =>
          Oper.wp_mono (fun a' w' ⟨v, p', ha, hx, hv⟩ => by rw [ha]; exact hstep v p' w' hx hv) (hR a p w hreads)
        unfold wpOp
        simp only [ho]
        cases hg : o.guard with
        | none =>
          rw [hg] at hok
          rw [if_pos (by unfold Region.wanted; simp only [hg])]
          exact .inl (hrun hok)
        | some gb =>
          obtain ⟨g, b⟩ := gb
          rw [hg] at hok
          obtain ⟨og, tg, hog, hdg, hcases⟩ := hok
          have h3 := h1.2
          rw [hg] at h3
          simp only [List.getElem?_map, hog, Option.map_some, Option.join_some, hdg] at h3
          obtain ⟨vg, hvg, hfg⟩ := inv.reads h3 hall
          rcases hcases with ⟨c, hc', hif⟩ | ⟨hc', hif⟩
          · have hvb := hc' _ _ _ hfg
            subst hvb
            have hy : yielded l.toArray a.tmps g = some c := by
              unfold yielded
              simp [hog, hdg, hvg]
            by_cases hcb : c = b
            · rw [if_pos hcb] at hif
              rw [if_pos (by unfold Region.wanted; simp only [hg, hy, hcb]; simp)]
              exact .inl (hrun hif)
            · rw [if_neg hcb] at hif
              rw [if_neg (by unfold Region.wanted; simp only [hg, hy]; simpa using hcb)]
              exact hstep undef p w (Ext.refl _ _) (hif _ _)
          · have hvb := hc' _ _ _ hfg
            subst hvb
            have hy : yielded l.toArray a.tmps g = none := by
              unfold yielded
              simp [hog, hdg, hvg, undef]
            rw [if_neg (by unfold Region.wanted; simp only [hg, hy]; simp)]
            exact hstep undef p w (Ext.refl _ _) (hif _ _)

/-- The region, by its facts. -/
theorem wp_region_facts {id : Nat} {l : List Oper} {a0 : Act} {p0 : Nat → Option Nat} {w0 : World} (n T : Nat) (K : List Tmp) (F : Tmp → Pd) (hm : P.follows .mixedOrders = true)
    (hB : rgB l n T K = true) (hT : T ≤ a0.tmps.size) (hF : ∀ t, Kept (F t)) (h0 : ∀ t ∈ K, ∃ v, a0.tmps[t]? = some v ∧ F t p0 w0 v)
    (hops : ∀ i (o : Oper), i < n → l[i]? = some o → OpOk P Q l F o)
    (hend : ∀ a p w, Ext p0 w0 p w → a.defers = a0.defers → a.tmps.size = a0.tmps.size → (∀ t, (∀ i o, i < n → l[i]? = some o → o.dst ≠ some t) → a.tmps[t]? = a0.tmps[t]?) →
      (∀ t ∈ K, ∃ v, a.tmps[t]? = some v ∧ F t p w v) → (∀ i o t, i < n → l[i]? = some o → o.dst = some t → ∃ v, a.tmps[t]? = some v ∧ F t p w v) → wpList P l.toArray Q (l.drop n) a w) :
    (Code.region id l.toArray true).wp P Q a0 w0 := by
  have hx : Ext p0 w0 p0 w0.drew := ⟨(But.refl _ _).drew, fun _ _ => rfl⟩
  have hnl : n ≤ l.length := by
    have hB0 := hB
    unfold rgB at hB0
    simp only [Bool.and_eq_true, decide_eq_true_eq] at hB0
    exact hB0.1.1.1
  refine wp_region_any hm ?_
  refine wpAny_facts (w0 := w0.drew) (a0 := a0) n T K F hB hT hF hops (fun a p w hxx => hend a p w (hx.trans hxx)) _ _ a0 p0 w0.drew ?_ ?_
  · have : cnt n (Array.replicate l.toArray.size false) ≤ n := by
      unfold cnt
      exact Nat.le_trans List.countP_le_length (by simp)
    simp
    simp at this
    omega
  · refine ⟨⟨by simp, fun j oj _ hl => (by rw [getD_replicate_false] at hl; cases hl), fun t _ ht => getD_in (by simpa using ht) (getD_replicate_false _ _)⟩, Ext.refl _ _, rfl, rfl, fun _ _ => rfl, fun t ht => ?_, fun i o t _ _ _ hl => (by rw [getD_replicate_false] at hl; cases hl)⟩
    obtain ⟨v, h1, h2⟩ := h0 t ht
    exact ⟨v, h1, hF t _ _ _ _ _ hx h2⟩
end
end Go.Proofs.Ytloekfnlidclcaa

