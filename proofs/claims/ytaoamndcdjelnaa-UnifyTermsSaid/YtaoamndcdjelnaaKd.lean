/-
 Lemmas of the walk and plain laws, put together. No condition.
-/
import Derived.Defers
import Derived.Test.YtaoamndcdjelnaaKc
namespace Go.Proofs.Ytaoamndcdjelnaa
open Go.RowKit
set_option linter.unusedVariables false
set_option linter.unusedSimpArgs false
set_option maxRecDepth 100000
section
abbrev Rs := List (ResultVar × Ty × Bool)
def zjw (σ : St) : ResultVar → List (Nat × Nat)
 | .tmp s => (match lkA σ.t s with
  | some (.v _ _ own _) => own
  | _ => [])
 | .cell s _ => match lkA σ.t s with
  | some (.ref k _ _ _) => (match lkA σ.m k with
   | some e => e.own
   | none => [])
  | _ => []
def qjz (σ : St) : Rs → Nat → List (Nat × Nat)
 | [], _ => []
 | (rv, t, own) :: l, n => (if own then pairUp (zjw σ rv) (qy n t) else []) ++ qjz σ l (n + 1)
def qb5 (σ : St) : List (Nat × Ar) → List (Nat × Nat)
  | [] => []
  | (i, .ref t o) :: l => (match lkA σ.m i with
    | some e => pairUp e.own (qf6 o i t)
    | none => []) ++ qb5 σ l
  | (i, .mref t) :: l => pairUp (zjd σ i) (qy i t) ++ qb5 σ l
  | _ :: l => qb5 σ l
def q94 : List (Nat × Ar) → List Nat
  | [] => []
  | (i, .ref _ _) :: l => i * 16 :: q94 l
  | _ :: l => q94 l
mutual
/-- The value holds a pointer to the variable. -/
def AV.has (i : Nat) : AV → Bool
 | .ref k _ _ _ => Nat.beq k i
 | .fn _ l => z0n i l
 | .bx _ _ a => AV.has i a
 | .fr _ a => AV.has i a
 | .sn _ a => AV.has i a
 | _ => false
def z0n (i : Nat) : List AV → Bool
 | [] => false
 | a :: l => AV.has i a || z0n i l
end
mutual
theorem AV.has_ok {c : Cx} {p : ql} {w : World} {i : Nat} : ∀ (a : AV) {v : Value}, a.has i = true → a.pd c p w v → ∃ g, p (i * 16) = some g ∧ c.At i g
 | .ref k _ _ _, v, h, hx => by
  have h := Nat.eq_of_beq_eq_true h
  subst h
  obtain ⟨g, hg, -, hat⟩ := hx
  exact ⟨g, hg, hat⟩
 | .fn _ l, v, h, hx => by
  obtain ⟨vs, -, hl⟩ := hx
  exact qyu l (by simpa [AV.has] using h) hl
 | .bx _ _ a, v, h, hx => by
  obtain ⟨g, u, -, -, -, hu⟩ := hx
  exact AV.has_ok a (by simpa [AV.has] using h) hu
 | .fr _ a, v, h, hx => by
  obtain ⟨g, u, -, -, -, -, hu⟩ := hx
  exact AV.has_ok a (by simpa [AV.has] using h) hu
 | .sn _ a, v, h, hx => AV.has_ok a (by simpa [AV.has] using h) hx.2
 | .any, v, h, _ => by simp [AV.has] at h
 | .undef, v, h, _ => by simp [AV.has] at h
 | .v _ _ _ _, v, h, _ => by simp [AV.has] at h
 | .nilS, v, h, _ => by simp [AV.has] at h
 | .nilP, v, h, _ => by simp [AV.has] at h
 | .rd _ _ _ _, v, h, _ => by simp [AV.has] at h
 | .tup _, v, h, _ => by simp [AV.has] at h
 | .gd _ _, v, h, _ => by simp [AV.has] at h
 | .nb _ _, v, h, _ => by simp [AV.has] at h
 | .pt _ _ _ _, v, h, _ => by simp [AV.has] at h
 | .ar _ _ _, v, h, _ => by simp [AV.has] at h
 | .lv _ _, v, h, _ => by simp [AV.has] at h
 | .ax _ _ _ _, v, h, _ => by simp [AV.has] at h
theorem qyu {c : Cx} {p : ql} {w : World} {i : Nat} : ∀ (l : List AV) {vs : List Value}, z0n i l = true → pds c p w l vs → ∃ g, p (i * 16) = some g ∧ c.At i g
 | [], vs, h, _ => by simp [z0n] at h
 | a :: l, vs, h, hx => by
  obtain ⟨v, r, rfl, h1, h2⟩ := hx
  simp only [z0n, Bool.or_eq_true] at h
  rcases h with h | h
  ·exact AV.has_ok a h h1
  ·exact qyu l h h2
end
def q5l (σ : St) : List ResultVar → List Nat
 | [] => []
 | .cell s _ :: l => (match lkA σ.t s with
  | some (.ref k _ _ _) => k * 16 :: q5l σ l
  | _ => q5l σ l)
 | _ :: l => q5l σ l
def qxh (σ : St) (n : Nat) (rv : ResultVar) (t : Ty) (own : Bool) : Option X := match rv with
 | .tmp s => itT σ (s, t, if own then qy n t else [], [])
 | .cell s T => match lkA σ.t s with
  | some (.ref k [] 0 t') => if qdc T t && Ty.beq t' t then itM σ (k, t, if own then qy n t else [], []) else none
  | _ => none
def z7o (σ : St) : Rs → Nat → Option (List X)
  | [], _ => some []
  | (rv, t, own) :: l, n => match qxh σ n rv t own, z7o σ l (n + 1) with
    | some x, some xs => some (x :: xs)
    | _, _ => none
def zjp (σ : St) (n i : Nat) : Bool := (List.range n).any fun t => match lkA σ.t t with
 | some a => a.has i
 | none => false
def qvv (σ : St) (n : Nat) : List (Nat × Ar) → Option (List X)
  | [] => some []
  | (i, .ref t o) :: l => (match itM σ (i, t, qf6 o i t, []), qvv σ n l with
    | some x, some xs => if zjp σ n i then some (x :: xs) else none
    | _, _ => none)
  | (i, .mref t) :: l => (match itT σ (i, t, qy i t, [SNK]), qvv σ n l with
    | some x, some xs => if Nat.blt i n && (Nat.blt i VB && q93 t) then some (x :: xs) else none
    | _, _ => none)
  | _ :: l => qvv σ n l
def fin (ct : Ct) (results : List ResultVar) (σ : St) : Option (List X) :=
 let z := results.zip ct.rs
 let rr := qjz σ z ct.ar.length ++ qb5 σ ct.all
 let keep := rr.map (·.1) ++ (q94 ct.all ++ q5l σ results)
 let σ2 := (σ.un fun y => !zg keep y).ren rr
 if reB rr && Nat.beq results.length ct.rs.length then match z7o σ2 z ct.ar.length, qvv σ2 ct.ar.length ct.all with
  | some a, some b => some (a ++ b)
  | _, _ => none
 else none
def qrv (ct : Ct) (results : List ResultVar) : Nat → ResD → St → Tree := fun _ r σ => match r with
 | .exit i => .bad (8000000 + i)
 | _ => match fin ct results σ with
  | some xs => .leaf xs
  | none => .bad 9000000
def q69 : List Ar → Nat
 | [] => 0
 | .val _ :: l => q69 l + 1
 | .ref _ _ :: l => q69 l + 1
 | .rref _ :: l => q69 l + 1
 | .own _ :: l => q69 l + 1
 | .mref _ :: l => q69 l + 1
 | _ :: l => q69 l
def Ct.ars (ct : Ct) : List Ar := ct.ar ++ ct.vr.map (·.2)
def qgo : Nat → List (Nat × Ar) → List (Nat × Nat × Ar)
 | _, [] => []
 | j, (i, r) :: l => (i, j, r) :: qgo (j + q69 [r]) l
def z5p (tb : List (Nat × Nat × Ar)) : Nat → Nat → AV
 | 0, q => .sn q .any
 | f + 1, q => .sn q (match tb[q]? with
  | some (_, j, .val t) => .v (.tok j) t [] []
  | some (i, _, .ref t _) => .ref i [] 0 t
  | some (_, j, .rref t) => .rd (.tok j) t [] none
  | some (i, j, .own t) => .v (.tok j) t (qy i t) []
  | some (i, j, .mref t) => .sn q (.v (.tok j) t (qy i t) [])
  | some (_, _, .nils) => .nilS
  | some (_, _, .nilp) => .nilP
  | some (_, _, .fn g ks) => .fn g (ks.map (z5p tb f))
  | some (_, _, .cell T k) => .fr T (z5p tb f k)
  | none => .any)
def z7l : AV → AV
 | .sn q (.rd x t dep wr) => .sn q (.rd x t dep wr)
 | .sn _ a => a
 | a => a
def zd8 (tb : List (Nat × Nat × Ar)) : Nat → Nat → List (Nat × AV)
 | _, 0 => []
 | q, m + 1 => (q, z7l (z5p tb 6 q)) :: zd8 tb (q + 1) m
def zas : List (Nat × Nat × Ar) → List (Nat × Ent)
  | [] => []
  | (i, j, .ref t o) :: l => (i, ⟨.tok j, t, qf6 o i t, []⟩) :: zas l
  | _ :: l => zas l
def zce (ct : Ct) : St := ⟨zd8 (qgo 0 ct.all) 0 ct.ar.length, zas (qgo 0 ct.all)⟩
def qp0 (P : Program) (tbl : Tbl) (ann : Ann) (ct : Ct) (fn : Func) (cd : Code) : Tree :=
 toT P tbl ann ct.ar.length fn.ntmps cd [] (q69 ct.ars) (zce ct) (qrv ct fn.results.toList)
def WfA : List Ar → List D → Prop
 | [], ds => ds = []
 | .val t :: l, ds => ∃ d r, ds = d :: r ∧ Wf d t ∧ WfA l r
 | .ref t _ :: l, ds => ∃ d r, ds = d :: r ∧ Wf d t ∧ WfA l r
 | .rref t :: l, ds => ∃ d r, ds = d :: r ∧ Wf d t ∧ WfA l r
 | .own t :: l, ds => ∃ d r, ds = d :: r ∧ Wf d t ∧ WfA l r
 | .mref t :: l, ds => ∃ d r, ds = d :: r ∧ Wf d t ∧ WfA l r
 | _ :: l, ds => WfA l ds
section
variable {A : Nat → Prop} {p : ql} {w : World}
theorem zk.wf {V : List Value} : ∀ {all : List (Nat × Ar)} {vs : List Value} {ds : List D}, zk V A p w all vs ds → WfA (all.map (·.2)) ds ∧ ds.length = q69 (all.map (·.2)) ∧ vs.length = all.length
  | [], vs, ds, h => by
    obtain ⟨rfl, rfl⟩ := h
    exact ⟨rfl, rfl, rfl⟩
  | (_, .val t) :: l, vs, ds, h => by
    obtain ⟨v, r, d, ds', rfl, rfl, ⟨cs, hp, hr⟩, h⟩ := h
    obtain ⟨h1, h2, h3⟩ := zk.wf h
    exact ⟨⟨d, ds', rfl, ⟨w, _, cs, hr⟩, h1⟩, by simp [q69, h2], by simp [h3]⟩
  | (i, .ref t o) :: l, vs, ds, h => by
    obtain ⟨v, r, d, ds', rfl, rfl, ⟨g, cs, T, -, -, -, hc⟩, h⟩ := h
    obtain ⟨h1, h2, h3⟩ := zk.wf h
    exact ⟨⟨d, ds', rfl, ⟨w, _, _, hc.rd (dep' := (qf6 o i t).map (·.2)) (fun x hx => by cases hx) (fun x hx => hx)⟩, h1⟩, by simp [q69, h2], by simp [h3]⟩
  | (_, .rref t) :: l, vs, ds, h => by
    obtain ⟨v, r, d, ds', rfl, rfl, ⟨b, o, cs, -, -, -, -, hr⟩, h⟩ := h
    obtain ⟨h1, h2, h3⟩ := zk.wf h
    exact ⟨⟨d, ds', rfl, ⟨w, _, cs, hr⟩, h1⟩, by simp [q69, h2], by simp [h3]⟩
  | (i, .own t) :: l, vs, ds, h => by
    obtain ⟨v, r, d, ds', rfl, rfl, ⟨cs, -, hc⟩, h⟩ := h
    obtain ⟨h1, h2, h3⟩ := zk.wf h
    exact ⟨⟨d, ds', rfl, ⟨w, _, _, hc.rd (dep' := (qy i t).map (·.2)) (fun x hx => by cases hx) (fun x hx => hx)⟩, h1⟩, by simp [q69, h2], by simp [h3]⟩
  | (i, .mref t) :: l, vs, ds, h => by
    obtain ⟨v, r, d, ds', rfl, rfl, ⟨cs, -, hc⟩, h⟩ := h
    obtain ⟨h1, h2, h3⟩ := zk.wf h
    exact ⟨⟨d, ds', rfl, ⟨w, _, _, hc.rd (dep' := (qy i t).map (·.2)) (fun x hx => by cases hx) (fun x hx => hx)⟩, h1⟩, by simp [q69, h2], by simp [h3]⟩
  | (_, .nils) :: l, vs, ds, h => by
    obtain ⟨r, rfl, h⟩ := h
    obtain ⟨h1, h2, h3⟩ := zk.wf h
    exact ⟨h1, h2, by simp [h3]⟩
  | (_, .nilp) :: l, vs, ds, h => by
    obtain ⟨r, rfl, h⟩ := h
    obtain ⟨h1, h2, h3⟩ := zk.wf h
    exact ⟨h1, h2, by simp [h3]⟩
  | (_, .fn f ks) :: l, vs, ds, h => by
    obtain ⟨r, rfl, h⟩ := h
    obtain ⟨h1, h2, h3⟩ := zk.wf h
    exact ⟨h1, h2, by simp [h3]⟩
  | (_, .cell T j) :: l, vs, ds, h => by
    obtain ⟨b, r, rfl, -, -, -, h⟩ := h
    obtain ⟨h1, h2, h3⟩ := zk.wf h
    exact ⟨h1, h2, by simp [h3]⟩
theorem qwz : ∀ (i : Nat) (l : List Ar), (idx i l).map (·.2) = l
 | _, [] => rfl
 | i, a :: l => by simp [idx, qwz (i + 1) l]
theorem all_map (ct : Ct) : ct.all.map (·.2) = ct.ars := by simp [Ct.all, Ct.ars, qwz]
theorem qvr : ∀ {i n : Nat} {l : List Ar} {e : Nat × Ar}, e ∈ idx i l → i + l.length = n → i ≤ e.1 ∧ e.1 < n
 | _, _, [], e, h, _ => by cases h
 | i, n, a :: l, e, h, hn => by
  rcases List.mem_cons.1 h with rfl | h
  ·simp at hn; exact ⟨Nat.le_refl _, by simp; omega⟩
  ·obtain ⟨h1, h2⟩ := qvr (n := n) h (by simp at hn; omega)
   exact ⟨by omega, h2⟩
theorem z37 {ct : Ct} {e : Nat × Ar} (h : e ∈ ct.all) : e.1 < ct.ar.length ∨ VB ≤ e.1 := by
 rcases List.mem_append.1 h with h | h
 ·exact .inl (qvr (n := ct.ar.length) h (by simp)).2
 ·exact .inr (qvr h rfl).1
def zdh (V : List Value) (A : Nat → Prop) (p : ql) (w : World) (i : Nat) : Ar → Value → D → Prop
 | .val t, v, d => ∃ cs, zx t cs v ∧ Rd w (FFD A p []) d t cs
 | .ref t o, v, d => ∃ g cs T, p (i * 16) = some g ∧ v = .pointer (some ⟨g, 0, none⟩) ∧ w.heap[g]? = some (.cells cs T (0, 0)) ∧ Con A p w d t (qf6 o i t) [] cs.toList
 | .rref t, v, d => ∃ b o cs, v = .pointer (some ⟨b, o, none⟩) ∧ FFD A p [] b ∧ w.rangeAt b o cs ∧ 0 < cs.length ∧ Rd w (FFD A p []) d t cs
 | .own t, v, d => ∃ cs, zx t cs v ∧ Con A p w d t (qy i t) [] cs
 | .mref t, v, d => ∃ cs, zx t cs v ∧ Con A p w d t (qy i t) [] cs
 | .nils, v, _ => v = .slice none 0 0
 | .nilp, v, _ => v = .pointer none
 | .fn f ks, v, _ => v = .func (.func f) #[] (ks.map fun k => V.getD k undef).toArray
 | .cell T j, v, _ => ∃ b, v = .pointer (some ⟨b, 0, none⟩) ∧ A b ∧ q8j p b ∧ w.heap[b]? = some (.cells #[V.getD j undef] T (0, 0))
theorem qqe {V : List Value} : ∀ {all : List (Nat × Ar)} {j0 : Nat} {vs : List Value} {ds : List D} {q i j : Nat} {r : Ar}, zk V A p w all vs ds → (qgo j0 all)[q]? = some (i, j, r) → ∃ v, vs[q]? = some v ∧ j0 ≤ j ∧ zdh V A p w i r v (ds.getD (j - j0) .u)
  | [], j0, vs, ds, q, i, j, r, h, hq => by simp [qgo] at hq
  | (i', r') :: l, j0, vs, ds, q, i, j, r, h, hq => by
    cases q with
    | zero =>
      simp only [qgo, List.getElem?_cons_zero, Option.some.injEq, Prod.mk.injEq] at hq
      obtain ⟨rfl, rfl, rfl⟩ := hq
      cases r' with
      | val t => obtain ⟨v, r, d, ds', rfl, rfl, h1, -⟩ := h; exact ⟨v, rfl, Nat.le_refl _, by rw [Nat.sub_self]; exact h1⟩
      | ref t o => obtain ⟨v, r, d, ds', rfl, rfl, h1, -⟩ := h; exact ⟨v, rfl, Nat.le_refl _, by rw [Nat.sub_self]; exact h1⟩
      | rref t => obtain ⟨v, r, d, ds', rfl, rfl, h1, -⟩ := h; exact ⟨v, rfl, Nat.le_refl _, by rw [Nat.sub_self]; exact h1⟩
      | own t => obtain ⟨v, r, d, ds', rfl, rfl, h1, -⟩ := h; exact ⟨v, rfl, Nat.le_refl _, by rw [Nat.sub_self]; exact h1⟩
      | mref t => obtain ⟨v, r, d, ds', rfl, rfl, h1, -⟩ := h; exact ⟨v, rfl, Nat.le_refl _, by rw [Nat.sub_self]; exact h1⟩
      | nils => obtain ⟨r, rfl, -⟩ := h; exact ⟨_, rfl, Nat.le_refl _, rfl⟩
      | nilp => obtain ⟨r, rfl, -⟩ := h; exact ⟨_, rfl, Nat.le_refl _, rfl⟩
      | fn f ks => obtain ⟨r, rfl, -⟩ := h; exact ⟨_, rfl, Nat.le_refl _, rfl⟩
      | cell T k => obtain ⟨b, r, rfl, h1, h2, h3, -⟩ := h; exact ⟨_, rfl, Nat.le_refl _, ⟨b, rfl, h1, h2, h3⟩⟩
    | succ q =>
      simp only [qgo, List.getElem?_cons_succ] at hq
      have one : ∀ {v : Value} {vs' : List Value} {d : D} {ds' : List D}, zk V A p w l vs' ds' → (qgo (j0 + 1) l)[q]? = some (i, j, r) → ∃ u, (v :: vs')[q + 1]? = some u ∧ j0 ≤ j ∧ zdh V A p w i r u ((d :: ds').getD (j - j0) .u) := fun h hq => by
        obtain ⟨u, h1, h2, h3⟩ := qqe h hq
        refine ⟨u, by simpa using h1, by omega, ?_⟩
        rw [show j - j0 = (j - (j0 + 1)) + 1 by omega]
        simpa using h3
      have non : ∀ {v : Value} {vs' : List Value}, zk V A p w l vs' ds → (qgo j0 l)[q]? = some (i, j, r) → ∃ u, (v :: vs')[q + 1]? = some u ∧ j0 ≤ j ∧ zdh V A p w i r u (ds.getD (j - j0) .u) := fun h hq => by
        obtain ⟨u, h1, h2, h3⟩ := qqe h hq
        exact ⟨u, by simpa using h1, h2, h3⟩
      cases r' with
      | val t => obtain ⟨v, r, d, ds', rfl, rfl, -, h⟩ := h; exact one h hq
      | ref t o => obtain ⟨v, r, d, ds', rfl, rfl, -, h⟩ := h; exact one h hq
      | rref t => obtain ⟨v, r, d, ds', rfl, rfl, -, h⟩ := h; exact one h hq
      | own t => obtain ⟨v, r, d, ds', rfl, rfl, -, h⟩ := h; exact one h hq
      | mref t => obtain ⟨v, r, d, ds', rfl, rfl, -, h⟩ := h; exact one h hq
      | nils => obtain ⟨r, rfl, h⟩ := h; exact non h hq
      | nilp => obtain ⟨r, rfl, h⟩ := h; exact non h hq
      | fn f ks => obtain ⟨r, rfl, h⟩ := h; exact non h hq
      | cell T k => obtain ⟨b, r, rfl, -, -, -, h⟩ := h; exact non h hq
section
variable {c : Cx} {n0 : Nat} {V : List Value} {all : List (Nat × Ar)} {ds : List D}
theorem qqb (hA : c.A = A) (hAt : c.At = fun k g => (k < n0 ∨ VB ≤ k) → p (k * 16) = some g) (hsn : c.snap = fun q => V.getD q undef) (h : zk V A p w all V ds) (hE : ∀ k, c.v.E k = ds.getD k .u) : ∀ (f q : Nat), (z5p (qgo 0 all) f q).pd c p w (V.getD q undef)
 | 0, q => ⟨by rw [hsn], trivial⟩
 | f + 1, q => by
  refine ⟨by rw [hsn], ?_⟩
  have key : ∀ {i j : Nat} {r : Ar}, (qgo 0 all)[q]? = some (i, j, r) → zdh V A p w i r (V.getD q undef) (c.v.E j) := fun hq => by
   obtain ⟨v, h1, -, h3⟩ := qqe h hq
   rw [List.getD_eq_getElem?_getD, h1, hE]
   exact h3
  split
  ·rename_i i j t hq
   obtain ⟨cs, hp, hr⟩ := key hq
   refine ⟨cs, hp, ?_⟩
   rw [hA]
   exact Con.of_rd hr
  ·rename_i i j t hq
   obtain ⟨g, cs, T, hg, e, -⟩ := key hq
   exact ⟨g, hg, e, by rw [hAt]; exact fun _ => hg⟩
  ·rename_i i j t hq
   obtain ⟨b, o, cs, e, hfb, hrg, h0, hr⟩ := key hq
   refine ⟨b, o, cs, e, by rw [hA]; exact hfb, hrg, h0, ?_, trivial⟩
   show Rd w (FFD c.A p []) (c.v.E j) t cs
   rw [hA]
   exact hr
  ·rename_i i j t hq
   obtain ⟨cs, hp, hr⟩ := key hq
   refine ⟨cs, hp, ?_⟩
   show Con c.A p w (c.v.E j) t (qy i t) [] cs
   rw [hA]
   exact hr
  ·rename_i i j t hq
   obtain ⟨cs, hp, hr⟩ := key hq
   refine ⟨by rw [hsn], cs, hp, ?_⟩
   show Con c.A p w (c.v.E j) t (qy i t) [] cs
   rw [hA]
   exact hr
  ·rename_i i j hq
   exact key hq
  ·rename_i i j hq
   exact key hq
  ·rename_i i j g ks hq
   refine ⟨_, key hq, ?_⟩
   clear hq
   induction ks with
   | nil => rfl
   | cons k ks ih => exact ⟨_, _, rfl, qqb hA hAt hsn h hE f k, ih⟩
  ·rename_i i j T k hq
   obtain ⟨b, e, h1, h2, h3⟩ := key hq
   exact ⟨b, _, by rw [hA]; exact h1, h2, e, h3, qqb hA hAt hsn h hE f k⟩
  ·trivial
theorem z8q {x : AV} {v : Value} (h : x.pd c p w v) : (z7l x).pd c p w v := by
 unfold z7l
 split
 ·exact h
 ·exact h.2
 ·exact h
theorem qy6 (hA : c.A = A) (hAt : c.At = fun k g => (k < n0 ∨ VB ≤ k) → p (k * 16) = some g) (hsn : c.snap = fun q => V.getD q undef) (h : zk V A p w all V ds) (hE : ∀ k, c.v.E k = ds.getD k .u) : ∀ (m q t : Nat) (x : AV), lkA (zd8 (qgo 0 all) q m) t = some x → t < q + m ∧ x.pd c p w (V.getD t undef)
 | 0, q, t, x, hx => by cases hx
 | m + 1, q, t, x, hx => by
  unfold zd8 at hx
  by_cases hqt : q = t
  ·subst hqt
   rw [qf] at hx
   injection hx with hx
   subst hx
   exact ⟨by omega, z8q (qqb hA hAt hsn h hE 6 q)⟩
  ·rw [qg hqt] at hx
   obtain ⟨h1, h2⟩ := qy6 hA hAt hsn h hE m (q + 1) t x hx
   exact ⟨by omega, h2⟩
theorem qy7 (hA : c.A = A) (hE : ∀ k, c.v.E k = ds.getD k .u) (h : zk V A p w all V ds) : ∀ {tb : List (Nat × Nat × Ar)}, (∀ e : Nat × Nat × Ar, e ∈ tb → ∃ q : Nat, (qgo 0 all)[q]? = some e) → ∀ k e, lkA (zas tb) k = some e → q26 c p w k e
  | [], _, k, e, he => by cases he
  | (i, j, r) :: l, hm, k, e, he => by
    have go := qy7 hA hE h (tb := l) fun e he => hm e (List.mem_cons_of_mem _ he)
    cases r with
    | ref t o =>
      have he' : lkA ((i, ⟨.tok j, t, qf6 o i t, []⟩) :: zas l) k = some e := he
      by_cases hik : i = k
      · subst hik
        rw [qf] at he'
        injection he' with he'
        subst he'
        obtain ⟨q, hq⟩ := hm _ List.mem_cons_self
        obtain ⟨v, -, -, ⟨g, cs, T, hg, -, hh, hc⟩⟩ := qqe h hq
        refine ⟨g, cs, T, hg, hh, ?_⟩
        show Con c.A p w (c.v.E j) t (qf6 o i t) [] cs.toList
        rw [hE, hA]
        exact hc
      · rw [qg hik] at he'
        exact go k e he'
    | _ => exact go k e he
end
end
def qcn (tmps : Array Value) : ResultVar → Sem Value
 | .tmp t => pure (tmps.getD t undef)
 | .cell a t => do loadVar t (← asAddr (tmps.getD a undef))
theorem results_read (fn : Func) (tmps : Array Value) : results fn tmps = (do let vs ← fn.results.mapM (qcn tmps); pure (if h : vs.size = 1 then vs[0] else .tuple vs)) := by
 unfold results
 congr 1
def Reads (tmps : Array Value) (w : World) : List ResultVar → List Value → Prop
 | [], l => l = []
 | r :: rs, l => ∃ v l', l = v :: l' ∧ (qcn tmps r).run Try.prog w = .ok v w ∧ Reads tmps w rs l'
theorem qkm {fn : Func} {tmps : Array Value} {w : World} {l : List Value} (h : Reads tmps w fn.results.toList l) : (results fn tmps).run Try.prog w = .ok (qd5 l) w := by
 have key : ∀ (rs : List ResultVar) (l : List Value), Reads tmps w rs l → (rs.mapM (qcn tmps)).run Try.prog w = .ok l w := by
  intro rs
  induction rs with
  | nil =>
   intro l h
   cases h
   simp
  | cons r rs ih =>
   rintro l ⟨v, l', rfl, h1, h2⟩
   simp only [List.mapM_cons, Sem.run_bind, h1, Result.andThen_ok, ih l' h2, Sem.run_pure]
 rw [results_read, Array.mapM_eq_mapM_toList]
 simp only [map_eq_pure_bind, Sem.run_bind, key _ _ h, Result.andThen_ok, Sem.run_pure]
 congr 1
 clear h key
 match l with
 | [] => rfl
 | [v] => rfl
 | _ :: _ :: _ => rfl
section
variable {c : Cx} {p : ql} {w w0 : World} {S0 : Nat → Prop} {a : Act} {σ σ' : St}
theorem zin {i : Item} {x : X} (hf : SF c σ p w a) (h : itT σ i = some x) : ∃ v cs, a.tmps[i.1]? = some v ∧ zx i.2.1 cs v ∧ Con c.A p w (x.ev c.v) i.2.1 i.2.2.1 i.2.2.2 cs ∧ (snB i.2.1 i.2.2.2 = true → v = c.snap i.1) := by
 obtain ⟨t, ty, own, dep⟩ := i
 have := z5e hf (l := [(t, ty, own, dep)]) (xs := [x]) (by simp only [its, h])
 obtain ⟨y, r, e, h1, -⟩ := this
 simp only [X.evs, List.cons.injEq] at e
 rw [e.1]
 exact h1
theorem zja {i : Item} {x : X} (hf : SF c σ p w a) (h : itM σ i = some x) : ∃ g cs T, p (i.1 * 16) = some g ∧ w.heap[g]? = some (.cells cs T (0, 0)) ∧ Con c.A p w (x.ev c.v) i.2.1 i.2.2.1 i.2.2.2 cs.toList := by
 obtain ⟨t, ty, own, dep⟩ := i
 have := qut hf (l := [(t, ty, own, dep)]) (xs := [x]) (by simp only [its, h])
 obtain ⟨y, r, e, h1, -⟩ := this
 simp only [X.evs, List.cons.injEq] at e
 rw [e.1]
 exact h1
theorem z1t (hf : SF c σ p w a) {n : Nat} {rv : ResultVar} {t : Ty} {own : Bool} {x : X} (h : qxh σ n rv t own = some x) : ∃ v, (qcn a.tmps rv).run Try.prog w = .ok v w ∧ ∃ cs, zx t cs v ∧ Con c.A p w (x.ev c.v) t (if own then qy n t else []) [] cs := by
 cases rv with
 | tmp s =>
  obtain ⟨v, cs, hv, hp, hc, -⟩ := zin (i := (s, t, if own then qy n t else [], [])) hf h
  exact ⟨v, by simp [qcn, show a.tmps[s]? = some v from hv], cs, hp, hc⟩
 | cell s T =>
  simp only [qxh] at h
  split at h
  ·rename_i k t' hl
   split at h
   ·rename_i hok
    simp only [Bool.and_eq_true] at hok
    obtain ⟨v, hv, g, hg, rfl, -⟩ := hf.t s _ hl
    obtain ⟨g', cs, T', hg', hh, hc⟩ := zja (i := (k, t, if own then qy n t else [], [])) hf h
    obtain rfl := Option.some.inj (hg.symm.trans hg')
    have hr : w.rangeAt g 0 cs.toList := fun j u hj => by
     rw [cell_of_row w g (0 + j) cs T' (0, 0) hh, ← Array.getElem?_toList]
     simpa using hj
    obtain ⟨u, hu, hp⟩ := qbx (q1t hok.1) hr (hc.rd (dep' := (if own then qy n t else []).map (·.2)) (fun x hx => by cases hx) (fun x hx => hx))
    refine ⟨u, ?_, cs.toList, hp, hc⟩
    simpa [qcn, show a.tmps[s]? = some _ from hv, asAddr, Instr.loadAt, Instr.sureAddr] using hu
   ·cases h
  ·cases h
theorem qxa (hf : SF c σ p w a) : ∀ {rvs : List ResultVar} {ts : List (Ty × Bool)} {n : Nat} {xs : List X}, rvs.length = ts.length → z7o σ (rvs.zip ts) n = some xs →
  ∃ l, Reads a.tmps w rvs l ∧ q7s c.A p w ts n l (X.evs c.v xs) ∧ xs.length = ts.length
 | [], [], n, xs, _, h => by
  simp only [List.zip_nil_left, z7o, Option.some.injEq] at h
  subst h
  exact ⟨[], rfl, rfl, rfl⟩
 | rv :: rvs, (t, own) :: ts, n, xs, hl, h => by
  simp only [List.zip_cons_cons, z7o] at h
  split at h
  ·rename_i x xs' hx hxs
   injection h with h
   subst h
   obtain ⟨l, h1, h2, h3⟩ := qxa hf (by simpa using hl) hxs
   obtain ⟨v, hv, hc⟩ := z1t hf hx
   exact ⟨v :: l, ⟨v, l, rfl, hv, h1⟩, ⟨v, l, _, _, rfl, rfl, hc, h2⟩, by simp [h3]⟩
  ·cases h
 | [], _ :: _, _, _, hl, _ => by cases hl
 | _ :: _, [], _, _, hl, _ => by cases hl
theorem zex (hf : SF c σ p w a) {n i : Nat} (h : zjp σ n i = true) : ∃ g, p (i * 16) = some g ∧ c.At i g := by
 obtain ⟨t, -, ht⟩ := List.any_eq_true.1 h
 split at ht
 ·rename_i x hx
  obtain ⟨v, -, hv⟩ := hf.t t x hx
  exact AV.has_ok x ht hv
 ·cases ht
theorem qx8 {p0 : ql} (hf : SF c σ p w a) {n0 n : Nat} (hAt : c.At = fun k g => (k < n0 ∨ VB ≤ k) → p0 (k * 16) = some g) : ∀ {all : List (Nat × Ar)} {xs : List X}, (∀ e ∈ all, e.1 < n0 ∨ VB ≤ e.1) → (∀ i t, (i, Ar.mref t) ∈ all → i < n → i < VB → q93 t = true → ∃ g, c.snap i = .map (some g) ∧ p0 (i * 16 + 1) = some g) → qvv σ n all = some xs → q2n c.A p0 p w all (X.evs c.v xs)
  | [], xs, _, _, h => by
    simp only [qvv, Option.some.injEq] at h
    subst h
    rfl
  | (i, r) :: l, xs, hi, hMr, h => by
    have go : ∀ {xs}, qvv σ n l = some xs → q2n c.A p0 p w l (X.evs c.v xs) := fun h => qx8 hf hAt (all := l) (fun e he => hi e (List.mem_cons_of_mem _ he)) (fun i t hm => hMr i t (List.mem_cons_of_mem _ hm)) h
    cases r with
    | ref t o =>
      simp only [qvv] at h
      split at h
      · rename_i x xs' hx hxs
        split at h
        · rename_i hk
          injection h with h
          subst h
          obtain ⟨g, hg, hat⟩ := zex hf hk
          obtain ⟨g', cs, T, hg', hh, hc⟩ := zja (i := (i, t, qf6 o i t, [])) hf hx
          obtain rfl := Option.some.inj (hg.symm.trans hg')
          rw [hAt] at hat
          exact ⟨_, _, rfl, ⟨g, cs, T, hat (hi _ List.mem_cons_self), hg, hh, hc⟩, go hxs⟩
        · cases h
      · cases h
    | mref t =>
      simp only [qvv] at h
      split at h
      · rename_i x xs' hx hxs
        split at h
        · rename_i hk
          injection h with h
          subst h
          simp only [Bool.and_eq_true, Nat.blt_eq] at hk
          obtain ⟨k1, k2, k3⟩ := hk
          obtain ⟨g, hg, hp0⟩ := hMr i t List.mem_cons_self k1 k2 k3
          obtain ⟨v, cs, hv, hpk, hc, hs⟩ := zin (i := (i, t, qy i t, [SNK])) hf hx
          have hkv : ∃ K V, t = .map K V := by
            cases t with
            | map K V => exact ⟨K, V, rfl⟩
            | _ => cases k3
          obtain ⟨K, V', rfl⟩ := hkv
          have hve : v = .map (some g) := (hs rfl).trans hg
          have hc0 : Con c.A p w (x.ev c.v) (.map K V') [(0, i * 16 + 1)] [SNK] cs := hc
          have hc1 : Con c.A p w (x.ev c.v) (.map K V') [(0, i * 16 + 1)] [] cs := by
            have h0 : Fl c.A p w [SNK] (lkA [(0, i * 16 + 1)] 0) (x.ev c.v) (.map K V') cs := hc0
            show Fl c.A p w [] (lkA [(0, i * 16 + 1)] 0) (x.ev c.v) (.map K V') cs
            rw [qf] at h0 ⊢
            rcases h0 with ⟨E, te, l, u, e0, -⟩ | h0
            · cases e0
            · exact .inr h0
          have hc2 : Fl c.A p w [] (lkA [(0, i * 16 + 1)] 0) (x.ev c.v) (.map K V') cs := hc1
          rw [qf] at hc2
          rcases hc2 with ⟨E, te, l, u, e0, -⟩ | ⟨K1, V1, kt, vt, l, g1, es, clock, e0, -, -, -, rfl, hg1, -⟩
          · cases e0
          · have hpv : [Value.map (some g1)] = [v] := hpk
            injection hpv with hpv
            rw [hve] at hpv
            injection hpv with hpv
            injection hpv with hpv
            subst hpv
            exact ⟨_, _, rfl, ⟨g1, hp0, hg1, hc1⟩, go hxs⟩
        · cases h
      · cases h
    | _ => exact go h
theorem zfi {V : List Value} {A : Nat → Prop} {p : ql} {w : World} {ct : Ct} {vs : List Value} {ds : List D} (h : zk V A p w ct.all vs ds) (i : Nat) (t : Ty) (hm : (i, Ar.mref t) ∈ ct.all) (h1 : i < ct.ar.length) (h2 : i < VB) (h3 : q93 t = true) : ∃ g, vs.getD i undef = .map (some g) ∧ p (i * 16 + 1) = some g := by
 have key : ∀ {l : List Ar} {k n : Nat} {r : Ar}, (n, r) ∈ idx k l → k ≤ n ∧ l[n - k]? = some r := by
  intro l
  induction l with
  | nil => intro k n r h; cases h
  | cons x l ih =>
   intro k n r h
   rcases List.mem_cons.1 h with h | h
   ·injection h with e1 e2
    subst e1 e2
    exact ⟨Nat.le_refl _, by simp⟩
   ·obtain ⟨q1, q2⟩ := ih h
    refine ⟨by omega, ?_⟩
    rw [show n - k = (n - (k + 1)) + 1 by omega]
    simpa using q2
 have pos : ∀ (l : List Ar) (k q : Nat), (idx k l)[q]? = l[q]?.map fun r => (k + q, r) := by
  intro l
  induction l with
  | nil => intro k q; simp [idx]
  | cons x l ih =>
   intro k q
   cases q with
   | zero => simp [idx]
   | succ q =>
    simp only [idx, List.getElem?_cons_succ, ih]
    congr 1
    funext r
    congr 1
    omega
 have hat : ct.all[i]? = some (i, .mref t) := by
  rcases List.mem_append.1 hm with hm | hm
  ·obtain ⟨-, q⟩ := key hm
   rw [Nat.sub_zero] at q
   unfold Ct.all
   rw [List.getElem?_append_left (by
    have : (idx 0 ct.ar).length = ct.ar.length := by rw [← List.length_map (f := (·.2)), qwz]
    omega), pos, q]
   simp
  ·have := (key hm).1
   omega
 have tab : ∀ (l : List (Nat × Ar)) (j q : Nat) (e : Nat × Ar), l[q]? = some e → ∃ j', (qgo j l)[q]? = some (e.1, j', e.2) := by
  intro l
  induction l with
  | nil => intro j q e h; simp at h
  | cons x l ih =>
   intro j q e h
   cases q with
   | zero =>
    simp only [List.getElem?_cons_zero, Option.some.injEq] at h
    subst h
    exact ⟨j, rfl⟩
   | succ q =>
    simp only [List.getElem?_cons_succ] at h
    exact ih _ q e h
 obtain ⟨j', hj⟩ := tab _ 0 _ _ hat
 obtain ⟨v, hv, -, cs, hpk, hc⟩ := qqe h hj
 rw [List.getD_eq_getElem?_getD, hv]
 have hkv : ∃ K V, t = .map K V := by
  cases t with
  | map K V => exact ⟨K, V, rfl⟩
  | _ => cases h3
 obtain ⟨K, V', rfl⟩ := hkv
 have hc2 : Fl A p w [] (lkA [(0, i * 16 + 1)] 0) (ds.getD (j' - 0) .u) (.map K V') cs := hc
 rw [qf] at hc2
 rcases hc2 with ⟨E, te, l, u, e0, -⟩ | ⟨K1, V1, kt, vt, l, g1, es, clock, e0, -, -, -, rfl, hg1, -⟩
 ·cases e0
 ·have hpv : [Value.map (some g1)] = [v] := hpk
  injection hpv with hpv
  exact ⟨g1, hpv.symm, hg1⟩
end
def cxA (tbl : Tbl) (ct : Ct) (A : Nat → Prop) (p : ql) (vs us : List Value) (ds : List D) : Cx := ⟨evl (qe tbl) ds, A, ct.ar.length, fun k g => (k < ct.ar.length ∨ VB ≤ k) → p (k * 16) = some g, fun k g hk h2 h => absurd h (by omega), fun q => (vs ++ us).getD q undef⟩
theorem qtd {ct : Ct} {tbl : Tbl} {fn : Func} (hsz : ct.ar.length ≤ fn.ntmps) {A : Nat → Prop} {p : ql} {w : World} {vs us : List Value} {ds : List D} (hpre : Pre ct.ar.length A p w) (hvl : vs.length = ct.ar.length) (hargs : zk (vs ++ us) A p w ct.all (vs ++ us) ds) :
  Bs (cxA tbl ct A p vs us ds).A w (pinned p) p w ∧ SF ((cxA tbl ct A p vs us ds).at (qe tbl) ds) (zce ct) p w { tmps := vs.toArray ++ Array.replicate (fn.ntmps - vs.toArray.size) undef, defers := [] } := by
 have hb0 : Bs (cxA tbl ct A p vs us ds).A w (pinned p) p w := ⟨hpre.inj, hpre.bd, But.refl _ _, fun x b hx => .inl ⟨x, hx⟩, hpre.new, hpre.pa, hpre.obj⟩
 refine ⟨hb0, fun t x hx => ?_, qy7 (c := (cxA tbl ct A p vs us ds).at (qe tbl) ds) (A := A) rfl (fun k => rfl) hargs fun e he => List.mem_iff_getElem?.1 he⟩
 obtain ⟨h1, h2⟩ := qy6 (c := (cxA tbl ct A p vs us ds).at (qe tbl) ds) (A := A) (n0 := ct.ar.length) rfl rfl rfl hargs (fun k => rfl) _ _ t x hx
 have hlt : t < vs.length := by omega
 refine ⟨(vs ++ us).getD t undef, ?_, h2⟩
 show (vs.toArray ++ _)[t]? = _
 rw [Array.getElem?_append_left (by simpa using hlt), List.getD_eq_getElem?_getD, List.getElem?_append_left hlt]
 simp [List.getElem?_eq_getElem hlt]
theorem z3h {ct : Ct} {tbl : Tbl} {fn : Func} {A : Nat → Prop} {p p' : ql} {w w' : World} {vs us : List Value} {ds l' : List D} {σ' : St} {a' : Act} {c : Cx} (hcA : c.A = A) (hcAt : c.At = fun k g => (k < ct.ar.length ∨ VB ≤ k) → p (k * 16) = some g) (hcs : ∀ i, i < VB → c.snap i = (vs ++ us).getD i undef) (hargs : zk (vs ++ us) A p w ct.all (vs ++ us) ds)
  (hb' : Bs c.A w (pinned p) p' w') (hf' : SF (c.at (qe tbl) l') σ' p' w' a') {xs : List X} (hfin : fin ct fn.results.toList σ' = some xs) :
  ∃ rs p2, (results fn a'.tmps).run Try.prog w' = .ok (qd5 rs) w' ∧ Bs A w (pinned p) p2 w' ∧ q7s A p2 w' ct.rs ct.ar.length rs ((X.evs (evl (qe tbl) l') xs).take ct.rs.length) ∧ q2n A p p2 w' ct.all ((X.evs (evl (qe tbl) l') xs).drop ct.rs.length) := by
 subst hcA
 generalize houts : X.evs (evl (qe tbl) l') xs = outs
 unfold fin at hfin
 simp only at hfin
 split at hfin
 ·rename_i hok
  simp only [Bool.and_eq_true] at hok
  split at hfin
  ·rename_i xa xb hxa hxb
   injection hfin with hfin
   subst hfin
   have hb1 := hb'.un (fun y => !zg ((qjz σ' (fn.results.toList.zip ct.rs) ct.ar.length ++ qb5 σ' ct.all).map (·.1) ++ (q94 ct.all ++ q5l σ' fn.results.toList)) y)
   have hf1 := SF.un (c := c.at (qe tbl) l') (q := fun y => !zg ((qjz σ' (fn.results.toList.zip ct.rs) ct.ar.length ++ qb5 σ' ct.all).map (·.1) ++ (q94 ct.all ++ q5l σ' fn.results.toList)) y) hb'.inj hb'.pa hf'
   obtain ⟨p2, hb2, hf2⟩ := qii (c := c.at (qe tbl) l') hok.1 hb1 hf1
   obtain ⟨l, h1, h2, h3⟩ := qxa hf2 (Nat.eq_of_beq_eq_true hok.2) hxa
   have h4 := qx8 (p0 := p) (n0 := ct.ar.length) hf2 hcAt (fun e he => z37 he) (fun i t hm h1 h2 h3 => by
    obtain ⟨g, e1, e2⟩ := zfi hargs i t hm h1 h2 h3
    exact ⟨g, (hcs i h2).trans e1, e2⟩) hxb
   have hev : X.evs (evl (qe tbl) l') xa ++ X.evs (evl (qe tbl) l') xb = outs := by rw [← qc5]; exact houts
   have hla : (X.evs (evl (qe tbl) l') xa).length = ct.rs.length := by rw [q9c, h3]
   refine ⟨l, p2, qkm h1, hb2, ?_, ?_⟩
   ·rw [← hev, List.take_append_of_le_length (by omega), ← hla, List.take_length]
    exact h2
   ·rw [← hev, ← hla, List.drop_left]
    exact h4
  ·cases hfin
 ·cases hfin
theorem zbr {ct : Ct} {tbl : Tbl} (ann : Ann) (fn : Func) (cd : Code) (htb : q17 tbl) (hf : Try.prog.funcs[ct.f]? = some fn) (hb : fn.body = some cd) (hsz : ct.ar.length ≤ fn.ntmps)
  {A : Nat → Prop} {p : ql} {w : World} {vs us : List Value} {ds : List D} {R : List D → Prop} (hpre : Pre ct.ar.length A p w) (hvl : vs.length = ct.ar.length) (hargs : zk (vs ++ us) A p w ct.all (vs ++ us) ds)
  (h : WfA ct.ars ds → (qp0 Try.prog tbl ann ct fn cd).go (qe tbl) R ds fun _ _ => False) {P : Ending → World → Prop}
  (hret : ∀ o rs p' w', R o → Bs A w (pinned p) p' w' → q7s A p' w' ct.rs ct.ar.length rs (o.take ct.rs.length) → q2n A p p' w' ct.all (o.drop ct.rs.length) → P (.returned (qd5 rs)) w')
  (hQ : ∀ e ∈ tbl, ∀ T, e.1.pn = some T → (∃ ds, e.2 ds = some [.u]) → ∀ w', But (pinned p) w w' → P (.panicked (q7w T)) w')
  (hR : R [.u] → ∀ e ∈ tbl, ∀ T, e.1.pn = some T → ∀ w', But (pinned p) w w' → P (.panicked (q7w T)) w') : cd.wp Try.prog (bodyPost Try.prog fn P) { tmps := vs.toArray ++ Array.replicate (fn.ntmps - vs.toArray.size) undef, defers := [] } w := by
 obtain ⟨hwf, hdl, -⟩ := hargs.wf
 rw [all_map] at hwf hdl
 have hgo := h hwf
 obtain ⟨hb0, hsf⟩ := qtd (tbl := tbl) hsz hpre hvl hargs
 refine (wpIn_wide (n := 0)).1 ?_
 refine qhq none 0 (c := cxA tbl ct A p vs us ds) (S0 := pinned p) (w0 := w) (d := []) (z := fn.ntmps) htb cd hgo hdl hb0 hsf rfl (by simp; omega) (fun e he T h1 h2 a w2 h3 h4 => ⟨h3, hQ e he T h1 h2 w2 h4⟩) (fun h0 e he T h1 a w2 h3 h4 => ⟨h3, hR h0 e he T h1 w2 h4⟩) fun n' r σ' l' B' p' w' a' hl' hpre' hB hgo' hb' hf' hd' hz' => ?_
 have fin' : ∀ xs, fin ct fn.results.toList σ' = some xs → R (X.evs (evl (qe tbl) l') xs) → a'.defers = [] ∧ ∃ v, (results fn a'.tmps).run Try.prog w' = .ok v w' ∧ P (.returned v) w' := by
  intro xs hfin hout
  obtain ⟨rs, p2, h1, h2, h3, h4⟩ := z3h (c := cxA tbl ct A p vs us ds) rfl rfl (fun _ _ => rfl) hargs hb' hf' hfin
  exact ⟨hd', _, h1, hret _ rs p2 w' hout h2 h3 h4⟩
 cases r with
 | exit i => exact hgo'.elim
 | normal =>
  simp only [qrv] at hgo'
  split at hgo'
  ·rename_i xs hx
   exact fin' xs hx hgo'
  ·exact hgo'.elim
 | ret =>
  simp only [qrv] at hgo'
  split at hgo'
  ·rename_i xs hx
   exact fin' xs hx hgo'
  ·exact hgo'.elim
theorem zaz {ct : Ct} {tbl : Tbl} (ann : Ann) (fn : Func) (cd : Code) (htb : q17 tbl) (hf : Try.prog.funcs[ct.f]? = some fn) (hb : fn.body = some cd) (hsz : ct.ar.length ≤ fn.ntmps)
  {A : Nat → Prop} {p : ql} {w : World} {vs us : List Value} {ds : List D} {R : List D → Prop} (hpre : Pre ct.ar.length A p w) (hvl : vs.length = ct.ar.length) (hargs : zk (vs ++ us) A p w ct.all (vs ++ us) ds)
  (h : WfA ct.ars ds → (qp0 Try.prog tbl ann ct fn cd).go (qe tbl) R ds fun _ _ => False) {P : Ending → World → Prop}
  (hret : ∀ o rs p' w', R o → Bs A w (pinned p) p' w' → q7s A p' w' ct.rs ct.ar.length rs (o.take ct.rs.length) → q2n A p p' w' ct.all (o.drop ct.rs.length) → P (.returned (qd5 rs)) w')
  (hQ : ∀ e ∈ tbl, ∀ T, e.1.pn = some T → (∃ ds, e.2 ds = some [.u]) → ∀ w', But (pinned p) w w' → P (.panicked (q7w T)) w')
  (hR : R [.u] → ∀ e ∈ tbl, ∀ T, e.1.pn = some T → ∀ w', But (pinned p) w w' → P (.panicked (q7w T)) w') : Calls Try.prog ct.f vs.toArray w P := calls_of_wp hf hb (zbr ann fn cd htb hf hb hsz hpre hvl hargs h hret hQ hR)
theorem zhf {ct : Ct} {g : List D → Option (List D)} {tbl : Tbl} (ann : Ann) (fn : Func) (cd : Code) (htb : q17 tbl) (hf : Try.prog.funcs[ct.f]? = some fn) (hb : fn.body = some cd)
  (hen : ∀ args w, (callFunc ct.f args).run Try.prog w = .ok (.enter ct.f args) w) (hsz : ct.ar.length ≤ fn.ntmps)
  (h : ∀ ds outs, WfA ct.ars ds → g ds = some outs → (qp0 Try.prog tbl ann ct fn cd).go (qe tbl) (fun o => o = outs) ds fun _ _ => False) (hnp : q9x tbl = true := by rfl) (hkp : ct.kp = [] := by rfl) : FOk ct g :=
 ⟨hen, fun A p w vs us ds outs hg hpre hvl hargs => zaz ann fn cd htb hf hb hsz hpre hvl hargs (fun hw => h ds outs hw hg)
  (fun o rs p' w' ho h1 h2 h3 => .inr ⟨rs, p', rfl, h1, by rw [← ho]; exact h2, by rw [← ho]; exact h3⟩) (fun e he T hT => (q8t hnp he hT).elim) (fun _ e he T hT => (q8t hnp he hT).elim), fun h => absurd hkp h⟩
def FAt (ct : Ct) (ds outs : List D) : Prop := ∀ (A : Nat → Prop) (p : ql) (w : World) (vs us : List Value), Pre ct.ar.length A p w → vs.length = ct.ar.length → zk (vs ++ us) A p w ct.all (vs ++ us) ds →
  Calls Try.prog ct.f vs.toArray w fun e w' => (∃ T, ct.pn = some T ∧ outs = [.u] ∧ e = .panicked (q7w T) ∧ But (pinned p) w w') ∨ ∃ rs p', e = .returned (qd5 rs) ∧ Bs A w (pinned p) p' w' ∧ q7s A p' w' ct.rs ct.ar.length rs (outs.take ct.rs.length) ∧ q2n A p p' w' ct.all (outs.drop ct.rs.length)
theorem FOk.of_at {ct : Ct} {g : List D → Option (List D)} (hen : ∀ args w, (callFunc ct.f args).run Try.prog w = .ok (.enter ct.f args) w) (h : ∀ ds outs, WfA ct.ars ds → g ds = some outs → FAt ct ds outs) (hkp : ct.kp = [] := by rfl) : FOk ct g :=
 ⟨hen, fun A p w vs us ds outs hg hpre hvl hargs => h ds outs (by rw [← all_map]; exact hargs.wf.1) hg A p w vs us hpre hvl hargs, fun h => absurd hkp h⟩
theorem q17.nil : q17 [] := fun e he => by cases he
theorem q17.cons {ct : Ct} {g : List D → Option (List D)} {l : Tbl} (h : FOk ct g) (hl : q17 l) : q17 ((ct, g) :: l) := fun e he => by
 rcases List.mem_cons.1 he with rfl | he
 ·exact h
 ·exact hl e he
end
theorem Wf.row {d : D} {E : TypeId} (h : Wf d (.row E)) : ∃ l te, d = .r l ∧ qk E = some te ∧ l.length ≤ LM te ∧ ∀ x ∈ l, Wf x te := by
 obtain ⟨w, F, cs, h⟩ := h
 cases d with
 | r l =>
  obtain ⟨E', te, A, cap, e, hte, e3, h1, h2, -, hR⟩ := h
  injection e with e
  subst e
  refine ⟨l, te, rfl, hte, h2, fun x hx => ?_⟩
  obtain ⟨i, hi, rfl⟩ := List.mem_iff_getElem.1 hx
  obtain ⟨b, o, c, -, -, -, hr⟩ := q14.1 hR i hi
  exact ⟨w, F, c, hr⟩
 | u => exact h.elim
 | i n => obtain ⟨k, e, -⟩ := h; cases e
 | b x => cases h.1
 | s x => cases h.1
 | a l => obtain ⟨T', fs0, e1, -⟩ := h; cases e1
 | mp l => obtain ⟨K, V, kt, vt, g, es, clock, e, -⟩ := h; cases e
theorem Wf.int {d : D} {k : IntKind} (h : Wf d (.int k)) : ∃ n, d = .i n ∧ j8 k n = true := by
 obtain ⟨w, F, cs, h⟩ := h
 cases d with
 | i n =>
  obtain ⟨k', e, -, hr⟩ := h
  injection e with e
  subst e
  exact ⟨n, rfl, hr⟩
 | u => exact h.elim
 | r l => obtain ⟨E, te, A, cap, e, -⟩ := h; cases e
 | b x => cases h.1
 | s x => cases h.1
 | a l => obtain ⟨T', fs0, e1, -⟩ := h; cases e1
 | mp l => obtain ⟨K, V, kt, vt, g, es, clock, e, -⟩ := h; cases e
theorem Wf.bool {d : D} (h : Wf d .bool) : ∃ x, d = .b x := by
 obtain ⟨w, F, cs, h⟩ := h
 cases d with
 | b x => exact ⟨x, rfl⟩
 | u => exact h.elim
 | r l => obtain ⟨E, te, A, cap, e, -⟩ := h; cases e
 | i n => obtain ⟨k, e, -⟩ := h; cases e
 | s x => cases h.1
 | a l => obtain ⟨T', fs0, e1, -⟩ := h; cases e1
 | mp l => obtain ⟨K, V, kt, vt, g, es, clock, e, -⟩ := h; cases e
theorem Wf.str {d : D} (h : Wf d .str) : ∃ x, d = .s x ∧ x.size ≤ LIM := by
 obtain ⟨w, F, cs, h⟩ := h
 cases d with
 | s x => exact ⟨x, rfl, h.2.2⟩
 | u => exact h.elim
 | r l => obtain ⟨E, te, A, cap, e, -⟩ := h; cases e
 | i n => obtain ⟨k, e, -⟩ := h; cases e
 | b x => cases h.1
 | a l => obtain ⟨T', fs0, e1, -⟩ := h; cases e1
 | mp l => obtain ⟨K, V, kt, vt, g, es, clock, e, -⟩ := h; cases e
def WfL : List D → List Ty → Prop
 | [], fs => fs = []
 | d :: ds, fs => ∃ t ts, fs = t :: ts ∧ Wf d t ∧ WfL ds ts
theorem RdF.wf {w : World} {F : Nat → Prop} : ∀ {ds : List D} {fs : List Ty} {cs : List Value}, RdF w F ds fs cs → WfL ds fs
 | [], fs, cs, h => h.1
 | d :: ds, fs, cs, h => by
  obtain ⟨t, ts, c1, c2, e1, -, h1, h2⟩ := h
  exact ⟨t, ts, e1, ⟨w, F, c1, h1⟩, RdF.wf h2⟩
theorem Wf.st {d : D} {S : TypeId} (h : Wf d (.st S)) : ∃ ds fs, d = .a ds ∧ flds S = some fs ∧ WfL ds fs := by
 obtain ⟨w, F, cs, h⟩ := h
 cases d with
 | a l =>
  obtain ⟨T', fs0, e1, e2, h⟩ := h
  injection e1 with e1
  subst e1
  exact ⟨l, fs0, rfl, e2, RdF.wf h⟩
 | u => exact h.elim
 | r l => obtain ⟨E, te, A, cap, e, -⟩ := h; cases e
 | i n => obtain ⟨k, e, -⟩ := h; cases e
 | b x => cases h.1
 | s x => cases h.1
 | mp l => obtain ⟨K, V, kt, vt, g, es, clock, e, -⟩ := h; cases e
def zcy (e : Ev) : List X → Bool
 | [] => true
 | x :: l => (x.ev e).tt && zcy e l
theorem z48 {e : Ev} : ∀ {l : List X}, zcy e l = true → qc e l
 | [], _ => trivial
 | x :: l, h => by
  simp only [zcy, Bool.and_eq_true] at h
  exact ⟨h.1, z48 h.2⟩
def itf (f : List D → Option (Nat × List D)) (id : Nat) : Nat → List D → Option (Nat × List D)
 | 0, _ => none
 | k + 1, st => match f st with
  | some (j, st') => if Nat.beq j (id + 1) then itf f id k st' else some (j, st')
  | none => none
def qx3 : Nat × List D → Nat × List D → Bool := fun a b => Nat.beq a.1 b.1 && D.beqs a.2 b.2
def Tree.den (S : Nat → List D → Option (List D)) (fuel : Nat) : Tree → List D → Option (Nat × List D)
 | .bad _, _ => none
 | .need ns t, l => if zcy (evl S l) ns then t.den S fuel l else none
 | .br x t e, l => if (x.ev (evl S l)).tt then t.den S fuel l else e.den S fuel l
 | .amb x neg t e, l => if (x.ev (evl S l)).rs.isEmpty then (match t.den S fuel l, e.den S fuel l with
   | some a, some b => if qx3 a b then some a else none
   | _, _ => none) else if neg then t.den S fuel l else e.den S fuel l
 | .leaf xs, l => some (0, X.evs (evl S l) xs)
 | .back id xs, l => some (id + 1, X.evs (evl S l) xs)
 | .loop id n init body, l => itf (fun st => body.den S fuel (l.take n ++ st)) id fuel (X.evs (evl S l) init)
def zg1 (R : List D → Prop) (B : Nat → List D → Prop) : Nat × List D → Prop
  | (0, xs) => R xs
  | (id + 1, xs) => B id xs
theorem z5a : ∀ {l m : List D}, D.beqs l m = true → l = m
 | [], [], _ => rfl
 | x :: l, y :: m, h => by
  simp only [D.beqs, Bool.and_eq_true] at h
  rw [(D.beq_iff _ _).1 h.1, z5a h.2]
 | [], _ :: _, h => by simp [D.beqs] at h
 | _ :: _, [], h => by simp [D.beqs] at h
theorem z27 {a b : Nat × List D} (h : qx3 a b = true) : a = b := by
 obtain ⟨i, l⟩ := a
 obtain ⟨j, m⟩ := b
 simp only [qx3, Bool.and_eq_true] at h
 rw [Nat.eq_of_beq_eq_true h.1, z5a h.2]
theorem qzh {P : Nat → Prop} (h : ∃ k, P k) : ∃ m, P m ∧ ∀ k, P k → m ≤ k := by
 obtain ⟨k, hk⟩ := h
 induction k using Nat.strongRecOn with
 | _ k ih =>
  by_cases hl : ∃ j, j < k ∧ P j
  ·obtain ⟨j, hj, hp⟩ := hl
   exact ih j hj hp
  ·exact ⟨k, hk, fun j hj => Nat.le_of_not_lt fun hlt => hl ⟨j, hlt, hj⟩⟩
open Classical in
noncomputable def qee (P : Nat → Prop) : Nat := if h : ∃ k, P k then (qzh h).choose else 0
theorem qto {P : Nat → Prop} (h : ∃ k, P k) : P (qee P) ∧ ∀ k, P k → qee P ≤ k := by
 unfold qee
 rw [dif_pos h]
 exact (qzh h).choose_spec
theorem z68 {S : Nat → List D → Option (List D)} {fuel : Nat} {R : List D → Prop} : ∀ (t : Tree) {l : List D} {B : Nat → List D → Prop} {out : Nat × List D}, t.den S fuel l = some out → zg1 R B out → t.go S R l B := by
 intro t
 induction t with
 | bad n => intro l B out h; cases h
 | need ns t ih =>
  intro l B out h ho
  unfold Tree.den at h
  split at h
  ·rename_i hs
   exact ⟨z48 hs, ih h ho⟩
  ·cases h
 | br x t e iht ihe =>
  intro l B out h ho
  unfold Tree.den at h
  refine ⟨fun hx => ?_, fun hx => ?_⟩
  ·rw [if_pos hx] at h
   exact iht h ho
  ·rw [if_neg (by rw [hx]; decide)] at h
   exact ihe h ho
 | amb x neg t e iht ihe =>
  intro l B out h ho
  unfold Tree.den at h
  split at h
  ·split at h
   ·rename_i a b ha hb
    split at h
    ·rename_i hs
     injection h with h
     subst h
     have := z27 hs
     subst this
     exact ⟨fun _ => iht ha ho, fun _ => ihe hb ho⟩
    ·cases h
   ·cases h
  ·rename_i hne
   have hne' : ¬ (x.ev (evl S l)).rs = [] := fun e => hne (by rw [e]; rfl)
   split at h
   ·rename_i hn
    exact ⟨fun _ => iht h ho, fun hc => absurd (hc hn) hne'⟩
   ·rename_i hn
    exact ⟨fun hc => absurd (hc (by simpa using hn)) hne', fun _ => ihe h ho⟩
 | leaf xs =>
  intro l B out h ho
  simp only [Tree.den, Option.some.injEq] at h
  subst h
  exact ho
 | back id xs =>
  intro l B out h ho
  simp only [Tree.den, Option.some.injEq] at h
  subst h
  exact ho
 | loop id n init body ih =>
  intro l B out h ho
  unfold Tree.den at h
  generalize hf : (fun st => body.den S fuel (l.take n ++ st)) = f at h
  have hfe : ∀ st, body.den S fuel (l.take n ++ st) = f st := fun st => by rw [← hf]
  -- more rounds answer alike
  have mono : ∀ k st o, itf f id k st = some o → itf f id (k + 1) st = some o := by
   intro k
   induction k with
   | zero => intro st o h; cases h
   | succ k ihk =>
    intro st o h
    unfold itf at h ⊢
    split at h
    ·rename_i j st' hj
     split at h
     ·rename_i hb
      rw [if_pos hb]
      exact ihk _ _ h
     ·rename_i hb
      rw [if_neg hb]
      exact h
    ·cases h
  refine ⟨fun st => ∃ k o, itf f id k st = some o ∧ zg1 R B o, fun st => qee fun k => (itf f id k st).isSome = true, ⟨fuel, out, h, ho⟩, ?_⟩
  rintro st - ⟨k, o, hk, hoo⟩
  have hex : ∃ k, (itf f id k st).isSome = true := ⟨k, by rw [hk]; rfl⟩
  obtain ⟨hmin, -⟩ := qto hex
  obtain ⟨o', ho'⟩ := Option.isSome_iff_exists.1 hmin
  have up : ∀ a b st o, itf f id a st = some o → itf f id (a + b) st = some o := by
   intro a b
   induction b with
   | zero => intro st o h; exact h
   | succ b ihb => intro st o h; exact mono _ _ _ (ihb st o h)
  have hoo' : o' = o := by
   have h1 := up _ k st o' ho'
   have h2 := up k (qee fun k => (itf f id k st).isSome = true) st o hk
   rw [Nat.add_comm] at h2
   exact Option.some.inj (h1.symm.trans h2)
  rw [hoo'] at ho'
  cases hm : qee (fun k => (itf f id k st).isSome = true) with
  | zero => rw [hm] at ho'; cases ho'
  | succ m =>
   rw [hm] at ho'
   unfold itf at ho'
   split at ho'
   ·rename_i j st' hj
    refine ih ((hfe st).trans hj) ?_
    split at ho'
    ·rename_i hb
     obtain rfl := Nat.eq_of_beq_eq_true hb
     show jm B id _ id st'
     unfold jm
     rw [if_pos rfl]
     refine ⟨⟨m, o, ho', hoo⟩, ?_⟩
     have hex' : ∃ k, (itf f id k st').isSome = true := ⟨m, by rw [ho']; rfl⟩
     show _ < qee (fun k => (itf f id k st).isSome = true)
     rw [hm]
     exact Nat.lt_succ_of_le ((qto hex').2 m (by rw [ho']; rfl))
    ·rename_i hb
     injection ho' with ho'
     subst ho'
     cases j with
     | zero => exact hoo
     | succ j =>
      show jm B id _ j st'
      unfold jm
      rw [if_neg]
      ·exact hoo
      ·intro e
       subst e
       exact hb (Nat.beq_refl _)
   ·cases ho'
def zc3 : Option (Nat × List D) → Option (List D)
 | some (0, xs) => some xs
 | _ => none
theorem z9p {o : Option (Nat × List D)} {xs : List D} (h : zc3 o = some xs) : o = some (0, xs) := by
 unfold zc3 at h
 split at h
 ·injection h with h; rw [h]
 ·cases h
def z83 (tbl : Tbl) (fuel : Nat) (t : Tree) : List D → Option (List D) := fun ds => zc3 (t.den (qe tbl) fuel ds)
theorem qne {tbl : Tbl} {fuel : Nat} {t : Tree} {ds outs : List D} (h : z83 tbl fuel t ds = some outs) : t.go (qe tbl) (fun o => o = outs) ds fun _ _ => False :=
 z68 t (z9p h) rfl
theorem FOk.none {ct : Ct} (hen : ∀ args w, (callFunc ct.f args).run Try.prog w = .ok (.enter ct.f args) w) : FOk ct fun _ => Option.none := ⟨hen, fun A p w vs us ds outs h => (by cases h), fun _ A p w vs us ds outs h => (by cases h)⟩
def q15 (m : List D → Nat) (n : Nat) (g : List D → Option (List D)) : List D → Option (List D) := fun ds => if m ds < n then g ds else none
theorem q2t {ct : Ct} {m : List D → Nat} {g : List D → Option (List D)} (hen : ∀ args w, (callFunc ct.f args).run Try.prog w = .ok (.enter ct.f args) w) (h : ∀ n, FOk ct (q15 m n g) → FOk ct (q15 m (n + 1) g)) : FOk ct g := by
 have key : ∀ n, FOk ct (q15 m n g) := by
  intro n
  induction n with
  | zero => exact ⟨hen, fun A p w vs us ds outs h => (by simp [q15] at h), fun _ A p w vs us ds outs h => (by simp [q15] at h)⟩
  | succ n ih => exact h n ih
 refine ⟨hen, fun A p w vs us ds outs hg hp hl ha => (key (m ds + 1)).call A p w vs us ds outs ?_ hp hl ha, fun hk A p w vs us ds outs hg hp hl ha => (key (m ds + 1)).keep hk A p w vs us ds outs ?_ hp hl ha⟩ <;>
 ·simp only [q15, if_pos (Nat.lt_succ_self _)]
  exact hg
theorem FOk.sub {ct : Ct} {g g' : List D → Option (List D)} (h : FOk ct g) (hs : ∀ ds outs, g' ds = some outs → g ds = some outs) : FOk ct g' := ⟨h.enter, fun A p w vs us ds outs hg hp hl ha => h.call A p w vs us ds outs (hs ds outs hg) hp hl ha, fun hk A p w vs us ds outs hg hp hl ha => h.keep hk A p w vs us ds outs (hs ds outs hg) hp hl ha⟩
section
section
variable {A A' : Nat → Prop} {p : ql} {w : World} (hA : ∀ b, b < w.heap.size → A b → A' b)
include hA
theorem FFD.chA {dep : List Nat} {b : Nat} (hb : b < w.heap.size) (h : FFD A p dep b) : FFD A' p dep b := by
 rcases h with ⟨h1, h2⟩ | h
 ·exact .inl ⟨hA b hb h1, h2⟩
 ·exact .inr h
theorem Rd.chA {dep : List Nat} {d : D} {t : Ty} {cs : List Value} (h : Rd w (FFD A p dep) d t cs) : Rd w (FFD A' p dep) d t cs := Rd.mono (fun b hb hf => hf.chA hA hb) h
theorem Fl.chA {dep : List Nat} {o : Option Nat} {d : D} {t : Ty} {cs : List Value} (h : Fl A p w dep o d t cs) : Fl A' p w dep o d t cs := by
 cases o with
 | none => exact Rd.chA hA h
 | some pin =>
  rcases h with ⟨E, te, l, v, e1, hte, e2, e3, hv⟩ | h
  ·refine .inl ⟨E, te, l, v, e1, hte, e2, e3, ?_⟩
   rcases hv with hv | ⟨g, cap, cur, e4, hg, hh, q1, q2, q3, q4, q5⟩
   ·exact .inl hv
   ·refine .inr ⟨g, cap, cur, e4, hg, hh, q1, q2, q3, q4, fun i hi => ?_⟩
    obtain ⟨vs, hr1, hd⟩ := q5 i hi
    exact ⟨vs, hr1, Rd.chA hA hd⟩
  ·exact .inr h
theorem Fls.chA {dep : List Nat} {own : List (Nat × Nat)} : ∀ {ds : List D} {j : Nat} {fs : List Ty} {cs : List Value}, Fls A p w dep own j ds fs cs → Fls A' p w dep own j ds fs cs
 | [], _, _, _, h => h
 | d :: ds, j, fs, cs, ⟨t, ts, c1, c2, e1, e2, h1, h2⟩ => ⟨t, ts, c1, c2, e1, e2, Fl.chA hA h1, Fls.chA h2⟩
theorem Con.chA {dep : List Nat} {own : List (Nat × Nat)} {d : D} {t : Ty} {cs : List Value} (h : Con A p w d t own dep cs) : Con A' p w d t own dep cs := by
 unfold Con at h ⊢
 split
 ·obtain ⟨fs, ds, hf, e, h⟩ := h
  exact ⟨fs, ds, hf, e, Fls.chA hA h⟩
 ·rename_i hne
  split at h
  ·rename_i T; exact absurd rfl (hne T)
  ·exact Fl.chA hA h
end
mutual
/-- No word of a snapshot within. -/
def AV.plain : AV → Bool
 | .sn _ _ => false
 | .pt _ _ _ _ => false
 | .ar _ _ _ => false
 | .lv _ _ => false
 | .ax _ _ _ _ => false
 | .tup l => qba l
 | .gd _ a => AV.plain a
 | .fn _ l => qba l
 | .bx _ _ a => AV.plain a
 | .fr _ a => AV.plain a
 | _ => true
def qba : List AV → Bool
 | [] => true
 | a :: l => AV.plain a && qba l
end
section
variable {c c' : Cx} {p : ql} {w : World}
mutual
theorem AV.chA (hA : ∀ b, b < w.heap.size → c.A b → c'.A b) (hv : c.v = c'.v) (hT : c.At = c'.At) : ∀ (x : AV) (v : Value), x.plain = true → x.pd c p w v → x.pd c' p w v
 | .any, v, _, h => h
 | .undef, v, _, h => h
 | .nilS, v, _, h => h
 | .nb x neg, v, _, ⟨b, e, h⟩ => ⟨b, e, by rw [← hv]; exact h⟩
 | .nilP, v, _, h => h
 | .ref k q o t, v, _, ⟨g, hg, e, ha⟩ => ⟨g, hg, e, by rw [← hT]; exact ha⟩
 | .v x t own dep, v, _, ⟨cs, hp, hc⟩ => ⟨cs, hp, by rw [← hv]; exact hc.chA hA⟩
 | .rd x t dep wr, v, _, ⟨b, o, cs, e, hf, hr, h0, hd, hw⟩ => by
  refine ⟨b, o, cs, e, hf.chA hA (qen hr h0), hr, h0, by rw [← hv]; exact Rd.chA hA hd, ?_⟩
  match wr, hw with
  | none, _ => trivial
  | some (pin, i, pt, q, te), hw =>
   refine ⟨hw.1, ?_⟩
   rw [← hv]
   exact hw.2
 | .tup l, v, hb, ⟨vs, e, h⟩ => ⟨vs, e, qv7 hA hv hT l vs (by simpa [AV.plain] using hb) h⟩
 | .gd cs a, v, hb, h => by
  rw [show AV.pd c' p w (.gd cs a) v = ((hold c'.v cs = true → AV.pd c' p w a v) ∧ (hold c'.v cs = false → v = Go.undef)) from rfl, ← hv]
  exact ⟨fun hc => AV.chA hA hv hT a v (by simpa [AV.plain] using hb) (h.1 hc), h.2⟩
 | .fn f l, v, hb, ⟨vs, e, h⟩ => ⟨vs, e, qv7 hA hv hT l vs (by simpa [AV.plain] using hb) h⟩
 | .bx k T a, v, hb, ⟨g, u, hg, e, hh, h⟩ => ⟨g, u, ⟨hg.1, by rw [← hT]; exact hg.2⟩, e, hh, AV.chA hA hv hT a u (by simpa [AV.plain] using hb) h⟩
 | .sn t a, v, hb, h => by simp [AV.plain] at hb
 | .pt _ _ _ _, v, hb, h => by simp [AV.plain] at hb
 | .ar _ _ _, v, hb, h => by simp [AV.plain] at hb
 | .lv _ _, v, hb, h => by simp [AV.plain] at hb
 | .ax _ _ _ _, v, hb, h => by simp [AV.plain] at hb
 | .fr T a, v, hb, ⟨g, u, ha, hf, e, hh, h⟩ => ⟨g, u, hA g (Array.getElem?_eq_some_iff.1 hh).1 ha, hf, e, hh, AV.chA hA hv hT a u (by simpa [AV.plain] using hb) h⟩
theorem qv7 (hA : ∀ b, b < w.heap.size → c.A b → c'.A b) (hv : c.v = c'.v) (hT : c.At = c'.At) : ∀ (l : List AV) (vs : List Value), qba l = true → pds c p w l vs → pds c' p w l vs
 | [], vs, _, h => h
 | a :: l, vs, hb, ⟨v, r, e, ha, hl⟩ => by
  simp only [qba, Bool.and_eq_true] at hb
  exact ⟨v, r, e, AV.chA hA hv hT a v hb.1 ha, qv7 hA hv hT l r hb.2 hl⟩
end
theorem q26.chA (hA : ∀ b, b < w.heap.size → c.A b → c'.A b) (hv : c.v = c'.v) {k : Nat} {e : Ent} (h : q26 c p w k e) : q26 c' p w k e := by
 obtain ⟨g, cs, T, hg, hh, hc⟩ := h
 exact ⟨g, cs, T, hg, hh, by rw [← hv]; exact hc.chA hA⟩
def snT (l : List (Nat × AV)) : List (Nat × AV) := l.map fun e => (e.1, .sn e.1 e.2)
def unsn : AV → AV
 | .sn _ a => a
 | a => a
def unT (l : List (Nat × AV)) : List (Nat × AV) := l.map fun e => (e.1, unsn e.2)
def qxp (l : List (Nat × AV)) : Bool := l.all fun e => e.2.plain
theorem qyv {α β : Type} {f : Nat → α → β} {l : List (Nat × α)} {k : Nat} {y : β} (h : lkA (l.map fun e => (e.1, f e.1 e.2)) k = some y) : ∃ x, lkA l k = some x ∧ y = f k x := by
 induction l with
 | nil => cases h
 | cons e l ih =>
  obtain ⟨m, x⟩ := e
  by_cases hm : m = k
  ·subst hm
   rw [List.map_cons, qf] at h
   injection h with h
   exact ⟨x, qf, h.symm⟩
  ·rw [List.map_cons, qg hm] at h
   rw [qg hm]
   exact ih h
theorem SF.snap (hA : ∀ b, b < w.heap.size → c.A b → c'.A b) (hv : c.v = c'.v) (hT : c.At = c'.At) {σ : St} {a : Act} (hs : ∀ t v, a.tmps[t]? = some v → c'.snap t = v) (hp : qxp σ.t = true) (h : SF c σ p w a) : SF c' ⟨snT σ.t, σ.m⟩ p w a := by
 refine ⟨fun t x hx => ?_, fun k e he => (h.m k e he).chA hA hv⟩
 obtain ⟨y, hy, rfl⟩ := qyv (f := fun t x => AV.sn t x) hx
 obtain ⟨v, h1, h2⟩ := h.t t y hy
 exact ⟨v, h1, (hs t v h1).symm, AV.chA hA hv hT y v (List.all_eq_true.1 hp _ (jn hy)) h2⟩
theorem SF.unsnap (hA : ∀ b, b < w.heap.size → c.A b → c'.A b) (hv : c.v = c'.v) (hT : c.At = c'.At) {σ : St} {a : Act} (hp : qxp (unT σ.t) = true) (h : SF c σ p w a) : SF c' ⟨unT σ.t, σ.m⟩ p w a := by
 refine ⟨fun t x hx => ?_, fun k e he => (h.m k e he).chA hA hv⟩
 have hpl := List.all_eq_true.1 hp _ (jn hx)
 obtain ⟨y, hy, rfl⟩ := q42 (f := unsn) hx
 obtain ⟨v, h1, h2⟩ := h.t t y hy
 refine ⟨v, h1, AV.chA hA hv hT _ v hpl ?_⟩
 unfold unsn
 split
 ·exact h2.2
 ·exact h2
theorem SF.other {σ : St} {a b : Act} (hs : ∀ t, a.tmps[t]? = some (c.snap t) ∨ a.tmps[t]? = none) (hsz : b.tmps.size ≤ a.tmps.size) (hall : ∀ t x, lkA σ.t t = some x → ∃ y, x = .sn t y) (h : SF c σ p w b) : SF c σ p w a := by
 refine ⟨fun t x hx => ?_, h.m⟩
 obtain ⟨y, rfl⟩ := hall t x hx
 obtain ⟨v, h1, h2, h3⟩ := h.t t _ hx
 have hlt := (Array.getElem?_eq_some_iff.1 h1).1
 rcases hs t with h4 | h4
 ·exact ⟨v, by rw [h4, h2], h2, h3⟩
 ·rw [Array.getElem?_eq_none_iff] at h4
  omega
end
section
variable {A : Nat → Prop} {p p' : ql} {w w' w0 : World} {S0 : Nat → Prop}
theorem Bs.anew (h : Bs A w0 S0 p w) : Bs A w (pinned p) p w :=
 ⟨h.inj, h.bd, But.refl _ _, fun x b hx => .inl ⟨x, hx⟩, fun b hb => h.new b (Nat.le_trans h.but.size hb), h.pa, h.obj⟩
theorem Bs.comp (h : Bs A w0 S0 p w) (h' : Bs A w (pinned p) p' w') : Bs A w0 S0 p' w' := by
 refine ⟨h'.inj, h'.bd, ⟨h'.but.os.trans h.but.os, h'.but.tape.trans h.but.tape, h'.but.output.trans h.but.output, Nat.le_trans h.but.size h'.but.size, fun k hk hn => ?_⟩, fun x b hx => ?_, h.new, h'.pa, h'.obj⟩
 ·have hkw : k < w.heap.size := Nat.lt_of_lt_of_le hk h.but.size
  refine (h'.but.block k hkw fun ⟨x, hx⟩ => ?_).trans (h.but.block k hk hn)
  rcases h.pin x k hx with h1 | h1
  ·exact hn h1
  ·omega
 ·rcases h'.pin x b hx with ⟨y, hy⟩ | h1
  ·exact h.pin y b hy
  ·exact .inr (Nat.le_trans h.but.size h1)
theorem Bs.stays (h' : Bs A w (pinned p) p' w') {b : Nat} (hb : b < w.heap.size) (hf : q8j p b) : w'.heap[b]? = w.heap[b]? ∧ q8j p' b := by
 refine ⟨h'.but.block b hb fun ⟨x, hx⟩ => hf x hx, fun x hx => ?_⟩
 rcases h'.pin x b hx with ⟨y, hy⟩ | h1
 ·exact hf y hy
 ·omega
end
end
def zg5 (l D : Nat) (w w' : World) : Prop := w'.heap[l]? = w.heap[l]? ∧ w'.heap[D]? = w.heap[D]?
theorem zia {gf : FuncId} {te : Ty} (hin : zj2 gf te) (hen : ∀ (args : Array Value) (w : World), (callFunc gf args).run Try.prog w = .ok (.enter gf args) w)
  {g : Operand} {ti tx : Tmp} {assign body : Code} {Q : Exit → Act → World → Prop} {a : Act} {w : World} {nn : Nat} (hn : 3 ≤ nn)
  {gc len cap : Nat} (hg : a.eval g = .func (.func gf) #[] #[.pointer (some ⟨gc, 0, none⟩)]) {A : Option Addr} {els : Nat → List Value} {ev : Nat → Value} (hlen : len < 1152921504606846976) (hels : ∀ i, i < len → zx te (els i) (ev i) ∧ (els i).length = te.w)
  (I : Nat → World → Prop) (M : Nat → Act → World → Prop)
  (hIr : ∀ k W, I k W → W.cell? ⟨gc, 0, none⟩ = some (.slice A len cap) ∧ ∀ i, i < len → ∃ b off, A = some ⟨b, off, none⟩ ∧ W.rangeAt b (off + i * te.w) (els i))
  (hIw : ∀ k W o, I k W → w.heap.size + 1 < W.heap.size → I k (W.putObj (w.heap.size + 1) o))
  (hMw : ∀ k a W o, M k a W → w.heap.size + 1 < W.heap.size → M k a (W.putObj (w.heap.size + 1) o))
  (h0 : ∀ o, I 0 ((w.alloc (.deferred (some []))).alloc o))
  (hassign : ∀ k W, I k W → k < len → assign.wpIn (FR (some (w.heap.size + 1))) (nn - 1 - 1) Try.prog (Exit.then (fun a1 W1 => M k a1 W1 ∧ zg5 (w.heap.size + 1) w.heap.size W W1) (fun _ _ _ => False))
   { tmps := (a.tmps.setIfInBounds ti (.int .i64 ((len : Int) - 1 - k))).setIfInBounds tx (ev (len - 1 - k)), defers := [] } W)
  (hbody : ∀ k a1 W1, M k a1 W1 → k < len → body.wpIn (FR (some (w.heap.size + 1))) (nn - 1 - 1) Try.prog (fun e a2 W2 => e = .normal ∧ I (k + 1) W2 ∧ zg5 (w.heap.size + 1) w.heap.size W1 W2) a1 W1)
  (hdone : ∀ W, I len W → W.heap[w.heap.size]? = some (.deferred (some [])) → Q .normal { a with defers := { target := .collected w.heap.size, args := #[] } :: a.defers } W) :
  (Code.rangeFunc g #[ti, tx] assign body).wpIn (FR none) nn Try.prog Q a w := by
 refine wpIn_rangeFunc ?_
 intro fn hfn
 obtain ⟨rec, hrec⟩ : ∃ rec : LoopState → Option Code → Loop, rec = fun st pe => { state := st, pending := pe, fn, tmps := a.tmps, params := #[ti, tx], assign, body, defers := w.heap.size } := ⟨_, rfl⟩
 have hD : ∀ o, (((w.alloc (.deferred (some []))).alloc o).heap[w.heap.size]? = some (.deferred (some []))) := fun o => by
  rw [hget, if_neg (by simp), hget, if_pos rfl]
 have hL : ∀ o, (((w.alloc (.deferred (some []))).alloc o).heap[w.heap.size + 1]? = some o) := fun o => by
  rw [hget, if_pos (by simp)]
 refine ⟨w.heap.size + 1, [{ target := .collected w.heap.size, args := #[] }], (w.alloc (.deferred (some []))).alloc (.loop (rec .ready none)), { target := .fn (.func gf) #[.pointer (some ⟨gc, 0, none⟩)], args := #[.func (.yield (w.heap.size + 1)) #[] #[]] }, (w.alloc (.deferred (some []))).alloc (.loop (rec .ready none)), gf,
  #[.func (.yield (w.heap.size + 1)) #[] #[]] ++ #[.pointer (some ⟨gc, 0, none⟩)], (w.alloc (.deferred (some []))).alloc (.loop (rec .ready none)), ?_, ?_, ?_, ?_, fun _ => by omega, ?_⟩
 ·rw [hrec]; exact run_enterLoop_outer _ _ _ _ _
 ·simp only [resolve, hg]
  simp [go_sem]
 ·intro f' hf'; trivial
 ·simp [invoke, go_sem, hen]
 ·refine (hin (FR none) (nn - 1) (w.heap.size + 1) gc len cap A els ev
   (fun k W => I k W ∧ W.heap[w.heap.size + 1]? = some (.loop (rec .ready none)) ∧ W.heap[w.heap.size]? = some (.deferred (some [])))
   (fun _ _ => False) _ trivial rfl (by omega) hlen hels (fun k W hj => hIr k W hj.1) ?_ ⟨h0 _, hL _, hD _⟩).mono ?_
  ·-- one round
   rintro k W ⟨hi, hl, hk⟩ hlt
   have hsz : w.heap.size + 1 < W.heap.size := (Array.getElem?_eq_some_iff.1 hl).1
   have hy := run_yield (P := Try.prog) (args := #[.int .i64 ((len : Int) - 1 - k), ev (len - 1 - k)]) hl (by rw [hrec]; rfl)
   rw [hrec] at hy
   have hz : ((#[ti, tx] : Array Tmp).zip #[Value.int .i64 ((len : Int) - 1 - k), ev (len - 1 - k)]).foldl (fun tmps (x : Tmp × Value) => tmps.setIfInBounds x.1 x.2) a.tmps = (a.tmps.setIfInBounds ti (.int .i64 ((len : Int) - 1 - k))).setIfInBounds tx (ev (len - 1 - k)) := by
    simp
   have ha := hassign k W hi hlt
   rw [← hz] at ha
   refine ⟨fn, _, assign, body, hy, roundIn_of_wpIn hfn (wpIn_mono ha ?_)⟩
   rintro e a1 W1 h1
   cases e with
   | normal =>
    obtain ⟨hm, hk1, hk2⟩ := h1
    have hl1 : W1.heap[w.heap.size + 1]? = some (.loop (rec .ready none)) := hk1.trans hl
    have hsz1 : w.heap.size + 1 < W1.heap.size := (Array.getElem?_eq_some_iff.1 hl1).1
    have hlb : (W1.putObj (w.heap.size + 1) (.loop { rec .ready none with state := .busy })).heap[w.heap.size + 1]? = some (.loop { rec .ready none with state := .busy }) := World.putObj_heap_same hsz1
    have hkb : (W1.putObj (w.heap.size + 1) (.loop { rec .ready none with state := .busy })).heap[w.heap.size]? = some (.deferred (some [])) := (World.putObj_heap_other (by omega)).trans (hk2.trans hk)
    refine ⟨_, run_beginRound hl1 (by rw [hrec]), ?_⟩
    refine wpIn_mono (hbody k a1 _ (hMw _ _ _ _ hm hsz1) hlt) ?_
    rintro e a3 W3 ⟨rfl, hi3, hk3, hk4⟩
    have hl3 := hk3.trans hlb
    have hsz3 : w.heap.size + 1 < W3.heap.size := (Array.getElem?_eq_some_iff.1 hl3).1
    have hr := run_endRound (P := Try.prog) none hl3
    refine ⟨_, _, hr, .inl ⟨rfl, hIw _ _ _ hi3 hsz3, ?_, (World.putObj_heap_other (by omega)).trans (hk4.trans hkb)⟩⟩
    have := World.putObj_heap_same (w := W3) (o := .loop { rec .ready none with state := .ready, pending := none }) hsz3
    rw [hrec] at this ⊢
    exact this
   | _ => exact h1.elim
  ·-- behind the iterator
   rintro e W2 ⟨⟨v, rfl⟩, ⟨hi, hl, hk⟩ | ⟨k, hf⟩⟩
   ·have hsz2 : w.heap.size + 1 < W2.heap.size := (Array.getElem?_eq_some_iff.1 hl).1
    exact ⟨none, _, by have := run_endLoop (P := Try.prog) hl (by rw [hrec]; simp); rw [hrec] at this; exact this, hdone _ (hIw _ _ _ hi hsz2) ((World.putObj_heap_other (by omega)).trans hk)⟩
   ·exact hf.elim
section
def bwG (g : FuncId) : List (FuncId × FuncId × TypeId × TypeId) → Option (FuncId × FuncId × TypeId × TypeId)
 | [] => none
 | e :: l => if Nat.beq e.2.1 g then some e else bwG g l
theorem zbe {g : FuncId} {e : FuncId × FuncId × TypeId × TypeId} : ∀ {l : List (FuncId × FuncId × TypeId × TypeId)}, bwG g l = some e → e ∈ l ∧ e.2.1 = g
 | [], h => by cases h
 | x :: l, h => by
  unfold bwG at h
  split at h
  ·rename_i hx
   injection h with h
   subst h
   exact ⟨List.mem_cons_self, Nat.eq_of_beq_eq_true hx⟩
  ·obtain ⟨h1, h2⟩ := zbe h
   exact ⟨List.mem_cons_of_mem _ h1, h2⟩
def z1f (σ : St) (g : Operand) : Option (X × FuncId × TypeId) := match opd σ [] g with
 | some (.fn f [.fr _ (.v x (.row E) _ _)]) => some (x, f, E)
 | _ => none
def zhq (σh : St) (ti tx i : Nat) (x : X) (te : Ty) : St := ⟨je (je σh.t ti (.v (.tok i) (.int .i64) [] [])) tx (.v (.get x (.tok i)) te [] []), σh.m⟩
def z1h (id : Nat) (ms : List Item) (kill : List Nat) (σk : St) (i : Nat) : ResD → St → Tree := fun r σb => match r with
 | .normal => (match conv [] ms (σb.drop kill) with
  | some (σc, _, vb) => if covers σc σk then .back id (vb ++ [ql8 (.tok i) (.lit (.i 1))]) else .bad (3000000 + id)
  | none => .bad (4000000 + id))
 | _ => .bad (10000000 + id)
def z29 (P : Program) (tbl : Tbl) (ann : Ann) (lo z : Nat) (id : Nat) (ms : List Item) (kill : List Nat) (g : Operand) (ti tx : Nat) (assign body : Code) (n : Nat) (σ : St) (k : Nat → St → Tree) : Tree := match conv [] ms σ with
 | some (σ1, _, vb) => (match z1f (q3w [] ms kill n ⟨snT σ1.t, σ1.m⟩) g with
  | some (x, f, E) => (match bwG f q8l, qk E with
   | some e, some te => if Nat.beq e.2.2.2 E && (z0 8 te && (X.upto n x && (qxp σ1.t && (qxp (unT (q3w [] ms kill n ⟨snT σ1.t, σ1.m⟩).t) && (Nat.blt ti z && Nat.blt tx z))))) then
     .loop id n (vb ++ [ql8 (q5f x) (.lit (.i 1))])
      (.br (leX (.lit (.i 0)) (.tok (n + vb.length)))
       (toT P tbl ann lo z assign [id] (n + (vb.length + 1)) (zhq (qbm [] ms n (q3w [] ms kill n ⟨snT σ1.t, σ1.m⟩)) ti tx (n + vb.length) x te) fun n1 r1 σa => match r1 with
        | .normal => toT P tbl ann lo z body [id] n1 σa fun n2 r2 σb => z1h id ms kill (q3w [] ms kill n ⟨snT σ1.t, σ1.m⟩) (n + vb.length) r2 σb
        | _ => .bad (11000000 + id))
       (k (n + (vb.length + 1)) ⟨unT (qbm [] ms n (q3w [] ms kill n ⟨snT σ1.t, σ1.m⟩)).t, (qbm [] ms n (q3w [] ms kill n ⟨snT σ1.t, σ1.m⟩)).m⟩))
    else .bad (12000000 + id)
   | _, _ => .bad (13000000 + id))
  | none => .bad (14000000 + id))
 | none => .need (z42 σ [] ms) (.bad (5000000 + id))
section
variable {c : Cx} {p : ql} {w w' w0 : World} {S0 : Nat → Prop} {a : Act} {σ σ' : St} {d : List Deferred} {z : Nat} {tbl : Tbl} {A : Nat → Prop}
theorem qi4 {l : Nat} (hA : ¬ A l) (pa : ∀ x b, p x = some b → A b) (o : Obj) : Stab A no no p w p (w.putObj l o) := by
 refine ⟨by simp, fun b hb ha hf => ⟨World.putObj_heap_other (fun e => hA (e ▸ ha)), hf⟩, fun x b _ hx => hx, fun x b _ hx => World.putObj_heap_other (fun e => hA (e ▸ pa x b hx))⟩
theorem z4z {l : Nat} (h : Bs A w0 S0 p w) (hA : ¬ A l) (hS : S0 l) (o : Obj) : Bs A w0 S0 p (w.putObj l o) := by
 refine ⟨h.inj, fun x b hx => by simpa using h.bd x b hx, ⟨h.but.os, h.but.tape, h.but.output, by simpa using h.but.size, fun k hk hn => (World.putObj_heap_other (fun e => hn (by rw [e]; exact hS))).trans (h.but.block k hk hn)⟩, h.pin, h.new, h.pa, fun x b hx => (h.obj x b hx).same (World.putObj_heap_other (fun e => hA (e ▸ h.pa x b hx)))⟩
theorem SF.same (hs : Stab c.A no no p w p w') (h : SF c σ p w a) : SF c σ p w' a := by
 refine ⟨fun t x hx => ?_, fun k e he => (h.m k e he).kept hs (fun _ _ => ⟨rfl, rfl⟩) ⟨rfl, rfl⟩⟩
 obtain ⟨v, h1, h2⟩ := h.t t x hx
 exact ⟨v, h1, AV.kept hs x v (fun _ _ => ⟨rfl, rfl⟩) (fun _ _ => rfl) h2⟩
theorem qv4 (hf : SF c σ p w a) {g : Operand} {x : X} {f : FuncId} {E : TypeId} (h : z1f σ g = some (x, f, E)) :
  ∃ gc T A1 cap te, a.eval g = .func (.func f) #[] #[.pointer (some ⟨gc, 0, none⟩)] ∧ c.A gc ∧ q8j p gc ∧ w.heap[gc]? = some (.cells #[.slice A1 (x.ev c.v).rs.length cap] T (0, 0)) ∧ qk E = some te ∧ x.ev c.v = .r (x.ev c.v).rs ∧ (x.ev c.v).rs.length ≤ LM te ∧ ∃ F : Nat → Prop, RdE w F (x.ev c.v).rs te A1 0 := by
 unfold z1f at h
 split at h
 ·rename_i f' T x' E' own dep hg
  simp only [Option.some.injEq, Prod.mk.injEq] at h
  obtain ⟨rfl, rfl, rfl⟩ := h
  obtain ⟨vs, hev, v1, r, rfl, ⟨gc, u, hA, hfr, rfl, hh, cs, hp, hc⟩, hr⟩ := qj hf rfl hg
  have hr : r = [] := hr
  subst hr
  obtain ⟨v2, rfl⟩ : ∃ v2, cs = [v2] := by
   have := hc.len.1
   match cs, this with
   | [v2], _ => exact ⟨v2, rfl⟩
  have hp : [v2] = [u] := hp
  injection hp with hp
  subst hp
  obtain ⟨te, A1, cap, hte, e1, e2, h1, h2, h3, h4⟩ := hc.row
  subst e2
  exact ⟨gc, T, A1, cap, te, hev, hA, hfr, hh, hte, e1, h2, _, h4⟩
 ·cases h
theorem zbp {te : Ty} (hb : z0 8 te = true) {F : Nat → Prop} {l : List D} {A1 : Option Addr} (h : RdE w F l te A1 0) : ∃ (els : Nat → List Value) (ev : Nat → Value), ∀ i (hi : i < l.length), (zx te (els i) (ev i) ∧ (els i).length = te.w) ∧ (∃ b off, A1 = some ⟨b, off, none⟩ ∧ w.rangeAt b (off + i * te.w) (els i)) ∧ ∀ (w' : World) (F' : Nat → Prop), Rd w' F' l[i] te (els i) := by
 refine ⟨fun i => (qe6 8 te (l.getD i .u)).getD [], fun i => (qz0 te ((qe6 8 te (l.getD i .u)).getD [])).getD undef, fun i hi => ?_⟩
 obtain ⟨b, o, cs, e, -, hr, hd⟩ := q14.1 h i hi
 have henc := qn9 8 hb hd
 have hget : l.getD i .u = l[i] := by simp [List.getD_eq_getElem?_getD, List.getElem?_eq_getElem hi]
 simp only [hget, henc, Option.getD_some]
 refine ⟨⟨?_, (Rd.len _ hd).1⟩, ⟨b, o, e, by simpa using hr⟩, fun w' F' => z3q 8 henc⟩
 cases hs : qd4 te with
 | true =>
  obtain ⟨S, rfl⟩ : ∃ S, te = .st S := by cases te <;> first | exact ⟨_, rfl⟩ | (cases hs; done)
  rfl
 | false =>
  obtain ⟨v, rfl⟩ := hd.single hs
  have : zx te [v] v := qfc hs
  rw [qhr.2 this]
  exact this
set_option maxHeartbeats 1000000 in
theorem z6g {nn : Nat} (hnn : 3 ≤ nn) (htb : q17 tbl) (hnp : q9x tbl = true) {ann : Ann} {R : List D → Prop} {id : Nat} {ms : List Item} {kill : List Nat} {g : Operand} {ti tx : Nat} {assign body : Code} {n : Nat} {k : Nat → St → Tree} {l : List D} {B : Nat → List D → Prop} {Q : Exit → Act → World → Prop}
  (h : (z29 Try.prog tbl ann c.lo z id ms kill g ti tx assign body n σ k).go (qe tbl) R l B) (hl : l.length = n) (hb : Bs c.A w0 S0 p w) (hf : SF (c.at (qe tbl) l) σ p w a) (hz : a.tmps.size = z)
  (hen : ∀ e ∈ q8l, ∀ (args : Array Value) (w : World), (callFunc e.2.1 args).run Try.prog w = .ok (.enter e.2.1 args) w)
  (hk : ∀ n' σ' l' B' p' w' (c2 : Cx), l'.length = n' → l'.take n = l → (∀ j, j ≠ id → B' j = B j) → (k n' σ').go (qe tbl) R l' B' → Bs c.A w0 S0 p' w' → c2.lo = c.lo → c2.At = c.At → (∀ b, c2.A b → c.A b) → (∀ b, w'.heap.size ≤ b → c2.A b) → (∀ x b, p' x = some b → c2.A b) → ¬ c2.A w.heap.size →
   SF (c2.at (qe tbl) l') σ' p' w' { a with defers := { target := .collected w.heap.size, args := #[] } :: a.defers } → w'.heap[w.heap.size]? = some (.deferred (some [])) →
   Q .normal { a with defers := { target := .collected w.heap.size, args := #[] } :: a.defers } w') :
  (Code.rangeFunc g #[ti, tx] assign body).wpIn (FR none) nn Try.prog Q a w := by
 unfold z29 at h
 split at h
 ·rename_i σ1 va vb hcv
  split at h
  ·rename_i x f E hbf
   split at h
   ·rename_i e te hbw hte
    split at h
    ·rename_i hok
     simp only [Bool.and_eq_true, Nat.blt_eq] at hok
     obtain ⟨hE, hflat, hux, hp1, hp2, hti, htx⟩ := hok
     obtain ⟨hmem, hef⟩ := zbe hbw
     have hE' := Nat.eq_of_beq_eq_true hE
     subst hef
     obtain ⟨IT, μ, hI0, hgo⟩ := h
     -- the change of names
     unfold conv at hcv
     split at hcv
     ·rename_i hrb
      split at hcv
      ·rename_i va' vb' hva hvb
       simp only [Option.some.injEq, Prod.mk.injEq] at hcv
       obtain ⟨rfl, rfl, rfl⟩ := hcv
       obtain ⟨p1, hb1, hf1⟩ := qii (c := c.at (qe tbl) l) hrb hb hf
       have hlt : l.take n = l := by rw [← hl]; exact List.take_length
       obtain ⟨A', hA'⟩ : ∃ A' : Nat → Prop, A' = fun b => c.A b ∧ b ≠ w.heap.size ∧ b ≠ w.heap.size + 1 := ⟨_, rfl⟩
       have hAn : ∀ b, w.heap.size + 2 ≤ b → A' b := fun b hb' => by
        rw [hA']
        exact ⟨hb.new b (by have := hb.but.size; omega), by omega, by omega⟩
       have hAc : ∀ b, A' b → c.A b := fun b h => by rw [hA'] at h; exact h.1
       have hAD : ¬ A' w.heap.size := fun h => by rw [hA'] at h; exact h.2.1 rfl
       have hAL : ¬ A' (w.heap.size + 1) := fun h => by rw [hA'] at h; exact h.2.2 rfl
       have hAw : ∀ b, b < w.heap.size → c.A b → A' b := fun b hlt ha => by rw [hA']; exact ⟨ha, by omega, by omega⟩
       clear hA'
       obtain ⟨c', hcv', hcA', hclo', hcT', hcs'⟩ : ∃ c' : Cx, c'.v = c.v ∧ c'.A = A' ∧ c'.lo = c.lo ∧ c'.At = c.At ∧ c'.snap = fun t => a.tmps.getD t undef := ⟨⟨c.v, A', c.lo, c.At, c.new, fun t => a.tmps.getD t undef⟩, rfl, rfl, rfl, rfl, rfl⟩
       have hsn : ∀ t v, a.tmps[t]? = some v → c'.snap t = v := fun t v hv => by
        rw [hcs']
        show a.tmps.getD t undef = v
        rw [Array.getD_eq_getD_getElem?, hv]
        rfl
       have hs1 : SF (c'.at (qe tbl) l) ⟨snT (σ.ren (q25 σ [] ms)).t, (σ.ren (q25 σ [] ms)).m⟩ p1 w a :=
        SF.snap (c := c.at (qe tbl) l) (c' := c'.at (qe tbl) l) (fun b hlt ha => by show c'.A b; rw [hcA']; exact hAw b hlt ha) rfl hcT'.symm hsn hp1 hf1
       have hsk := z0p (ts := []) (ms := ms) (kill := kill) (n := n) hs1
       obtain ⟨gc, T, A1, cap, te', hev, hgA, hgF, hgh, hte', hxr, hxl, F0, hRd⟩ := qv4 hsk hbf
       obtain rfl := Option.some.inj (hte'.symm.trans hte)
       obtain ⟨els, ev, hels⟩ := zbp hflat hRd
       have hgA : A' gc := by have : c'.A gc := hgA; rwa [hcA'] at this
       obtain ⟨xs, hxs⟩ : ∃ xs, (x.ev (evl (qe tbl) l)).rs = xs := ⟨_, rfl⟩
       have hxs' : (x.ev (c'.at (qe tbl) l).v).rs = xs := hxs
       rw [hxs'] at hgh hxl hRd
       simp only [hxs'] at hels
       obtain ⟨w1, hw1⟩ : ∃ w1 : World, w1 = (w.alloc (.deferred (some []))).alloc (.deferred none) := ⟨_, rfl⟩
       obtain ⟨S1, hS1⟩ : ∃ S1 : Nat → Prop, S1 = fun b => pinned p1 b ∨ b = w.heap.size ∨ b = w.heap.size + 1 := ⟨_, rfl⟩
       have hw1s : w1.heap.size = w.heap.size + 2 := by rw [hw1]; simp
       have hBs0 : ∀ o, Bs A' w1 S1 p1 ((w.alloc (.deferred (some []))).alloc o) := fun o => by
        refine ⟨hb1.inj, fun y b hy => by have := hb1.bd y b hy; simp; omega, ⟨by rw [hw1]; rfl, by rw [hw1]; rfl, by rw [hw1]; rfl, by rw [hw1s]; simp, fun k hk hn => ?_⟩, fun y b hy => .inl (by rw [hS1]; exact .inl ⟨y, hy⟩), fun b hb' => hAn b (by omega), fun y b hy => hAw b (hb1.bd y b hy) (hb1.pa y b hy), fun y b hy => ?_⟩
        ·rw [hS1] at hn
         have h1 : k ≠ w.heap.size := fun e => hn (.inr (.inl e))
         have h2 : k ≠ w.heap.size + 1 := fun e => hn (.inr (.inr e))
         have out : ∀ o, ((w.alloc (.deferred (some []))).alloc o).heap[k]? = w.heap[k]? := fun o => by rw [hget, if_neg (by simpa using h2), hget, if_neg h1]
         rw [out, hw1, out]
        ·rcases hb1.obj y b hy with ⟨cs', T', h2⟩ | ⟨es, clock, h2⟩
         ·exact .inl ⟨cs', T', q36 (q36 h2)⟩
         ·exact .inr ⟨es, clock, q36 (q36 h2)⟩
       have hSL : S1 (w.heap.size + 1) := by rw [hS1]; exact .inr (.inr rfl)
       have hlenv : ∀ {db : List D} {i : D}, db.length = vb'.length → (db ++ [i]).length = (vb' ++ [ql8 (q5f x) (.lit (.i 1))]).length := fun {db i} h => by simp [h]
       have htok : ∀ {db : List D} {i : D}, db.length = vb'.length → (l.take n ++ (db ++ [i])).getD (n + vb'.length) .u = i := fun {db i} h => by
        rw [hlt, List.getD_eq_getElem?_getD, List.getElem?_append_right (by omega), List.getElem?_append_right (by omega)]
        simp [hl, h]
       have hidx : ∀ {db : List D} {i : D} {l1 : List D}, db.length = vb'.length → l1.take (n + (vb'.length + 1)) = l.take n ++ (db ++ [i]) → (X.tok (n + vb'.length)).ev (evl (qe tbl) l1) = i := fun {db i l1} h h1 => by
        show l1.getD (n + vb'.length) .u = i
        rw [← htok (i := i) h, ← h1]
        simp only [List.getD_eq_getElem?_getD]
        rw [List.getElem?_take_of_lt (by omega)]
       have hread : ∀ {db : List D} {i : D} {p : ql} {W : World}, SF (c'.at (qe tbl) (l.take n ++ (db ++ [i]))) (qbm [] ms n (q3w [] ms kill n ⟨snT (σ.ren (q25 σ [] ms)).t, (σ.ren (q25 σ [] ms)).m⟩)) p W a → W.heap[gc]? = some (.cells #[.slice A1 xs.length cap] T (0, 0)) →
         W.cell? ⟨gc, 0, none⟩ = some (.slice A1 xs.length cap) ∧ ∀ i, i < xs.length → ∃ b off, A1 = some ⟨b, off, none⟩ ∧ W.rangeAt b (off + i * te'.w) (els i) := fun {db i p W} hf hg => by
        obtain ⟨gc2, T2, A2, cap2, te2, hev2, -, -, hgh2, hte2, -, -, F2, hRd2⟩ := qv4 (x := x) (f := e.2.1) (E := E) hf hbf
        rw [hev] at hev2
        obtain rfl : gc = gc2 := by
         injection hev2 with _ _ h3
         injection h3 with h3
         injection h3 with h3
         injection h3 with h3
         injection h3 with h3
         injection h3
        rw [hg] at hgh2
        have hx2 : (x.ev (c'.at (qe tbl) (l.take n ++ (db ++ [i]))).v).rs = xs := by
         rw [← hxs]
         congr 1
         refine X.ev_upto (n := n) (e := evl (qe tbl) (l.take n ++ (db ++ [i]))) (e' := evl (qe tbl) l) (fun k hk => ?_) rfl x hux
         show (l.take n ++ (db ++ [i])).getD k .u = l.getD k .u
         exact qcb hk _ (by omega)
        rw [hx2] at hgh2 hRd2
        injection hgh2 with hgh2
        injection hgh2 with hgh2
        injection hgh2 with hgh2
        injection hgh2 with hgh2
        injection hgh2 with e1 e2 e3
        subst e1 e3
        obtain rfl := Option.some.inj (hte2.symm.trans hte)
        refine ⟨by rw [cell_of_row W gc 0 _ T (0, 0) hg]; rfl, fun j hj => ?_⟩
        obtain ⟨b, o, cs, e1, -, hr, hd⟩ := q14.1 hRd2 j hj
        have q1 := qn9 8 hflat hd
        have q2 := qn9 8 hflat ((hels j hj).2.2 W F2)
        rw [q1] at q2
        injection q2 with q2
        subst q2
        exact ⟨b, o, e1, by simpa using hr⟩
       have hhead : ∀ {db : List D} {i : D} {l2 : List D} {p : ql} {W : World}, db.length = vb'.length → n ≤ l2.length → l2.take n = l → SF (c'.at (qe tbl) l2) (q3w [] ms kill n ⟨snT (σ.ren (q25 σ [] ms)).t, (σ.ren (q25 σ [] ms)).m⟩) p W a → ItM c'.A p W ms db → SF (c'.at (qe tbl) (l.take n ++ (db ++ [i]))) (qbm [] ms n (q3w [] ms kill n ⟨snT (σ.ren (q25 σ [] ms)).t, (σ.ren (q25 σ [] ms)).m⟩)) p W a := fun {db i l2 p W} h1 h2 h3 h4 h5 =>
        z4w (c := c'.at (qe tbl) l2) (c' := c'.at (qe tbl) (l.take n ++ (db ++ [i]))) (da := []) (db := db) rfl rfl ⟨rfl, rfl⟩ (fun k hk => by
         show l2.getD k .u = (l.take n ++ (db ++ [i])).getD k .u
         rw [qcb hk _ (by omega), ← h3]
         simp only [List.getD_eq_getElem?_getD]
         rw [List.getElem?_take_of_lt hk]) (fun j hj => by
         have hj : j < db.length := by simpa using hj
         show (l.take n ++ (db ++ [i])).getD (n + j) .u = _
         simp only [List.getD_eq_getElem?_getD]
         rw [List.getElem?_append_right (by simp; omega)]
         have e1 : n + j - (l.take n).length = j := by simp; omega
         rw [e1, List.getElem?_append_left hj]
         rfl) h4 rfl h5
       have hgcL : gc ≠ w.heap.size + 1 := fun e => hAL (by rw [← e]; exact hgA)
       refine zia (ziy e hmem te' (by rw [hE']; exact hte)) (hen e hmem) hnn (gc := gc) (len := xs.length) (cap := cap) (A := A1) (els := els) (ev := ev) hev (by have hxl := Nat.le_trans hxl (qtp _); unfold LIM at hxl; omega) (fun i hi => (hels i hi).1)
        (fun k W => ∃ (p : ql) (db : List D), db.length = vb'.length ∧ IT (db ++ [.i ((xs.length : Int) - 1 - k)]) ∧ Bs A' w1 S1 p W ∧ SF (c'.at (qe tbl) (l.take n ++ (db ++ [.i ((xs.length : Int) - 1 - k)]))) (qbm [] ms n (q3w [] ms kill n ⟨snT (σ.ren (q25 σ [] ms)).t, (σ.ren (q25 σ [] ms)).m⟩)) p W a ∧ W.heap[gc]? = some (.cells #[.slice A1 xs.length cap] T (0, 0)) ∧ q8j p gc)
        (fun k a1 W => ∃ (p : ql) (db : List D) (n1 : Nat) (σa : St) (l1 : List D) (B1 : Nat → List D → Prop), db.length = vb'.length ∧ l1.length = n1 ∧ l1.take (n + (vb'.length + 1)) = l.take n ++ (db ++ [.i ((xs.length : Int) - 1 - k)]) ∧ B1 id = (fun st' => IT st' ∧ μ st' < μ (db ++ [.i ((xs.length : Int) - 1 - k)])) ∧
         (toT Try.prog tbl ann c.lo z body [id] n1 σa (fun n2 r2 σb => z1h id ms kill (q3w [] ms kill n ⟨snT (σ.ren (q25 σ [] ms)).t, (σ.ren (q25 σ [] ms)).m⟩) (n + vb'.length) r2 σb)).go (qe tbl) R l1 B1 ∧ Bs A' w1 S1 p W ∧ SF (c'.at (qe tbl) l1) σa p W a1 ∧ a1.defers = [] ∧ a1.tmps.size = z ∧ W.heap[gc]? = some (.cells #[.slice A1 xs.length cap] T (0, 0)) ∧ q8j p gc)
        (fun k W ⟨p, db, h1, h2, h3, h4, h5, h6⟩ => hread h4 h5) ?_ ?_ ?_ ?_ ?_ ?_
       ·rintro k W o ⟨p, db, h1, h2, h3, h4, h5, h6⟩ -
        exact ⟨p, db, h1, h2, z4z h3 hAL hSL o, SF.same (by show Stab c'.A no no p W p _; rw [hcA']; exact qi4 hAL h3.pa o) h4, (World.putObj_heap_other hgcL).trans h5, h6⟩
       ·rintro k a1 W o ⟨p, db, n1, σa, l1, B1, h1, h2, h3, h4, h5, h6, h7, h8, h9, h10, h11⟩ -
        exact ⟨p, db, n1, σa, l1, B1, h1, h2, h3, h4, h5, z4z h6 hAL hSL o, SF.same (by show Stab c'.A no no p W p _; rw [hcA']; exact qi4 hAL h6.pa o) h7, h8, h9, (World.putObj_heap_other hgcL).trans h10, h11⟩
       ·intro o
        have hit := qut hs1 hvb
        have hst : Stab c'.A no no p1 w p1 ((w.alloc (.deferred (some []))).alloc o) := by
         refine ⟨by simp; omega, fun b hb ha hf => ⟨by rw [hget, if_neg (by simp; omega), hget, if_neg (by omega)], hf⟩, fun y b _ hy => hy, fun y b _ hy => ?_⟩
         have := hb1.bd y b hy
         rw [hget, if_neg (by simp; omega), hget, if_neg (by omega)]
        refine ⟨p1, _, q9c _, ?_, hBs0 o, SF.same hst (hhead (q9c _) (by omega) hlt hsk hit), q36 (q36 hgh), hgF⟩
        rw [qc5] at hI0
        have e1 : X.evs (evl (qe tbl) l) [ql8 (q5f x) (.lit (.i 1))] = [.i ((xs.length : Int) - 1 - (0 : Nat))] := by
         show [(ql8 (q5f x) (.lit (.i 1))).ev (evl (qe tbl) l)] = _
         rw [qnd]
         show [D.i (((q5f x).ev (evl (qe tbl) l)).int - 1)] = _
         rw [q4a]
         show [D.i (((x.ev (evl (qe tbl) l)).rs.length : Int) - 1)] = _
         rw [hxs]
         simp
        rw [e1] at hI0
        exact hI0
       ·rintro k W ⟨p, db, h1, h2, h3, h4, h5, h6⟩ hk1
        have hcond : ((leX (.lit (.i 0)) (.tok (n + vb'.length))).ev (evl (qe tbl) (l.take n ++ (db ++ [D.i ((xs.length : Int) - 1 - k)])))).tt = true := by
         rw [qb4, hidx (db := db) (i := .i ((xs.length : Int) - 1 - k)) h1 (by rw [List.take_of_length_le (by simp [h1]; omega)])]
         show decide ((0 : Int) ≤ (xs.length : Int) - 1 - k) = true
         simp
         omega
        have hgk := (hgo _ (hlenv h1) h2).1 hcond
        have hli : (l.take n ++ (db ++ [D.i ((xs.length : Int) - 1 - k)])).length = n + (vb'.length + 1) := by simp [h1]; omega
        have htk : (X.tok (n + vb'.length)).ev (c'.at (qe tbl) (l.take n ++ (db ++ [D.i ((xs.length : Int) - 1 - k)]))).v = .i ((xs.length : Int) - 1 - k) := htok h1
        have hx2 : (x.ev (c'.at (qe tbl) (l.take n ++ (db ++ [D.i ((xs.length : Int) - 1 - k)]))).v).rs = xs := by
         refine Eq.trans (congrArg D.rs ?_) hxs
         refine X.ev_upto (n := n) (e := evl (qe tbl) (l.take n ++ (db ++ [D.i ((xs.length : Int) - 1 - k)]))) (e' := evl (qe tbl) l) (fun k hk => ?_) rfl x hux
         exact qcb hk _ (by omega)
        have hr0 : SF (c'.at (qe tbl) (l.take n ++ (db ++ [D.i ((xs.length : Int) - 1 - k)]))) (qbm [] ms n (q3w [] ms kill n ⟨snT (σ.ren (q25 σ [] ms)).t, (σ.ren (q25 σ [] ms)).m⟩)) p W { tmps := a.tmps, defers := [] } := ⟨h4.t, h4.m⟩
        have hr1 := hr0.put (t := ti) (x := .v (.tok (n + vb'.length)) (.int .i64) [] []) (v := .int .i64 ((xs.length : Int) - 1 - k)) (by show ti < a.tmps.size; omega) (q1x htk (by have hxl := Nat.le_trans hxl (qtp _); unfold LIM at hxl; simp [j8]; omega))
        have hel := hels (xs.length - 1 - k) (by omega)
        have hr2 := hr1.put (t := tx) (x := .v (.get x (.tok (n + vb'.length))) te' [] []) (v := ev (xs.length - 1 - k)) (by show tx < (a.tmps.setIfInBounds ti _).size; simp; omega) ⟨els (xs.length - 1 - k), hel.1.1, Con.of_rd (by
         have e1 : (X.get x (.tok (n + vb'.length))).ev (c'.at (qe tbl) (l.take n ++ (db ++ [D.i ((xs.length : Int) - 1 - k)]))).v = xs[xs.length - 1 - k]'(by omega) := by
          show (x.ev (c'.at (qe tbl) (l.take n ++ (db ++ [D.i ((xs.length : Int) - 1 - k)]))).v).get ((X.tok (n + vb'.length)).ev (c'.at (qe tbl) (l.take n ++ (db ++ [D.i ((xs.length : Int) - 1 - k)]))).v).int = _
          rw [htk]
          show (x.ev (c'.at (qe tbl) (l.take n ++ (db ++ [D.i ((xs.length : Int) - 1 - k)]))).v).rs.getD ((xs.length : Int) - 1 - k).toNat .u = _
          rw [hx2]
          have e2 : ((xs.length : Int) - 1 - k).toNat = xs.length - 1 - k := by omega
          rw [e2]
          simp [List.getD_eq_getElem?_getD, List.getElem?_eq_getElem (show xs.length - 1 - k < xs.length by omega)]
         rw [e1]
         exact hel.2.2 W _)⟩
        have h3' : Bs c'.A W (pinned p) p W := by rw [hcA']; exact h3.anew
        rw [← hclo'] at hgk
        refine qhq (some (w.heap.size + 1)) (nn - 1 - 1) (c := c') (w0 := W) (S0 := pinned p) (d := []) (z := z) htb assign hgk hli h3' hr2 rfl (by simp; exact hz) (qcj hnp) (qgw hnp) fun n1 r1 σa l1 B1 p2 W2 a2 q1 q2 q3 q4 q5 q6 q7 q8 => ?_
        cases r1 with
        | normal =>
         have q5' : Bs A' W (pinned p) p2 W2 := by rw [← hcA']; exact q5
         have hfl : ∀ b, ¬ A' b → q8j p b := fun b hb x hx => hb (h3.pa x b hx)
         have hWs : w.heap.size + 2 ≤ W.heap.size := by have := h3.but.size; omega
         have hgs := q5'.stays (b := gc) (Array.getElem?_eq_some_iff.1 h5).1 h6
         rw [hclo'] at q4
         exact ⟨⟨p2, db, n1, σa, l1, B1, h1, q1, q2, (q3 id List.mem_cons_self).trans (by unfold jm; rw [if_pos rfl]), q4, h3.comp q5', q6, q7, q8, hgs.1.trans h5, hgs.2⟩, (q5'.stays (by omega) (hfl _ hAL)).1, (q5'.stays (by omega) (hfl _ hAD)).1⟩
        | ret => exact q4.elim
        | exit i => exact q4.elim
       ·rintro k a1 W ⟨p, db, n1, σa, l1, B1, h1, h2, h3, h4, h5, h6, h7, h8, h9, h10, h11⟩ hk1
        rw [← hclo'] at h5
        have h6' : Bs c'.A W (pinned p) p W := by rw [hcA']; exact h6.anew
        refine qhq (some (w.heap.size + 1)) (nn - 1 - 1) (c := c') (w0 := W) (S0 := pinned p) (d := []) (z := z) htb body h5 h2 h6' h7 h8 h9 (qcj hnp) (qgw hnp) fun n2 r2 σb l2 B2 p2 W2 a2 q1 q2 q3 q4 q5 q6 q7 q8 => ?_
        cases r2 with
        | normal =>
         have q5' : Bs A' W (pinned p) p2 W2 := by rw [← hcA']; exact q5
         unfold z1h at q4
         simp only at q4
         have hf2 := SF.un (c := c'.at (qe tbl) l2) (q := q8o kill σb) q5.inj q5.pa q6
         have hb2 := q5.un (q8o kill σb)
         change SF _ (σb.drop kill) _ _ _ at hf2
         split at q4
         ·rename_i σc va2 vb2 hcv2
          split at q4
          ·rename_i hcov
           unfold conv at hcv2
           split at hcv2
           ·rename_i hrb2
            split at hcv2
            ·rename_i wa wb hwa hwb
             simp only [Option.some.injEq, Prod.mk.injEq] at hcv2
             obtain ⟨rfl, rfl, rfl⟩ := hcv2
             obtain ⟨p3, hb3, hf3⟩ := qii (c := c'.at (qe tbl) l2) hrb2 hb2 hf2
             have hb3' : Bs A' W (pinned p) p3 W2 := by rw [← hcA']; exact hb3
             have hit := qut hf3 hwb
             have hlen1 : n + (vb'.length + 1) ≤ n1 := by
              have := congrArg List.length h3
              simp [h1, h2] at this
              omega
             have hl2 : l2.take (n + (vb'.length + 1)) = l.take n ++ (db ++ [D.i ((xs.length : Int) - 1 - k)]) := by
              rw [← h3, ← q2, List.take_take, Nat.min_eq_left hlen1]
             have hl2n : l2.take n = l := by
              have h1 : (l2.take (n + (vb'.length + 1))).take n = (l.take n ++ (db ++ [D.i ((xs.length : Int) - 1 - k)])).take n := by rw [hl2]
              rw [List.take_take, Nat.min_eq_left (by omega)] at h1
              rw [h1, List.take_append_of_le_length (by simp; omega), List.take_take, Nat.min_self, hlt]
             have hnl : n ≤ l2.length := by
              have := congrArg List.length hl2n
              simp at this
              omega
             have hbk : B2 id (X.evs (evl (qe tbl) l2) (wb ++ [ql8 (.tok (n + vb'.length)) (.lit (.i 1))])) := q4
             rw [q3 id List.mem_cons_self, h4, qc5] at hbk
             have e1 : X.evs (evl (qe tbl) l2) [ql8 (.tok (n + vb'.length)) (.lit (.i 1))] = [.i ((xs.length : Int) - 1 - (k + 1 : Nat))] := by
              show [(ql8 (.tok (n + vb'.length)) (.lit (.i 1))).ev (evl (qe tbl) l2)] = _
              rw [qnd, hidx h1 hl2]
              show [D.i (((xs.length : Int) - 1 - k) - 1)] = _
              congr 2
              omega
             rw [e1] at hbk
             have hcvr := q4y hcov hf3
             have hoth := SF.other (a := a) (b := a2) (fun t => by
              show a.tmps[t]? = some (c'.snap t) ∨ _
              cases hv : a.tmps[t]? with
              | none => exact .inr rfl
              | some v => exact .inl (by rw [hsn t v hv])) (by omega) (fun t y hy => by
              obtain ⟨u, -, e⟩ := qyv (f := fun t x => AV.sn t x) (qqi hy).1
              exact ⟨u, e⟩) hcvr
             have hgs := hb3'.stays (b := gc) (Array.getElem?_eq_some_iff.1 h10).1 h11
             have hfl : ∀ b, ¬ A' b → q8j p b := fun b hb x hx => hb (h6.pa x b hx)
             have hWs : w.heap.size + 2 ≤ W.heap.size := by have := h6.but.size; omega
             exact ⟨rfl, ⟨p3, _, by rw [q9c, q9s hwb, q9s hvb], hbk.1, h6.comp hb3', hhead (by rw [q9c, q9s hwb, q9s hvb]) hnl hl2n hoth hit, hgs.1.trans h10, hgs.2⟩, (hb3'.stays (by omega) (hfl _ hAL)).1, (hb3'.stays (by omega) (hfl _ hAD)).1⟩
            ·cases hcv2
           ·cases hcv2
          ·exact q4.elim
         ·exact q4.elim
        | ret => exact q4.elim
        | exit i => exact q4.elim
       ·rintro W ⟨p, db, h1, h2, h3, h4, h5, h6⟩ hD
        have hcond : ((leX (.lit (.i 0)) (.tok (n + vb'.length))).ev (evl (qe tbl) (l.take n ++ (db ++ [D.i ((xs.length : Int) - 1 - (xs.length : Nat))])))).tt = false := by
         rw [qb4, hidx (db := db) (i := .i ((xs.length : Int) - 1 - (xs.length : Nat))) h1 (by rw [List.take_of_length_le (by simp [h1]; omega)])]
         show decide ((0 : Int) ≤ (xs.length : Int) - 1 - (xs.length : Nat)) = false
         simp
         omega
        have hgk := (hgo _ (hlenv h1) h2).2 hcond
        have hun := SF.unsnap (σ := qbm [] ms n (q3w [] ms kill n ⟨snT (σ.ren (q25 σ [] ms)).t, (σ.ren (q25 σ [] ms)).m⟩)) (c := c'.at (qe tbl) (l.take n ++ (db ++ [D.i ((xs.length : Int) - 1 - (xs.length : Nat))]))) (c' := c'.at (qe tbl) (l.take n ++ (db ++ [D.i ((xs.length : Int) - 1 - (xs.length : Nat))]))) (fun b _ ha => ha) rfl rfl hp2 h4
        have hWs : w.heap.size + 2 ≤ W.heap.size := by have := h3.but.size; omega
        refine hk _ _ _ _ p W c' (by simp [h1]; omega) (by rw [List.take_append_of_le_length (by simp; omega), List.take_take, Nat.min_self, hlt]) (fun j hj => by unfold jm; rw [if_neg hj]) hgk ?_ hclo' hcT' (fun b hb' => hAc b (by rwa [hcA'] at hb')) (fun b hb' => by rw [hcA']; exact hAn b (by omega)) (fun x b hx => by rw [hcA']; exact h3.pa x b hx) (fun h => hAD (by rwa [hcA'] at h)) ⟨hun.t, hun.m⟩ hD
        have hws : w0.heap.size ≤ w.heap.size := hb1.but.size
        have hSn : ∀ b, S1 b → S0 b ∨ w0.heap.size ≤ b := fun b hb' => by
         rw [hS1] at hb'
         rcases hb' with ⟨x, hx⟩ | e | e
         ·exact hb1.pin x b hx
         ·exact .inr (by omega)
         ·exact .inr (by omega)
        refine ⟨h3.inj, h3.bd, ⟨?_, ?_, ?_, by have := h3.but.size; omega, fun j hj hn => ?_⟩, fun x b hx => ?_, hb.new, fun x b hx => hAc b (h3.pa x b hx), h3.obj⟩
        ·exact (h3.but.os.trans (by rw [hw1]; rfl)).trans hb1.but.os
        ·exact (h3.but.tape.trans (by rw [hw1]; rfl)).trans hb1.but.tape
        ·exact (h3.but.output.trans (by rw [hw1]; rfl)).trans hb1.but.output
        ·refine (h3.but.block j (by omega) fun hs => ?_).trans ?_
         ·rcases hSn j hs with h | h
          ·exact hn h
          ·omega
         ·rw [hw1, hget, if_neg (by simp; omega), hget, if_neg (by omega)]
          exact hb1.but.block j hj hn
        ·rcases h3.pin x b hx with h | h
         ·exact hSn b h
         ·exact .inr (by omega)
      ·cases hcv
     ·cases hcv
    ·exact h.elim
   ·exact h.elim
  ·exact h.elim
 ·exact h.2.elim
end
end
section
def zch (D : Nat) : Deferred := { target := .collected D, args := #[] }
def Dfs (A : Nat → Prop) (lb : Nat) (d : List Deferred) (w : World) (ds : List Deferred) : Prop := ∃ Ds : List Nat, ds = Ds.map zch ++ d ∧ Ds.Nodup ∧ ∀ D ∈ Ds, lb ≤ D ∧ w.heap[D]? = some (.deferred (some [])) ∧ ¬ A D
def toU (P : Program) (tbl : Tbl) (ann : Ann) (lo z : Nat) : Code → Nat → St → (Nat → ResD → St → Tree) → Tree
 | .seq x y, n, σ, k => toU P tbl ann lo z x n σ fun n' r σ' => match r with
  | .normal => toU P tbl ann lo z y n' σ' k
  | .ret => k n' .ret σ'
  | .exit i => k n' (.exit i) σ'
 | .cond c x y, n, σ, k => (match opd σ [] c with
  | some (.v b .bool _ _) => .br b (toU P tbl ann lo z x n σ k) (toU P tbl ann lo z y n σ k)
  | _ => .bad (1000000 + q0w x))
 | .block id c, n, σ, k => toU P tbl ann lo z c n σ fun n' r σ' => match r with
  | .exit i => if Nat.beq i id then k n' .normal σ' else k n' (.exit i) σ'
  | .ret => k n' .ret σ'
  | .normal => k n' .normal σ'
 | .rangeFunc g ps assign body, n, σ, k => (match lkA ann.heads (q0w assign - 1), ps.toList with
  | some h, [ti, tx] => z29 P tbl ann lo z (q0w assign - 1) (heads h (σ.drop h.kill)).2 h.kill g ti tx assign body n (σ.drop h.kill) fun n' σ' => k n' .normal σ'
  | _, _ => .bad (15000000 + q0w assign))
 | cd, n, σ, k => toT P tbl ann lo z cd [] n σ k
theorem Bs.up {A A' : Nat → Prop} {p p' : ql} {w w' w0 : World} {S0 : Nat → Prop} (h : Bs A w0 S0 p w) (h' : Bs A' w (pinned p) p' w') (hA : ∀ b, A' b → A b) : Bs A w0 S0 p' w' :=
 h.comp ⟨h'.inj, h'.bd, h'.but, h'.pin, fun b hb => h.new b (Nat.le_trans h.but.size hb), fun x b hx => hA b (h'.pa x b hx), h'.obj⟩
section
variable {lo z : Nat} {tbl : Tbl}
theorem zhc {nn : Nat} (hnn : 3 ≤ nn) (htb : q17 tbl) (hnp : q9x tbl = true) {ann : Ann} {R : List D → Prop} (hen : ∀ e ∈ q8l, ∀ (args : Array Value) (w : World), (callFunc e.2.1 args).run Try.prog w = .ok (.enter e.2.1 args) w) :
  ∀ (cd : Code) {c : Cx} {n : Nat} {σ : St} {k : Nat → ResD → St → Tree} {l : List D} {B : Nat → List D → Prop} {p : ql} {w : World} {a : Act} {Q : Exit → Act → World → Prop},
  (toU Try.prog tbl ann lo z cd n σ k).go (qe tbl) R l B → c.lo = lo → l.length = n → Bs c.A w (pinned p) p w → SF (c.at (qe tbl) l) σ p w a → a.tmps.size = z →
  (∀ n' r σ' l' B' p' w' a' (c2 : Cx), l'.length = n' → l'.take n = l → (k n' r σ').go (qe tbl) R l' B' → c2.lo = lo → c2.At = c.At → (∀ b, c2.A b → c.A b) → Bs c.A w (pinned p) p' w' → Bs c2.A w' (pinned p') p' w' → SF (c2.at (qe tbl) l') σ' p' w' a' → Dfs c2.A w.heap.size a.defers w' a'.defers → a'.tmps.size = z → Q r.exit' a' w') → cd.wpIn (FR none) nn Try.prog Q a w := by
 intro cd
 induction cd with
 | seq x y ihx ihy =>
  intro c n σ k l B p w a Q h hlo hl hb hf hz hk
  simp only [toU] at h
  refine wpIn_seq (ihx h hlo hl hb hf hz fun n' r σ' l' B' p' w' a' c1 hl' hpre hgo hlo1 hT1 hA1 hb' hbn hf' hd' hz' => ?_)
  cases r with
  | normal =>
   refine ihy hgo hlo1 hl' hbn hf' hz' fun n2 r2 σ2 l2 B2 p2 w2 a2 c2 hl2 hpre2 hgo2 hlo2 hT2 hA2 hb2 hbn2 hf2 hd2 hz2 => hk n2 r2 σ2 l2 B2 p2 w2 a2 c2 hl2 ?_ hgo2 hlo2 (hT2.trans hT1) (fun b h => hA1 b (hA2 b h)) (hb'.up hb2 hA1) hbn2 hf2 ?_ hz2
   ·have hnn : n ≤ n' := by
     have := congrArg List.length hpre
     simp at this
     omega
    rw [← hpre, ← hpre2, List.take_take, Nat.min_eq_left hnn]
   ·obtain ⟨D1, e1, n1, g1⟩ := hd'
    obtain ⟨D2, e2, n2, g2⟩ := hd2
    have hlt : ∀ D ∈ D1, D < w'.heap.size := fun D hD => (Array.getElem?_eq_some_iff.1 (g1 D hD).2.1).1
    refine ⟨D2 ++ D1, by rw [e2, e1]; simp, List.nodup_append.2 ⟨n2, n1, fun x hx y hy e => ?_⟩, fun D hD => ?_⟩
    ·have h1 := (g2 x hx).1
     have h2 := hlt y hy
     omega
    ·rcases List.mem_append.1 hD with h1 | h1
     ·exact ⟨Nat.le_trans hb'.but.size (g2 D h1).1, (g2 D h1).2⟩
     ·have hs := hb2.stays (hlt D h1) (fun x hx => (g1 D h1).2.2 (hbn.pa x D hx))
      exact ⟨(g1 D h1).1, hs.1.trans (g1 D h1).2.1, fun h => (g1 D h1).2.2 (hA2 D h)⟩
  | ret => exact hk n' .ret σ' l' B' p' w' a' c1 hl' hpre hgo hlo1 hT1 hA1 hb' hbn hf' hd' hz'
  | exit i => exact hk n' (.exit i) σ' l' B' p' w' a' c1 hl' hpre hgo hlo1 hT1 hA1 hb' hbn hf' hd' hz'
 | cond b x y ihx ihy =>
  intro c n σ k l B p w a Q h hlo hl hb hf hz hk
  simp only [toU] at h
  split at h
  ·rename_i q _ _ hc
   obtain ⟨u, e1, e2⟩ := q3i (qj hf rfl hc)
   have e1' : (q.ev (evl (qe tbl) l)) = .b u := e1
   cases u with
   | true => exact wpIn_cond_true e2 (ihx (h.1 (by rw [e1']; rfl)) hlo hl hb hf hz hk)
   | false => exact wpIn_cond_false e2 (ihy (h.2 (by rw [e1']; rfl)) hlo hl hb hf hz hk)
  ·exact h.elim
 | block id cd ih =>
  intro c n σ k l B p w a Q h hlo hl hb hf hz hk
  simp only [toU] at h
  refine wpIn_block (ih h hlo hl hb hf hz fun n' r σ' l' B' p' w' a' c1 hl' hpre hgo hlo1 hT1 hA1 hb' hbn hf' hd' hz' => ?_)
  cases r with
  | normal => exact hk n' .normal σ' l' B' p' w' a' c1 hl' hpre hgo hlo1 hT1 hA1 hb' hbn hf' hd' hz'
  | ret => exact hk n' .ret σ' l' B' p' w' a' c1 hl' hpre hgo hlo1 hT1 hA1 hb' hbn hf' hd' hz'
  | exit i =>
   show Exit.inBlock id Q (.exit i) a' w'
   simp only at hgo
   by_cases hi : i = id
   ·rw [if_pos (by rw [hi]; exact Nat.beq_refl id)] at hgo
    simp only [Exit.inBlock, if_pos hi]
    exact hk n' .normal σ' l' B' p' w' a' c1 hl' hpre hgo hlo1 hT1 hA1 hb' hbn hf' hd' hz'
   ·rw [if_neg (fun e => hi (Nat.eq_of_beq_eq_true e))] at hgo
    simp only [Exit.inBlock, if_neg hi]
    exact hk n' (.exit i) σ' l' B' p' w' a' c1 hl' hpre hgo hlo1 hT1 hA1 hb' hbn hf' hd' hz'
 | rangeFunc g ps assign body iha ihb =>
  intro c n σ k l B p w a Q h hlo hl hb hf hz hk
  simp only [toU] at h
  split at h
  ·rename_i hh ti tx hann hps
   have hps' : ps = #[ti, tx] := by
    apply Array.ext'
    exact hps
   subst hps'
   have hb1 := hb.un (q8o hh.kill σ)
   have hf1 := SF.un (c := c.at (qe tbl) l) (q := q8o hh.kill σ) hb.inj hb.pa hf
   rw [← hlo] at h
   refine z6g (c := c) (σ := σ.drop hh.kill) hnn htb hnp h hl hb1 hf1 hz hen fun n' σ' l' B' p' w' c2 hl' hpre _ hgo hb' hlo2 hT2 hA2 hnew hpa hnD hf' hD => ?_
   exact hk n' .normal σ' l' B' p' w' _ c2 hl' hpre hgo (hlo2.trans hlo) hT2 hA2 hb' ⟨hb'.inj, hb'.bd, But.refl _ _, fun x b hx => .inl ⟨x, hx⟩, hnew, hpa, hb'.obj⟩ hf' ⟨[w.heap.size], rfl, by simp, fun D hD' => by
    obtain rfl : D = w.heap.size := by simpa using hD'
    exact ⟨Nat.le_refl _, hD, hnD⟩⟩ hz
  ·exact h.elim
 | _ =>
  intro c n σ k l B p w a Q h hlo hl hb hf hz hk
  subst hlo
  exact qhq none nn (c := c) (w0 := w) (S0 := pinned p) (d := a.defers) (z := z) htb _ h hl hb hf rfl hz (qcj hnp) (qgw hnp) fun n' r σ' l' B' p' w' a' hl' hpre _ hgo hb' hf' hd' hz' => hk n' r σ' l' B' p' w' a' c hl' hpre hgo rfl rfl (fun b h => h) hb' hb'.anew hf' ⟨[], by rw [hd']; rfl, by simp, fun D hD => by cases hD⟩ hz'
end
end
def zg0 (P : Program) (tbl : Tbl) (ann : Ann) (ct : Ct) (fn : Func) (cd : Code) : Tree :=
 toU P tbl ann ct.ar.length fn.ntmps cd (q69 ct.ars) (zce ct) (qrv ct fn.results.toList)
def shut (w : World) (D : Nat) : World := w.putObj D (.deferred none)
def q3j (w : World) (Ds : List Nat) : World := Ds.foldl shut w
theorem qun {F : Fence} {n : Nat} {fn : Func} {tmps : Array Value} {R : Ending → World → Prop} : ∀ (Ds : List Nat) (w : World), Ds.Nodup → (∀ D ∈ Ds, w.heap[D]? = some (.deferred (some []))) → LeavesIn F n Try.prog fn tmps R [] .returning (q3j w Ds) → LeavesInM F n Try.prog fn tmps R (Ds.map zch) .returning w
 | [], w, _, _, h => h
 | D :: Ds, w, hn, hd, h => by
  obtain ⟨h1, h2⟩ := List.nodup_cons.1 hn
  exact ⟨by simp, .inl ⟨D, _, rfl, run_takeDeferred (hd D List.mem_cons_self), qun Ds _ h2 (fun D' hD' => (World.putObj_heap_other (fun e => h1 (by rw [← e]; exact hD'))).trans (hd D' (List.mem_cons_of_mem _ hD'))) h⟩⟩
theorem qqy {A : Nat → Prop} {p : ql} (pa : ∀ x b, p x = some b → A b) : ∀ (Ds : List Nat) (w : World), (∀ D ∈ Ds, ¬ A D) → Stab A no no p w p (q3j w Ds)
 | [], w, _ => Stab.refl _ _ _ _ _
 | D :: Ds, w, h => by
  have h1 := qi4 (w := w) (h D List.mem_cons_self) pa (.deferred none)
  have h2 := qqy pa Ds (w.putObj D (.deferred none)) fun D' hD' => h D' (List.mem_cons_of_mem _ hD')
  exact ⟨Nat.le_trans h1.size h2.size, fun b hb ha hf => ⟨(h2.free b (Nat.lt_of_lt_of_le hb h1.size) ha hf).1.trans (h1.free b hb ha hf).1, hf⟩, fun x b _ hx => hx, fun x b _ hx => (h2.con x b rfl hx).trans (h1.con x b rfl hx)⟩
theorem qy9 {A A' : Nat → Prop} {p : ql} {w0 : World} {S0 : Nat → Prop} (pa : ∀ x b, p x = some b → A' b) : ∀ (Ds : List Nat) (w : World), Bs A w0 S0 p w → (∀ D ∈ Ds, w0.heap.size ≤ D ∧ ¬ A' D) → Bs A w0 S0 p (q3j w Ds)
 | [], w, h, _ => h
 | D :: Ds, w, h, hD => by
  obtain ⟨h1, h2⟩ := hD D List.mem_cons_self
  refine qy9 pa Ds (w.putObj D (.deferred none)) ⟨h.inj, fun x b hx => by simpa using h.bd x b hx, ⟨h.but.os, h.but.tape, h.but.output, by simpa using h.but.size, fun k hk hn => (World.putObj_heap_other (by omega)).trans (h.but.block k hk hn)⟩, h.pin, h.new, h.pa, fun x b hx => (h.obj x b hx).same (World.putObj_heap_other (fun e => h2 (by rw [← e]; exact pa x b hx)))⟩ fun D' hD' => hD D' (List.mem_cons_of_mem _ hD')
theorem q7s.chA {A A' : Nat → Prop} {p : ql} {w : World} (hA : ∀ b, b < w.heap.size → A b → A' b) : ∀ {rs : List (Ty × Bool)} {k : Nat} {vs : List Value} {ds : List D}, q7s A p w rs k vs ds → q7s A' p w rs k vs ds
  | [], _, _, _, h => h
  | (t, own) :: l, k, vs, ds, ⟨v, r, d, ds', e1, e2, ⟨cs, hp, hc⟩, h⟩ => ⟨v, r, d, ds', e1, e2, ⟨cs, hp, hc.chA hA⟩, q7s.chA hA h⟩
theorem q2n.chA {A A' : Nat → Prop} {p p' : ql} {w : World} (hA : ∀ b, b < w.heap.size → A b → A' b) : ∀ {all : List (Nat × Ar)} {ds : List D}, q2n A p p' w all ds → q2n A' p p' w all ds
  | [], _, h => h
  | (i, r) :: l, ds, h => by
    cases r with
    | ref t o =>
      obtain ⟨d, ds', e, ⟨g, cs, T, h1, h2, h3, hc⟩, h⟩ := h
      exact ⟨d, ds', e, ⟨g, cs, T, h1, h2, h3, hc.chA hA⟩, q2n.chA hA h⟩
    | mref t =>
      obtain ⟨d, ds', e, ⟨g, h1, h2, hc⟩, h⟩ := h
      exact ⟨d, ds', e, ⟨g, h1, h2, hc.chA hA⟩, q2n.chA hA h⟩
    | _ => exact q2n.chA hA (all := l) h
def zkk : Ar → Bool
 | .mref _ => false
 | _ => true
set_option maxHeartbeats 1000000 in
theorem zez {ct : Ct} {g : List D → Option (List D)} {tbl : Tbl} (ann : Ann) (fn : Func) (cd : Code) (htb : q17 tbl) (hbw : ∀ e ∈ q8l, ∀ (args : Array Value) (w : World), (callFunc e.2.1 args).run Try.prog w = .ok (.enter e.2.1 args) w) (hf : Try.prog.funcs[ct.f]? = some fn) (hb : fn.body = some cd)
  (hen : ∀ args w, (callFunc ct.f args).run Try.prog w = .ok (.enter ct.f args) w) (hsz : ct.ar.length ≤ fn.ntmps)
  (h : ∀ ds outs, WfA ct.ars ds → g ds = some outs → (zg0 Try.prog tbl ann ct fn cd).go (qe tbl) (fun o => o = outs) ds fun _ _ => False) (hnp : q9x tbl = true := by rfl) (hmr : (ct.all.all fun e => zkk e.2) = true := by rfl) (hkp : ct.kp = [] := by rfl) : FOk ct g := by
 refine ⟨hen, fun A p w vs us ds outs hg hpre hvl hargs => callsIn_wide.1 (callsIn_of_wp_marks (F := FR none) (n := 5) hf hb trivial ?_), fun h => absurd hkp h⟩
 obtain ⟨hwf, hdl, -⟩ := hargs.wf
 rw [all_map] at hwf hdl
 have hgo := h ds outs hwf hg
 let c : Cx := ⟨evl (qe tbl) ds, A, ct.ar.length, fun k g => (k < ct.ar.length ∨ VB ≤ k) → p (k * 16) = some g, fun k g hk h2 h => absurd h (by omega), fun q => (vs ++ us).getD q undef⟩
 have hb0 : Bs c.A w (pinned p) p w := ⟨hpre.inj, hpre.bd, But.refl _ _, fun x b hx => .inl ⟨x, hx⟩, hpre.new, hpre.pa, hpre.obj⟩
 have hsf : SF (c.at (qe tbl) ds) (zce ct) p w { tmps := vs.toArray ++ Array.replicate (fn.ntmps - vs.toArray.size) undef, defers := [] } := by
  refine ⟨fun t x hx => ?_, qy7 (c := c.at (qe tbl) ds) (A := A) rfl (fun k => rfl) hargs fun e he => List.mem_iff_getElem?.1 he⟩
  obtain ⟨h1, h2⟩ := qy6 (c := c.at (qe tbl) ds) (A := A) (n0 := ct.ar.length) rfl rfl rfl hargs (fun k => rfl) _ _ t x hx
  have hlt : t < vs.length := by omega
  refine ⟨(vs ++ us).getD t undef, ?_, h2⟩
  show (vs.toArray ++ _)[t]? = _
  rw [Array.getElem?_append_left (by simpa using hlt), List.getD_eq_getElem?_getD, List.getElem?_append_left hlt]
  simp [List.getElem?_eq_getElem hlt]
 refine zhc (nn := 5) (by omega) htb hnp hbw cd (c := c) hgo rfl hdl hb0 hsf (by simp; omega) fun n' r σ' l' B' p' w' a' c2 hl' hpre' hgo' hlo2 hT2 hA2 hb' hbn hf' hd' hz' => ?_
 obtain ⟨Ds, hds, hnd, hDs⟩ := hd'
 have hds : a'.defers = Ds.map zch := by rw [hds]; simp
 have hst := qqy hbn.pa Ds w' fun D hD => (hDs D hD).2.2
 have hbF := qy9 hbn.pa Ds w' hb' fun D hD => ⟨(hDs D hD).1, (hDs D hD).2.2⟩
 have hfF : SF (c2.at (qe tbl) l') σ' p' (q3j w' Ds) a' := SF.same hst hf'
 have hbnF : Bs c2.A (q3j w' Ds) (pinned p') p' (q3j w' Ds) := ⟨hbF.inj, hbF.bd, But.refl _ _, fun x b hx => .inl ⟨x, hx⟩, fun b hb => hbn.new b (Nat.le_trans hst.size hb), hbn.pa, hbF.obj⟩
 have fin' : ∀ xs, fin ct fn.results.toList σ' = some xs → X.evs (evl (qe tbl) l') xs = outs → ∃ v, (results fn a'.tmps).run Try.prog (q3j w' Ds) = .ok v (q3j w' Ds) ∧ ((∃ T, ct.pn = some T ∧ outs = [.u] ∧ (Ending.returned v) = .panicked (q7w T) ∧ But (pinned p) w (q3j w' Ds)) ∨ ∃ rs p2, (Ending.returned v) = .returned (qd5 rs) ∧ Bs A w (pinned p) p2 (q3j w' Ds) ∧ q7s A p2 (q3j w' Ds) ct.rs ct.ar.length rs (outs.take ct.rs.length) ∧ q2n A p p2 (q3j w' Ds) ct.all (outs.drop ct.rs.length)) := by
  intro xs hfin hout
  unfold fin at hfin
  simp only at hfin
  split at hfin
  ·rename_i hok
   simp only [Bool.and_eq_true] at hok
   split at hfin
   ·rename_i xa xb hxa hxb
    injection hfin with hfin
    subst hfin
    have hb1 := hbnF.un (fun y => !zg ((qjz σ' (fn.results.toList.zip ct.rs) ct.ar.length ++ qb5 σ' ct.all).map (·.1) ++ (q94 ct.all ++ q5l σ' fn.results.toList)) y)
    have hf1 := SF.un (c := c2.at (qe tbl) l') (q := fun y => !zg ((qjz σ' (fn.results.toList.zip ct.rs) ct.ar.length ++ qb5 σ' ct.all).map (·.1) ++ (q94 ct.all ++ q5l σ' fn.results.toList)) y) hbnF.inj hbnF.pa hfF
    obtain ⟨p2, hb2, hf2⟩ := qii (c := c2.at (qe tbl) l') hok.1 hb1 hf1
    obtain ⟨l, h1, h2, h3⟩ := qxa hf2 (Nat.eq_of_beq_eq_true hok.2) hxa
    have h4 := qx8 (p0 := p) (n0 := ct.ar.length) hf2 hT2 (fun e he => z37 he) (fun i t hm => (List.all_eq_true.1 hmr _ hm |> fun h => by cases h)) hxb
    have hev : X.evs (evl (qe tbl) l') xa ++ X.evs (evl (qe tbl) l') xb = outs := by rw [← qc5]; exact hout
    have hla : (X.evs (evl (qe tbl) l') xa).length = ct.rs.length := by rw [q9c, h3]
    refine ⟨_, qkm h1, .inr ⟨l, p2, rfl, hbF.up hb2 hA2, q7s.chA (A := c2.A) (fun b _ h => hA2 b h) ?_, q2n.chA (A := c2.A) (fun b _ h => hA2 b h) ?_⟩⟩
    ·rw [← hev, List.take_append_of_le_length (by omega), ← hla, List.take_length]
     exact h2
    ·rw [← hev, ← hla, List.drop_left]
     exact h4
   ·cases hfin
  ·cases hfin
 have last : ∀ xs, fin ct fn.results.toList σ' = some xs → X.evs (evl (qe tbl) l') xs = outs → LeavesInM (FR none) 5 Try.prog fn a'.tmps (fun e w' => (∃ T, ct.pn = some T ∧ outs = [.u] ∧ e = .panicked (q7w T) ∧ But (pinned p) w w') ∨ ∃ rs p', e = .returned (qd5 rs) ∧ Bs A w (pinned p) p' w' ∧ q7s A p' w' ct.rs ct.ar.length rs (outs.take ct.rs.length) ∧ q2n A p p' w' ct.all (outs.drop ct.rs.length)) a'.defers .returning w' := fun xs hx ho => by
  rw [hds]
  exact qun Ds w' hnd (fun D hD => (hDs D hD).2.1) (fin' xs hx ho)
 cases r with
 | exit i => exact hgo'.elim
 | normal =>
  simp only [qrv] at hgo'
  split at hgo'
  ·rename_i xs hx
   exact last xs hx hgo'
  ·exact hgo'.elim
 | ret =>
  simp only [qrv] at hgo'
  split at hgo'
  ·rename_i xs hx
   exact last xs hx hgo'
  ·exact hgo'.elim
section
theorem z5 (n : Int) : (D.i n).int = n := rfl
theorem z0q (x : Bool) : (D.b x).tt = x := by cases x <;> rfl
theorem qw9 (l : List D) : (D.r l).rs = l := rfl
theorem zk6 (l : List D) : (D.a l).fs = l := rfl
theorem qkh (x : ByteArray) : (D.s x).str = x := rfl
theorem qq6 (m n : Int) : (D.i m = D.i n) = (m = n) := by simp
theorem zg3 (m n : Bool) : (D.b m = D.b n) = (m = n) := by simp
theorem z8n (m n : ByteArray) : (D.s m = D.s n) = (m = n) := by simp
theorem q9 {S : Nat → List D → Option (List D)} {R : List D → Prop} {ns : List X} {t : Tree} {l : List D} {B : Nat → List D → Prop} : (Tree.need ns t).go S R l B = (qc (evl S l) ns ∧ t.go S R l B) := rfl
theorem qd {S : Nat → List D → Option (List D)} {R : List D → Prop} {x : X} {t e : Tree} {l : List D} {B : Nat → List D → Prop} : (Tree.br x t e).go S R l B = (((x.ev (evl S l)).tt = true → t.go S R l B) ∧ ((x.ev (evl S l)).tt = false → e.go S R l B)) := rfl
theorem qa {S : Nat → List D → Option (List D)} {R : List D → Prop} {xs : List X} {l : List D} {B : Nat → List D → Prop} : (Tree.leaf xs).go S R l B = R (X.evs (evl S l) xs) := rfl
theorem qb {S : Nat → List D → Option (List D)} {R : List D → Prop} {id : Nat} {xs : List X} {l : List D} {B : Nat → List D → Prop} : (Tree.back id xs).go S R l B = B id (X.evs (evl S l) xs) := rfl
theorem zi {S : Nat → List D → Option (List D)} {R : List D → Prop} {id n : Nat} {init : List X} {body : Tree} {l : List D} {B : Nat → List D → Prop} : (Tree.loop id n init body).go S R l B = ∃ (I : List D → Prop) (μ : List D → Nat), I (X.evs (evl S l) init) ∧
   ∀ st, st.length = init.length → I st → body.go S R (l.take n ++ st) (jm B id fun st' => I st' ∧ μ st' < μ st) := rfl
theorem q5g {n : Int} : j8 .i64 n = true ↔ -9223372036854775808 ≤ n ∧ n ≤ 9223372036854775807 := by simp [j8]
section
variable {α : Type} [Inhabited α]
theorem get_map (e : α → D) {l : List α} {i : Nat} (h : i < l.length) : (l.map e).getD i .u = e (l.getD i default) := by
 simp [List.getD_eq_getElem?_getD, h]
theorem z0d (e : α → D) {l : List α} {i : Int} (h0 : 0 ≤ i) (h : i < l.length) : (D.r (l.map e)).get i = e (l.getD i.toNat default) := get_map e (by omega)
theorem q27 (e : α → D) {l : List α} {i : Nat} (h : i < l.length) : (D.r (l.map e)).get (i : Int) = e (l.getD i default) := get_map e (by simpa using h)
omit [Inhabited α] in
theorem q95 {e : α → D} {P : α → Prop} {l : List D} (h : ∀ x ∈ l, ∃ a, x = e a ∧ P a) : ∃ m : List α, l = m.map e ∧ ∀ a ∈ m, P a := by
 induction l with
 | nil => exact ⟨[], rfl, fun a ha => by cases ha⟩
 | cons x l ih =>
  obtain ⟨a, rfl, ha⟩ := h x List.mem_cons_self
  obtain ⟨m, rfl, hm⟩ := ih fun y hy => h y (List.mem_cons_of_mem _ hy)
  refine ⟨a :: m, rfl, fun b hb => ?_⟩
  rcases List.mem_cons.1 hb with rfl | hb
  ·exact ha
  ·exact hm b hb
theorem q19 {l : List α} {i : Nat} (h : i < l.length) : l.getD i default ∈ l := by
 rw [List.getD_eq_getElem?_getD, List.getElem?_eq_getElem h]
 exact List.getElem_mem h
theorem q8x {l : List α} {k : Nat} (h : k < l.length) : l.take (k + 1) = l.take k ++ [l.getD k default] := by
 rw [List.take_add_one, List.getElem?_eq_getElem h]
 simp [List.getD_eq_getElem?_getD, h]
end
theorem q8b {n : Nat} {P : Nat → Bool} (h : ∀ j, j < n → P j = true) : (List.range n).all P = true := by
 rw [List.all_eq_true]
 exact fun j hj => h j (List.mem_range.1 hj)
theorem z3p {n k : Nat} {P : Nat → Bool} (hk : k < n) (h : P k = false) : (List.range n).all P = false := by
 cases ha : (List.range n).all P with
 | false => rfl
 | true => rw [List.all_eq_true.1 ha k (List.mem_range.2 hk)] at h; cases h
theorem q9b {n k : Nat} {P : Nat → Bool} (h : (List.range n).all P = true) (hk : k < n) : P k = true := List.all_eq_true.1 h k (List.mem_range.2 hk)
theorem q4q {P : Nat → Prop} {k : Nat} (h : ∀ j, j < k → P j) (hk : P k) : ∀ j, j < k + 1 → P j := fun j hj => by
 rcases Nat.lt_succ_iff_lt_or_eq.1 hj with h1 | h1
 ·exact h j h1
 ·exact h1 ▸ hk
theorem qvi {ds : List D} {t u : Ty} (h : WfL ds [t, u]) : ∃ a b, ds = [a, b] ∧ Wf a t ∧ Wf b u := by
 match ds, h with
 | [], h => cases h
 | [a], h => obtain ⟨t, ts, e, h1, h2⟩ := h; rw [h2] at e; cases e
 | [a, b], h =>
  obtain ⟨t, ts, e, h1, t2, ts2, e2, h2, -⟩ := h
  injection e with e e'
  subst e e'
  injection e2 with e2 e2'
  subst e2
  exact ⟨a, b, rfl, h1, h2⟩
 | a :: b :: c :: l, h => obtain ⟨t, ts, e, h1, t2, ts2, e2, h2, t3, ts3, e3, -⟩ := h; subst e2 e3; cases e
theorem q7e {ds : List D} {t : Ty} {ts : List Ty} (h : WfL ds (t :: ts)) : ∃ a r, ds = a :: r ∧ Wf a t ∧ WfL r ts := by
 match ds, h with
 | [], h => cases h
 | a :: r, h =>
  obtain ⟨t, ts, e, h1, h2⟩ := h
  injection e with e e'
  subst e e'
  exact ⟨a, r, rfl, h1, h2⟩
theorem Wf.st_of {d : D} {S : TypeId} {fs : List Ty} (h : Wf d (.st S)) (hf : flds S = some fs) : ∃ ds, d = .a ds ∧ WfL ds fs := by
 obtain ⟨ds, fs', rfl, hf', hl⟩ := h.st
 rw [hf] at hf'
 injection hf' with hf'
 subst hf'
 exact ⟨ds, rfl, hl⟩
theorem Wf.row_of {d : D} {E : TypeId} {te : Ty} (h : Wf d (.row E)) (hE : qk E = some te) : ∃ l, d = .r l ∧ l.length ≤ LM te ∧ ∀ x ∈ l, Wf x te := by
 obtain ⟨l, te', rfl, hE', h1, h2⟩ := h.row
 rw [hE] at hE'
 injection hE' with hE'
 subst hE'
 exact ⟨l, rfl, h1, h2⟩
end
section
def zkf (o : Oper) : Bool := match o.op with
 | .defer _ => true
 | _ => false
def qda : Code → Option (List Code × Nat × List Oper × Code)
 | .seq (.region id ops false) y => if ops.toList.any zkf then some ([], id, ops.toList, y) else (qda y).map fun r => (.region id ops false :: r.1, r.2)
 | .seq x y => (qda y).map fun r => (x :: r.1, r.2)
 | _ => none
def zb1 (P : Program) (Q : Exit → Act → World → Prop) : List Code → (Act → World → Prop) → Act → World → Prop
 | [], K => K
 | x :: xs, K => fun a w => x.wp P (Exit.then (zb1 P Q xs K) Q) a w
theorem qy0 {P : Program} {Q : Exit → Act → World → Prop} : ∀ {cd : Code} {xs : List Code} {id : Nat} {ops : List Oper} {post : Code}, qda cd = some (xs, id, ops, post) → ∀ {a : Act} {w : World}, zb1 P Q xs (fun a w => (Code.seq (.region id ops.toArray false) post).wp P Q a w) a w → cd.wp P Q a w
 | .seq x y, xs, id, ops, post, h, a, w, hw => by
  unfold qda at h
  split at h
  ·rename_i id' ops' y' e
   injection e with e1 e2
   subst e1 e2
   split at h
   ·simp only [Option.some.injEq, Prod.mk.injEq] at h
    obtain ⟨rfl, rfl, rfl, rfl⟩ := h
    exact hw
   ·obtain ⟨⟨xs1, r1⟩, h1, h2⟩ := Option.map_eq_some_iff.1 h
    simp only [Prod.mk.injEq] at h2
    obtain ⟨rfl, rfl⟩ := h2
    refine wp_seq (wp_mono hw fun e a w hq => ?_)
    cases e with
    | normal => exact qy0 h1 hq
    | _ => exact hq
  ·rename_i x' y' hne e
   injection e with e1 e2
   subst e1 e2
   obtain ⟨⟨xs1, r1⟩, h1, h2⟩ := Option.map_eq_some_iff.1 h
   simp only [Prod.mk.injEq] at h2
   obtain ⟨rfl, rfl⟩ := h2
   refine wp_seq (wp_mono hw fun e a w hq => ?_)
   cases e with
   | normal => exact qy0 h1 hq
   | _ => exact hq
  ·cases h
 | .skip, _, _, _, _, h, _, _, _ => by simp [qda] at h
 | .region _ _ _, _, _, _, _, h, _, _, _ => by simp [qda] at h
 | .cond _ _ _, _, _, _, _, h, _, _, _ => by simp [qda] at h
 | .block _ _, _, _, _, _, h, _, _, _ => by simp [qda] at h
 | .exit _, _, _, _, _, h, _, _, _ => by simp [qda] at h
 | .ret, _, _, _, _, h, _, _, _ => by simp [qda] at h
 | .loop _, _, _, _, _, h, _, _, _ => by simp [qda] at h
 | .label _, _, _, _, _, h, _, _, _ => by simp [qda] at h
 | .scope _, _, _, _, _, h, _, _, _ => by simp [qda] at h
 | .goto _, _, _, _, _, h, _, _, _ => by simp [qda] at h
 | .rangeFunc _ _ _ _, _, _, _, _, h, _, _, _ => by simp [qda] at h
def zic (o : Oper) : Option Nat := match o.op, o.dst, o.guard with
 | .defer c, none, none => (match c.callee, c.args.toList with
  | .value (.tmp t), [] => some t
  | _, _ => none)
 | _, _, _ => none
mutual
def q6a : AV → Bool
 | .sn _ _ => false
 | .tup l => z0h l
 | .gd _ a => q6a a
 | .fn _ l => z0h l
 | .bx _ _ a => q6a a
 | .ax _ _ _ a => q6a a
 | .fr _ a => q6a a
 | .pt _ _ _ a => q6a a
 | _ => true
def z0h : List AV → Bool
 | [] => true
 | a :: l => q6a a && z0h l
end
section
variable {c : Cx} {s : Nat → Value} {p : ql} {w : World}
mutual
theorem q80 : ∀ (a : AV) (v : Value), q6a a = true → AV.pd c p w a v → AV.pd { c with snap := s } p w a v
 | .sn _ _, v, h, _ => by simp [q6a] at h
 | .tup l, v, h, hp => by
  obtain ⟨vs, e, hl⟩ := hp
  exact ⟨vs, e, qqk l vs (by simpa [q6a] using h) hl⟩
 | .gd cs a, v, h, hp => ⟨fun hh => q80 a v (by simpa [q6a] using h) (hp.1 hh), hp.2⟩
 | .fn f l, v, h, hp => by
  obtain ⟨vs, e, hl⟩ := hp
  exact ⟨vs, e, qqk l vs (by simpa [q6a] using h) hl⟩
 | .bx k T a, v, h, hp => by
  obtain ⟨g, u, h1, h2, h3, h4⟩ := hp
  exact ⟨g, u, h1, h2, h3, q80 a u (by simpa [q6a] using h) h4⟩
 | .ax k T n a, v, h, hp => by
  obtain ⟨g, cs, h1, h2, h3, h4, h5⟩ := hp
  exact ⟨g, cs, h1, h2, h3, h4, q80 a _ (by simpa [q6a] using h) h5⟩
 | .fr T a, v, h, hp => by
  obtain ⟨g, u, h1, h2, h3, h4, h5⟩ := hp
  exact ⟨g, u, h1, h2, h3, h4, q80 a u (by simpa [q6a] using h) h5⟩
 | .pt pin i E a, v, h, hp => ⟨hp.1, q80 a v (by simpa [q6a] using h) hp.2⟩
 | .any, v, _, hp => hp
 | .undef, v, _, hp => hp
 | .v _ _ _ _, v, _, hp => hp
 | .nilS, v, _, hp => hp
 | .nilP, v, _, hp => hp
 | .ref _ _ _ _, v, _, hp => hp
 | .rd _ _ _ _, v, _, hp => hp
 | .nb _ _, v, _, hp => hp
 | .ar _ _ _, v, _, hp => hp
 | .lv _ _, v, _, hp => hp
theorem qqk : ∀ (l : List AV) (vs : List Value), z0h l = true → pds c p w l vs → pds { c with snap := s } p w l vs
 | [], vs, _, hp => hp
 | a :: l, vs, h, hp => by
  simp only [z0h, Bool.and_eq_true] at h
  obtain ⟨v, r, e, h1, h2⟩ := hp
  exact ⟨v, r, e, q80 a v h.1 h1, qqk l r h.2 h2⟩
end
end
def zgs (P : Program) (tbl : Tbl) (ann : Ann) (lo z : Nat) : List Code → Nat → St → (Nat → ResD → St → Tree) → Tree
 | [], n, σ, k => k n .normal σ
 | x :: xs, n, σ, k => toT P tbl ann lo z x [] n σ fun n' r σ' => match r with
  | .normal => zgs P tbl ann lo z xs n' σ' k
  | .ret => k n' .ret σ'
  | .exit i => k n' (.exit i) σ'
def zcn (t : Nat) (σ : St) : Option St := match lkA σ.t t with
 | some (.fn f l) => if (σ.t.all fun e => q6a e.2) then some ⟨je σ.t t (.sn (VB + t) (.fn f l)), σ.m⟩ else none
 | _ => none
def z9c (t : Nat) (σ : St) : Option (FuncId × St) := match lkA σ.t t with
 | some (.sn q (.fn f l)) => if Nat.beq q (VB + t) then some (f, ⟨je σ.t t (.fn f l), σ.m⟩) else none
 | _ => none
def zis (k : Nat) (σ : St) : St := ⟨σ.t.filter fun e => e.1 != k, σ.m⟩
def zax (P : Program) (tbl : Tbl) (ct : Ct) (fn : Func) (fd : FuncId) (t : Nat) : Nat → ResD → St → Tree := fun n r σ => match r with
 | .exit i => .bad (8000000 + i)
 | _ => match z9c t σ with
  | some (f, σ1) => if Nat.beq f fd && Nat.blt (fn.ntmps - 1) fn.ntmps then (match qj7 tbl σ1 [] (fn.ntmps - 1) (.tmp t) [] with
   | some (ns, σ2) => qzd ns (qrv ct fn.results.toList n .ret (zis (fn.ntmps - 1) σ2))
   | none => .bad 9100000) else .bad 9200000
  | none => .bad 9300000
def zju (P : Program) (tbl : Tbl) (ann : Ann) (ct : Ct) (fn : Func) (fd : FuncId) (ops : List Oper) (post : Code) (n : Nat) (σ : St) : Tree := match ops with
 | [mk, df] => (match zic df with
  | some t => if mk.guard.isNone && q99 ct.ar.length fn.ntmps mk then (match stepG P tbl (dsts [mk, df]) σ mk with
   | some (N, σ1) => (match zcn t σ1 with
    | some σ2 => qzd N (toT P tbl ann ct.ar.length fn.ntmps post [] n σ2 (zax P tbl ct fn fd t))
    | none => .bad 9400000)
   | none => .bad 9500000) else .bad 9600000
  | none => .bad 9700000)
 | _ => .bad 9800000
def z9w (P : Program) (tbl : Tbl) (ann : Ann) (ct : Ct) (fn : Func) (fd : FuncId) (cd : Code) : Tree := match qda cd with
 | some (xs, _, ops, post) => zgs P tbl ann ct.ar.length fn.ntmps xs (q69 ct.ars) (zce ct) fun n r σ => match r with
  | .normal => zju P tbl ann ct fn fd ops post n σ
  | r => qrv ct fn.results.toList n r σ
 | none => .bad 9900000
def zi9 (ct : Ct) (g : List D → Option (List D)) : Prop := ct.kp = [] ∧ ∀ (A : Nat → Prop) (p : ql) (w : World) (vs us : List Value) (ds outs : List D) (u : FrameMode), g ds = some outs → Pre ct.ar.length A p w → vs.length = ct.ar.length → zk (vs ++ us) A p w ct.all (vs ++ us) ds →
  CallsD Try.prog ct.f vs.toArray u w fun e u' w' => u' = u ∧ ∃ rs p', e = .returned (qd5 rs) ∧ Bs A w (pinned p) p' w' ∧ q7s A p' w' ct.rs ct.ar.length rs (outs.take ct.rs.length) ∧ q2n A p p' w' ct.all (outs.drop ct.rs.length)
theorem zfd {ct : Ct} {g : List D → Option (List D)} {tbl : Tbl} (ann : Ann) (fn : Func) (cd : Code) (htb : q17 tbl) (hf : Try.prog.funcs[ct.f]? = some fn) (hb : fn.body = some cd) (hsz : ct.ar.length ≤ fn.ntmps)
  (h : ∀ ds outs, WfA ct.ars ds → g ds = some outs → (qp0 Try.prog tbl ann ct fn cd).go (qe tbl) (fun o => o = outs) ds fun _ _ => False) (hnp : q9x tbl = true := by rfl) (hkp : ct.kp = [] := by rfl) : zi9 ct g :=
 ⟨hkp, fun A p w vs us ds outs u hg hpre hvl hargs => callsD_of_wp hf hb (zbr (P := fun e w' => ∃ rs p', e = .returned (qd5 rs) ∧ Bs A w (pinned p) p' w' ∧ q7s A p' w' ct.rs ct.ar.length rs (outs.take ct.rs.length) ∧ q2n A p p' w' ct.all (outs.drop ct.rs.length)) ann fn cd htb hf hb hsz hpre hvl hargs (fun hw => h ds outs hw hg)
  (fun o rs p' w' ho h1 h2 h3 => ⟨rs, p', rfl, h1, by rw [← ho]; exact h2, by rw [← ho]; exact h3⟩) (fun e he T hT => (q8t hnp he hT).elim) (fun _ e he T hT => (q8t hnp he hT).elim))⟩
section
variable {c : Cx} {p : ql} {w w0 : World} {S0 : Nat → Prop} {a : Act} {σ σ' : St} {d : List Deferred} {z : Nat} {tbl : Tbl}
theorem z5t (htb : q17 tbl) {ann : Ann} {R : List D → Prop} (hnp : q9x tbl = true) {Q : Exit → Act → World → Prop} {K : Act → World → Prop} : ∀ (xs : List Code) {n : Nat} {σ : St} {k : Nat → ResD → St → Tree} {l : List D} {B : Nat → List D → Prop} {p : ql} {w : World} {a : Act},
  (zgs Try.prog tbl ann c.lo z xs n σ k).go (qe tbl) R l B → l.length = n → Bs c.A w0 S0 p w → SF (c.at (qe tbl) l) σ p w a → a.defers = d → a.tmps.size = z →
  (∀ n' r σ' l' B' p' w' a', l'.length = n' → (k n' r σ').go (qe tbl) R l' B' → Bs c.A w0 S0 p' w' → SF (c.at (qe tbl) l') σ' p' w' a' → a'.defers = d → a'.tmps.size = z → Exit.then K Q r.exit' a' w') → zb1 Try.prog Q xs K a w
 | [], n, σ, k, l, B, p, w, a, h, hl, hb, hf, hd, hz, hk => hk n .normal σ l B p w a hl h hb hf hd hz
 | x :: xs, n, σ, k, l, B, p, w, a, h, hl, hb, hf, hd, hz, hk => by
  refine (wpIn_wide (n := 0)).1 ?_
  refine qhq none 0 htb x h hl hb hf hd hz (qcj hnp) (qgw hnp) fun n' r σ' l' B' p' w' a' hl' _ _ hgo hb' hf' hd' hz' => ?_
  cases r with
  | normal => exact z5t htb hnp xs hgo hl' hb' hf' hd' hz' hk
  | ret => exact hk n' .ret σ' l' B' p' w' a' hl' hgo hb' hf' hd' hz'
  | exit i => exact hk n' (.exit i) σ' l' B' p' w' a' hl' hgo hb' hf' hd' hz'
theorem z8x {t : Nat} (h : zcn t σ = some σ') (hf : SF c σ p w a) : SF { c with snap := fun q => if q = VB + t then a.eval (.tmp t) else c.snap q } σ' p w a ∧ ∃ f vs, a.eval (.tmp t) = .func (.func f) #[] vs := by
 unfold zcn at h
 split at h
 ·rename_i f l hx
  split at h
  ·rename_i hok
   simp only [List.all_eq_true] at hok
   injection h with h
   subst h
   refine ⟨⟨fun k y hy => ?_, fun k e he => hf.m k e he⟩, ?_⟩
   ·by_cases hk : t = k
    ·subst hk
     have hy : lkA (je σ.t t (.sn (VB + t) (.fn f l))) t = some y := hy
     rw [q0y] at hy
     injection hy with hy
     subst hy
     obtain ⟨v, hv, hp⟩ := hf.t t _ hx
     refine ⟨v, hv, ?_, q80 _ v (hok _ (jn hx)) hp⟩
     show v = if VB + t = VB + t then a.eval (.tmp t) else _
     rw [if_pos rfl]
     show v = a.tmps.getD t undef
     simp [Array.getD_eq_getD_getElem?, hv]
    ·have hy : lkA (je σ.t t (.sn (VB + t) (.fn f l))) k = some y := hy
     rw [q3g hk] at hy
     obtain ⟨v, hv, hp⟩ := hf.t k y hy
     exact ⟨v, hv, q80 y v (hok _ (jn hy)) hp⟩
   ·obtain ⟨v, hv, vs, e, -⟩ := hf.t t _ hx
    refine ⟨f, vs.toArray, ?_⟩
    show a.tmps.getD t undef = _
    rw [← e]
    simp [Array.getD_eq_getD_getElem?, hv]
  ·cases h
 ·cases h
theorem zeb {o : Oper} {t : Nat} (h : zic o = some t) {f : FuncId} {caps : Array Value} (hv : a.eval (.tmp t) = .func (.func f) #[] caps) {K : Act → World → Prop} {Q : Exit → Act → World → Prop} (hk : K { a with defers := { target := .fn (.func f) caps, args := #[] } :: a.defers } w) :
  o.guard = none ∧ o.wp Try.prog a w K Q := by
 unfold zic at h
 split at h
 ·rename_i cl ho hdst hg
  split at h
  ·rename_i t' hcal hargs
   injection h with h
   subst h
   refine ⟨hg, ?_⟩
   obtain ⟨callee, ⟨args⟩, tys⟩ := cl
   simp only at hcal hargs
   subst hcal hargs
   have hrun : (execOp a.eval o).run Try.prog w = .ok (.defer { target := .fn (.func f) caps, args := #[] }) w := by
    generalize a.eval = r at *
    simp [execOp, ho, resolve, Deferred.ofValue, hv]
   unfold Oper.wp
   rw [hrun]
   show K ({ a with defers := _ :: a.defers }.put o.dst undef) w
   rw [hdst]
   exact hk
  ·cases h
 ·cases h
theorem z7y {t : Nat} {f : FuncId} (h : z9c t σ = some (f, σ')) (hf : SF c σ p w a) : SF c σ' p w a ∧ a.eval (.tmp t) = c.snap (VB + t) ∧ ∃ vs, a.eval (.tmp t) = .func (.func f) #[] vs := by
 unfold z9c at h
 split at h
 ·rename_i q f' l hx
  split at h
  ·rename_i hq
   simp only [Option.some.injEq, Prod.mk.injEq] at h
   obtain ⟨rfl, rfl⟩ := h
   obtain ⟨v, hv, he, hp⟩ := hf.t t _ hx
   have hq := Nat.eq_of_beq_eq_true hq
   have hev : a.eval (.tmp t) = v := by
    show a.tmps.getD t undef = _
    simp [Array.getD_eq_getD_getElem?, hv]
   obtain ⟨vs, e2, -⟩ : ∃ vs, v = .func (.func f') #[] vs.toArray ∧ True := let ⟨vs, e, _⟩ := hp; ⟨vs, e, trivial⟩
   refine ⟨⟨fun k y hy => ?_, hf.m⟩, ?_, vs.toArray, hev.trans e2⟩
   ·by_cases hk : t = k
    ·subst hk
     have hy : lkA (je σ.t t (.fn f' l)) t = some y := hy
     rw [q0y] at hy
     injection hy with hy
     subst hy
     exact ⟨v, hv, hp⟩
    ·have hy : lkA (je σ.t t (.fn f' l)) k = some y := hy
     rw [q3g hk] at hy
     exact hf.t k y hy
   ·rw [hev, ← hq, ← he]
  ·cases h
 ·cases h
theorem zed {k : Nat} {v : Value} (hf : SF c σ p w (a.put (some k) v)) : SF c (zis k σ) p w a := by
 refine ⟨fun t x hx => ?_, hf.m⟩
 have hx : lkA (σ.t.filter fun e => e.1 != k) t = some x := hx
 have hne : t ≠ k := fun e => by
  subst e
  obtain ⟨h1, h2⟩ := q96 (q := fun n => n != t) hx
  simp at h2
 obtain ⟨h1, -⟩ := q96 (q := fun n => n != k) hx
 obtain ⟨u, hu, hp⟩ := hf.t t x h1
 refine ⟨u, ?_, hp⟩
 have e : (a.put (some k) v).tmps[t]? = a.tmps[t]? := by
  simp [Act.put, Array.getElem?_setIfInBounds, hne.symm]
 rw [← e]
 exact hu
end
theorem z7h {ct : Ct} {tbl : Tbl} (ann : Ann) (fn : Func) (fd : FuncId) (cd : Code) (htb : q17 tbl) (hfd : ∀ e ∈ tbl, e.1.f = fd → zi9 e.1 e.2) (hf : Try.prog.funcs[ct.f]? = some fn) (hb : fn.body = some cd) (hsz : ct.ar.length ≤ fn.ntmps) (hnp : q9x tbl = true)
  {ds outs : List D} (h : (z9w Try.prog tbl ann ct fn fd cd).go (qe tbl) (fun o => o = outs) ds fun _ _ => False) : FAt ct ds outs := by
 intro A p w vs us hpre hvl hargs
 obtain ⟨hwf, hdl, -⟩ := hargs.wf
 rw [all_map] at hwf hdl
 obtain ⟨hb0, hsf⟩ := qtd (tbl := tbl) (fn := fn) hsz hpre hvl hargs
 refine calls_of_wp_defers hf hb ?_
 generalize hR : (fun (e : Ending) (w' : World) => (∃ T, ct.pn = some T ∧ outs = [.u] ∧ e = .panicked (q7w T) ∧ But (pinned p) w w') ∨ ∃ rs p', e = .returned (qd5 rs) ∧ Bs A w (pinned p) p' w' ∧ q7s A p' w' ct.rs ct.ar.length rs (outs.take ct.rs.length) ∧ q2n A p p' w' ct.all (outs.drop ct.rs.length)) = R
 have hfin : ∀ {c : Cx} {σ' : St} {l' : List D} {p' : ql} {w' : World} {a' : Act} {n' : Nat} {B' : Nat → List D → Prop}, c.A = A → c.At = (fun k g => (k < ct.ar.length ∨ VB ≤ k) → p (k * 16) = some g) → (∀ i, i < VB → c.snap i = (vs ++ us).getD i undef) → Bs c.A w (pinned p) p' w' → SF (c.at (qe tbl) l') σ' p' w' a' → (qrv ct fn.results.toList n' .ret σ').go (qe tbl) (fun o => o = outs) l' B' → Leaves Try.prog fn a'.tmps R [] .returning w' := by
  intro c σ' l' p' w' a' n' B' h1 h2 h3 hb' hf' hgo'
  simp only [qrv] at hgo'
  split at hgo'
  ·rename_i xs hx
   obtain ⟨rs, p2, e1, e2, e3, e4⟩ := z3h h1 h2 h3 hargs hb' hf' hx
   have ho : X.evs (evl (qe tbl) l') xs = outs := hgo'
   refine ⟨_, e1, ?_⟩
   rw [← hR]
   exact .inr ⟨rs, p2, rfl, e2, by rw [← ho]; exact e3, by rw [← ho]; exact e4⟩
  ·exact hgo'.elim
 unfold z9w at h
 split at h
 ·rename_i xs id ops post hcut
  refine qy0 hcut (z5t (c := cxA tbl ct A p vs us ds) (S0 := pinned p) (w0 := w) (d := []) (z := fn.ntmps) htb hnp xs h hdl hb0 hsf rfl (by simp; omega) fun n' r σ' l' B' p' w' a' hl' hgo' hb' hf' hd' hz' => ?_)
  cases r with
  | exit i => exact hgo'.elim
  | ret =>
   show Leaves Try.prog fn a'.tmps R a'.defers .returning w'
   rw [hd']
   exact hfin (c := cxA tbl ct A p vs us ds) rfl rfl (fun _ _ => rfl) hb' hf' hgo'
  | normal =>
   show (Code.seq (.region id ops.toArray false) post).wp Try.prog _ a' w'
   rcases ops with _ | ⟨mk, _ | ⟨df, _ | ⟨x, l⟩⟩⟩
   ·exact (show False from hgo').elim
   ·exact (show False from hgo').elim
   ·simp only [zju] at hgo'
    split at hgo'
    ·rename_i t hdt
     split at hgo'
     ·rename_i hmk
      simp only [Bool.and_eq_true, Option.isNone_iff_eq_none] at hmk
      split at hgo'
      ·rename_i N σ1 hst
       split at hgo'
       ·rename_i σ2 hhold
        obtain ⟨hN, hgo2⟩ := qpm hgo'
        refine wp_seq (wp_region ?_)
        have hw0 : Region.wanted mk (yielded ([mk, df].toArray) a'.tmps) = true := by simp [Region.wanted, hmk.1]
        have hstep := z09 (c := (cxA tbl ct A p vs us ds).at (qe tbl) l') (ops := [mk, df].toArray) (ds := dsts [mk, df]) (Q := Exit.then (post.wp Try.prog (bodyPostD Try.prog fn R)) (bodyPostD Try.prog fn R)) (K := wpOps Try.prog [mk, df].toArray (Exit.then (post.wp Try.prog (bodyPostD Try.prog fn R)) (bodyPostD Try.prog fn R)) [1]) htb rfl rfl hb' hf' hd' hz' hmk.2 hst hN (qcj hnp) fun a1 w1 hpost => ?_
        ·rw [if_pos hw0] at hstep
         show wpOps Try.prog [mk, df].toArray _ [0, 1] a' w'
         simp only [wpOps, List.getElem?_toArray, List.getElem?_cons_zero]
         rw [if_pos hw0]
         exact .inl hstep.2
        ·obtain ⟨p1, hb1, hf1, hd1, hz1⟩ := hpost
         obtain ⟨hf2, f, caps, hV⟩ := z8x hhold hf1
         generalize hcx : ({ cxA tbl ct A p vs us ds with snap := fun q => if q = VB + t then a1.eval (.tmp t) else (cxA tbl ct A p vs us ds).snap q } : Cx) = cx
         have hcA : cx.A = A := by rw [← hcx]; rfl
         have hcAt : cx.At = (fun k g => (k < ct.ar.length ∨ VB ≤ k) → p (k * 16) = some g) := by rw [← hcx]; rfl
         have hcs : ∀ i, i < VB → cx.snap i = (vs ++ us).getD i undef := fun i hi => by
          rw [← hcx]
          show (if i = VB + t then _ else _) = _
          rw [if_neg (by omega)]
          rfl
         have hct : cx.snap (VB + t) = a1.eval (.tmp t) := by
          rw [← hcx]
          show (if VB + t = VB + t then _ else _) = _
          rw [if_pos rfl]
         have hlo : cx.lo = ct.ar.length := by rw [← hcx]; rfl
         have hf3 : SF (cx.at (qe tbl) l') σ2 p1 w1 a1 := by rw [← hcx]; exact hf2
         have hb3 : Bs cx.A w (pinned p) p1 w1 := by rw [hcA]; exact hb1
         clear hcx
         have hdf := zeb (a := a1) (w := w1) (K := wpOps Try.prog [mk, df].toArray (Exit.then (post.wp Try.prog (bodyPostD Try.prog fn R)) (bodyPostD Try.prog fn R)) []) (Q := Exit.then (post.wp Try.prog (bodyPostD Try.prog fn R)) (bodyPostD Try.prog fn R)) hdt hV
         have hmain : post.wp Try.prog (bodyPostD Try.prog fn R) { a1 with defers := { target := .fn (.func f) caps, args := #[] } :: a1.defers } w1 := by
          refine (wpIn_wide (n := 0)).1 ?_
          refine qhq none 0 (c := cx) (S0 := pinned p) (w0 := w) (d := [{ target := .fn (.func f) caps, args := #[] }]) (z := fn.ntmps) htb post (by rw [hlo]; exact hgo2) hl' hb3 (SF.mk (fun t x hx => hf3.t t x hx) (fun k e he => hf3.m k e he)) (by rw [hd1]) hz1 (qcj hnp) (qgw hnp) fun n2 r σ3 l2 B2 p2 w2 a3 hl2 _ _ hgo3 hb4 hf4 hd4 hz4 => ?_
          have hend : (zax Try.prog tbl ct fn fd t n2 .ret σ3).go (qe tbl) (fun o => o = outs) l2 B2 → Leaves Try.prog fn a3.tmps R a3.defers .returning w2 := fun hgo3 => by
           simp only [zax] at hgo3
           split at hgo3
           ·rename_i f' σ4 hfree
            split at hgo3
            ·rename_i hff
             simp only [Bool.and_eq_true, Nat.blt_eq] at hff
             split at hgo3
             ·rename_i ns σ5 hcall
              obtain ⟨hns, hgo4⟩ := qpm hgo3
              obtain ⟨hf5, hsn, vs5, hfv⟩ := z7y hfree hf4
              obtain ⟨e, A0, p0, caps', us', ds', outs', hmem, hev, hg0, hpre0, hlen0, hargs0, -, hafter⟩ := qu1 (c := cx.at (qe tbl) l2) (S0 := pinned p) (w0 := w) htb rfl hb4 hf5 rfl hd4 hz4 hff.2 hcall hns
              have hval : Value.func (.func f) #[] caps = .func (.func e.1.f) #[] caps'.toArray := by
               rw [← hev, hsn, ← hV]
               exact hct.symm
              have he1 : f = e.1.f := by injection hval with h1 _ _; injection h1
              have he2 : caps = caps'.toArray := by injection hval
              have hfe : e.1.f = fd := by
               have h0 : Value.func (.func f') #[] vs5 = .func (.func e.1.f) #[] caps'.toArray := by rw [← hfv, hev]
               have h1 : f' = e.1.f := by injection h0 with h1 _ _; injection h1
               rw [← h1]
               exact Nat.eq_of_beq_eq_true hff.1
              rw [hd4]
              subst he1 he2
              have hD := (hfd e hmem hfe).2 A0 p0 w2 caps' us' ds' outs' .returning hg0 hpre0 hlen0 hargs0
              have hen := (htb e hmem).enter caps'.toArray w2
              refine leaves_cons (by simp) (f := e.1.f) (args := caps'.toArray) (by simp [invoke, hen]) (hD.mono ?_)
              rintro e' u' w3 ⟨rfl, rs, p3, rfl, hbs, hres, hrefs⟩
              obtain ⟨p4, hb5, hf6, -, -⟩ := hafter rs p3 w3 hbs hres hrefs (by rw [(hfd e hmem hfe).1]; intro q hq; cases hq)
              exact hfin (c := cx) hcA hcAt hcs hb5 (zed hf6) hgo4
             ·exact (show False from hgo3).elim
            ·exact (show False from hgo3).elim
           ·exact (show False from hgo3).elim
          cases r with
          | exit i => exact (show False from hgo3).elim
          | ret => exact hend hgo3
          | normal => exact hend hgo3
         obtain ⟨hg1, hw1⟩ := hdf hmain
         have hw2 : Region.wanted df (yielded ([mk, df].toArray) a1.tmps) = true := by simp [Region.wanted, hg1]
         show wpOps Try.prog [mk, df].toArray _ [1] a1 w1
         simp only [wpOps, List.getElem?_toArray, List.getElem?_cons_succ, List.getElem?_cons_zero]
         rw [if_pos hw2]
         exact .inl hw1
       ·exact hgo'.elim
      ·exact hgo'.elim
     ·exact hgo'.elim
    ·exact hgo'.elim
   ·exact (show False from hgo').elim
 ·exact h.elim
end
end Go.Proofs.Ytaoamndcdjelnaa
