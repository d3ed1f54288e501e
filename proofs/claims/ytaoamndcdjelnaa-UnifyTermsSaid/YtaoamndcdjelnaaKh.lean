/-
 Lemmas of the walk and plain laws, put together. No condition.
-/
import Derived.ChangeArms
import Derived.Deep.CondSized
import Derived.Great.BuildSlice
import Derived.OpenShut
import Derived.OwnWalk
import Derived.ProofKit
import Derived.SizedLaws
import Derived.StillTailTactics
import Derived.TacticsInMore
import Derived.Test.YtaoamndcdjelnaaRows
import Derived.Test.YtaoamndcdjelnaaKg
namespace Go.Proofs.Ytaoamndcdjelnaa
open Go.RowKit
set_option linter.unusedVariables false
set_option linter.unusedSimpArgs false
set_option maxRecDepth 100000
section
theorem z5b : ∀ (p : List Nat) {T : Tr}, Good T → q1q (fun w => jj (.v w)) T p = T p
 | [], T, h => by
  show (match T [] with | some (.v w) => jj (.v w) [] | x => x) = T []
  cases hT : T [] with
  | none => rfl
  | some x => cases x <;> rfl
 | j :: p, T, h => by
  show (match T [] with | some (.v w) => jj (.v w) (j :: p) | _ => q1q _ (fun q => T (j :: q)) p) = T (j :: p)
  have hk : q1q (fun w => jj (.v w)) (fun q => T (j :: q)) p = T (j :: p) := z5b p (h.kid j)
  cases hT : T [] with
  | none => exact hk
  | some x =>
   cases x with
   | v w => exact (h [] w hT j p).symm
   | _ => exact hk
mutual
theorem z4u {x : Int} : ∀ (t : Te) (vs : List Int), x ∈ zm vs t → x ∈ vs ∨ Oc x t
 | .mk k n s l, vs, h => by
  rw [zm] at h
  rcases z0f l _ h with h | ⟨u, hu, h⟩
  ·split at h
   ·rename_i q
    rcases List.mem_append.1 h with h | h
    ·exact .inl h
    ·rw [List.mem_singleton.1 h]
     exact .inr (.here q.1 rfl)
   ·exact .inl h
  ·exact .inr (.arg hu h)
theorem z0f {x : Int} : ∀ (l : List Te) (vs : List Int), x ∈ zo vs l → x ∈ vs ∨ ∃ u ∈ l, Oc x u
 | [], vs, h => .inl (by rwa [zo] at h)
 | t :: l, vs, h => by
  rw [zo] at h
  rcases z0f l _ h with h | ⟨u, hu, h⟩
  ·rcases z4u t vs h with h | h
   ·exact .inl h
   ·exact .inr ⟨t, List.mem_cons_self, h⟩
  ·exact .inr ⟨u, List.mem_cons_of_mem _ hu, h⟩
end
theorem zfo {x : Int} : ∀ (f : Nat) (T : Tr) (m : Int), m ≤ f → 0 ≤ (rdT f T m).2 → Oc x (rdT f T m).1 → ∃ p, T p = some (.v x)
 | 0, T, m, hm, h0, _ => by
  have h0 : (0 : Int) ≤ m - 1 := h0
  have hm : m ≤ (0 : Int) := hm
  omega
 | f + 1, T, m, hm, h0, ho => by
  have hm : m ≤ ((f + 1 : Nat) : Int) := hm
  unfold rdT at h0 ho
  by_cases hb : m - 1 < 0
  ·rw [if_pos hb] at h0
   have h0 : (0 : Int) ≤ m - 1 := h0
   omega
  ·rw [if_neg hb] at h0 ho
   cases hT : T [] with
   | none =>
    rw [hT] at h0
    cases (show (0 : Int) ≤ -1 from h0)
   | some y =>
    rw [hT] at h0 ho
    cases y with
    | i n =>
     cases ho with
     | here h _ => cases h
     | arg h _ => cases h
    | «at» n =>
     cases ho with
     | here h _ => cases h
     | arg h _ => cases h
    | v n =>
     cases ho with
     | here _ h =>
      have h : n = x := h
      exact ⟨[], by rw [hT, h]⟩
     | arg h _ => cases h
    | fn nm k =>
     have h0 : 0 ≤ (rdL (rdT f) ((List.range k).map (kid T)) (m - 1)).2 := h0
     have ho : Oc x (Te.mk 3 0 nm (rdL (rdT f) ((List.range k).map (kid T)) (m - 1)).1) := ho
     obtain ⟨u, hu, ho⟩ := z9f (fun h => by cases h) ho
     have hu : u ∈ (rdL (rdT f) ((List.range k).map (kid T)) (m - 1)).1 := hu
     have key : ∀ (js : List Nat) (c : Int), c ≤ f → 0 ≤ (rdL (rdT f) (js.map (kid T)) c).2 → u ∈ (rdL (rdT f) (js.map (kid T)) c).1 → ∃ p, T p = some (.v x) := by
      intro js
      induction js with
      | nil => exact fun c _ _ h => by cases h
      | cons j js ih =>
       intro c hc h1 h2
       simp only [List.map_cons, rdL] at h1 h2
       by_cases hc0 : c < 0
       ·simp only [if_pos hc0] at h2
        cases h2
       ·simp only [if_neg hc0] at h1 h2
        have hle := qop f (kid T j) c
        have hle2 := qwy (qop f) (js.map (kid T)) (rdT f (kid T j) c).2
        rcases List.mem_cons.1 h2 with h2 | h2
        ·rw [h2] at ho
         obtain ⟨p, hp⟩ := zfo f (kid T j) c hc (by omega) ho
         exact ⟨j :: p, hp⟩
        ·exact ih _ (by omega) h1 h2
     exact key _ _ (by omega) h0 hu
section
variable {a b : Te} {S : So} {all : List Vc} {x y : Ce} {V : List Int}
theorem qvn (ha : qi a = true) (hVa : inV V a) (hx : Rh S (fOf all) a x) {θ : Ce → Tr} (m : Mod S θ) {σ : Int → Tr} (hσ : ∀ v ∈ V, θ (fOf all v) = σ v) : θ x = zs σ a := by
 funext p
 rw [qz5 m p a x hx]
 exact qtk hσ p a hVa (yt.1 ha).2
theorem z74 {r : Int × List Bg × Int} {R : Int × So} (ha : qi a = true) (hb : qi b = true) (hr : PrOk [] 0 (fun σ => zs σ a = zs σ b) r) (hg : q1n S = true) (hi : Inj all) (hn : ∀ v d, ofV all v = some d → ∃ p : Nat, d = ⟨0, p⟩ ∧ S.cs[p]? = some d) (hVa : inV V a) (hVb : inV V b) (hV : ∀ v ∈ V, ∃ d, ofV all v = some d) (hx : Rh S (fOf all) a x) (hy : Rh S (fOf all) b y) (hvx : vcR S x = true) (hx5 : x.t ≠ 5) (hR : zbt S [(x, y)] R) :
  (r.1 = 0 → R.1 ≠ 4) ∧ (r.1 = 4 → R.1 ≠ 0) ∧ (r.1 = 0 → R.1 = 0 → q1s R.2 y = q1s R.2 x ∧ (rsA r.2.1 a 2000).2 = (q1l R.2 2001 x 2000).2 ∧ (0 ≤ (q1l R.2 2001 x 2000).2 → qi (q1l R.2 2001 x 2000).1 = true → zdj (q1l R.2 2001 x 2000).1 (rsA r.2.1 a 2000).1 = true)) := by
 have hv : qs S = true := by
  simp only [q1n, Bool.and_eq_true] at hg
  exact hg.2
 have hSol : ∀ θ : Ce → Tr, Sol θ [(x, y)] ↔ θ x = θ y := fun θ => by simp [Sol]
 -- trees for the heap out of trees for the terms
 have own : r.1 = 0 → ∃ θ, Mod S θ ∧ θ x = zs (z2d r.2.1) a ∧ θ x = θ y := fun h0 => by
  obtain ⟨θ, m, hθ⟩ := zhi hv hi hn (z2d r.2.1)
  have h1 := ((hr.ok h0 (z2d r.2.1)).1 (zd6 hr.sb)).2
  have hσ : ∀ v ∈ V, θ (fOf all v) = z2d r.2.1 v := fun v hv => by
   obtain ⟨d, hd⟩ := hV v hv
   exact hθ v d hd
  have e1 := qvn ha hVa hx m hσ
  have e2 := qvn hb hVb hy m hσ
  exact ⟨θ, m, e1, by rw [e1, e2]; exact h1⟩
 -- trees for the terms out of the heap
 have out : R.1 = 0 → ∀ θ, Mod R.2 θ → Mod S θ ∧ θ x = θ y ∧ θ x = zs (fun v => θ (fOf all v)) a ∧ zs (fun v => θ (fOf all v)) a = zs (fun v => θ (fOf all v)) b := fun h0 θ m => by
  rcases hR with ⟨-, -, -, h4, -⟩ | h | ⟨h, -⟩
  ·obtain ⟨m1, m2⟩ := (h4 θ).1 m
   have m2 := (hSol θ).1 m2
   have e1 := qvn ha hVa hx m1 (σ := fun v => θ (fOf all v)) fun v _ => rfl
   have e2 := qvn hb hVb hy m1 (σ := fun v => θ (fOf all v)) fun v _ => rfl
   exact ⟨m1, m2, e1, by rw [← e1, ← e2, m2]⟩
  ·omega
  ·omega
 refine ⟨fun h0 h4 => ?_, fun h4 h0 => ?_, fun h0 hR0 => ?_⟩
 ·obtain ⟨θ, m, -, e⟩ := own h0
  rcases hR with ⟨h, -⟩ | h | ⟨-, h⟩
  ·omega
  ·omega
  ·exact h θ ⟨m, (hSol θ).2 e⟩
 ·have hvR : qs R.2 = true := by
   rcases hR with ⟨-, h, -⟩ | h | ⟨h, -⟩
   ·simp only [q1n, Bool.and_eq_true] at h
    exact h.2
   ·omega
   ·omega
  obtain ⟨-, -, -, e⟩ := out h0 _ (qp4 hvR fun w => jj (.v w))
  exact hr.no h4 _ (z3v _) e
 ·have hRR := hR
  rcases hRR with ⟨-, hgR, hnR, hM, hvc⟩ | h | ⟨h, -⟩
  case inr.inl => omega
  case inr.inr => omega
  have hvR : qs R.2 = true := by
   simp only [q1n, Bool.and_eq_true] at hgR
   exact hgR.2
  have hid : (fun c => q1q (fun w => jj (.v w)) (q1s R.2 c)) = q1s R.2 := by
   funext c p
   exact z5b p (z8h R.2 c)
  have mH : Mod R.2 (q1s R.2) := by
   rw [← hid]
   exact qp4 hvR _
  obtain ⟨mS, e1, e2, e3⟩ := out hR0 _ mH
  have hs : qsy (fun v => q1s R.2 (fOf all v)) r.2.1 := (hr.ok h0 _).2 ⟨z3v _, e3⟩
  have hT : ∀ q, q1s R.2 x q = q1q (fun v => q1s R.2 (fOf all v)) (jz r.2.1 a) q := fun q => by
   rw [z5s hr.sb hs q a ha, e2]
  obtain ⟨θ, mo, o1, o2⟩ := own h0
  have mR : Mod R.2 θ := (hM θ).2 ⟨mo, (hSol θ).2 o2⟩
  have hU : ∀ q, jz r.2.1 a q = q1q (fun w => θ ⟨0, w⟩) (q1s R.2 x) q := fun q => by
   rw [z14 hvR hnR mR q ((hvc x hx5).trans hvx) hx5, o1, qo2 q a ha]
  have hGB : Good (jz r.2.1 a) := fun p w hw => (z1j hr.sb p a ha w hw).2
  have key := fun p => qtj p (z8h R.2 x) hGB hT hU
  rw [qhg]
  have hrs := zfu hr.sb 2001 a 2000 ha (by decide) (by decide)
  have hrl := qyh (π := fun w => match θ ⟨0, w⟩ [] with | some (.v u) => u | _ => 0) 2001 (T := q1s R.2 x) (U := jz r.2.1 a) 2000 (by decide) fun p => (key p).1
  refine ⟨e1.symm, hrs.1.trans hrl.1, fun hp hval => ?_⟩
  have e4 := hrl.2 hp
  have e5 := hrs.2 (by rw [hrs.1, hrl.1]; exact hp)
  rw [e5, e4]
  have hlab : ∀ w ∈ zm [] (rdT 2001 (q1s R.2 x) 2000).1, ∃ u, θ ⟨0, w⟩ [] = some (.v u) ∧ q1s R.2 (fOf all u) [] = some (.v w) ∧ 0 ≤ u ∧ u ≤ 1099511627776 := fun w hw => by
   rcases z4u _ _ hw with h | h
   ·cases h
   ·obtain ⟨p, hp⟩ := zfo 2001 _ 2000 (by decide) hp h
    obtain ⟨u, h1, h2⟩ := (key p).2 w hp
    have h3 := (key p).1
    rw [hp] at h3
    have h3 : jz r.2.1 a p = some (.v (match θ ⟨0, w⟩ [] with | some (.v u) => u | _ => 0)) := h3
    rw [h1] at h3
    exact ⟨u, h1, h2, (z1j hr.sb p a ha u h3).1⟩
  obtain ⟨c1, c2, c3⟩ := zf1 (t := (rdT 2001 (q1s R.2 x) 2000).1) (f := fun w => match θ ⟨0, w⟩ [] with | some (.v u) => u | _ => 0) (fun w hw w' hw' e => by
   obtain ⟨u, h1, h2, -⟩ := hlab w hw
   obtain ⟨u', h1', h2', -⟩ := hlab w' hw'
   simp only [h1, h1'] at e
   subst e
   rw [h2] at h2'
   have := Option.some.inj h2'
   injection this) (fun w hw => by
   obtain ⟨u, h1, -, h3⟩ := hlab w hw
   simp only [h1]
   exact h3) hval
  simp only [zdj, hval, c2, c3, decide_true, Bool.and_self]
end
theorem zk1 (c : Ce) : (yr c).t ≠ 5 := by
 unfold yr
 split
 ·exact fun h => by cases h
 ·assumption
def N5 (s : So) : Prop := ∀ c ∈ s.cs, c.t ≠ 5
mutual
theorem qw2 : ∀ (t : Te) (q : Sv) (a : Int), qu t = true → N5 q.1 → N5 (qr q t a).2.1 ∧ (qr q t a).1.t ≠ 5
 | .mk k n nm l, q, a, hn, h => by
  rw [qu, Bool.and_eq_true] at hn
  rcases q05 hn.1 with ⟨rfl, rfl, h1, h2⟩ | ⟨rfl, rfl⟩ | ⟨rfl, rfl, h1⟩ | ⟨rfl, h1, h2, h3⟩
  ·rw [q61]
   split
   ·exact ⟨h, zk1 _⟩
   ·split
    ·refine ⟨fun c hc => ?_, fun e => by cases e⟩
     rcases List.mem_append.1 hc with hc | hc
     ·exact h c hc
     ·rw [List.mem_singleton.1 hc]
      exact fun e => by cases e
    ·exact ⟨h, fun e => by cases e⟩
  ·rw [q9j]
   exact ⟨h, fun e => by cases e⟩
  ·rw [q9g]
   refine ⟨fun c hc => h c ?_, fun e => by cases e⟩
   rw [← (qc6 q.1 nm 0).1]
   exact hc
  ·rw [q9m]
   refine ⟨z00 l _ _ hn.2 fun c hc => ?_, fun e => by cases e⟩
   rcases List.mem_append.1 hc with hc | hc
   ·exact h c hc
   ·rcases List.mem_cons.1 hc with rfl | hc
    ·exact fun e => by cases e
    ·rw [(List.mem_replicate.1 hc).2]
     exact fun e => by cases e
theorem z00 : ∀ (l : List Te) (q : Sv) (to : Nat), zj l = true → N5 q.1 → N5 (yc q l to).1
 | [], q, to, _, h => by rw [yc]; exact h
 | t :: l, q, to, hn, h => by
  rw [zj, Bool.and_eq_true] at hn
  rw [yc]
  obtain ⟨h1, h2⟩ := qw2 t q (to : Nat) hn.1 h
  refine z00 l _ _ hn.2 fun c hc => ?_
  rcases List.mem_or_eq_of_mem_set hc with hc | rfl
  ·exact h1 c hc
  ·exact h2
end
theorem z7q {s : So} (h : N5 s) : qdu s := fun i hi => by
 obtain ⟨h0, h1⟩ := qn.1 hi
 exact h _ (q19 (show i.toNat < s.cs.length by omega))
end
section
open Go.RowKit Go.Shelf
attribute [local go_sem] Oper.semAt_some
theorem qe4 (w : World) {ops : Array Oper} {rest : List Oper} {o : Oper} {a : Act} {Q : Exit → Act → World → Prop} (hgd : o.guard = none) (s x : Operand) (t t' : TypeId)
  (ho : o.op = .call { callee := .builtin .append, args := #[s, x], argTypes := #[t, t'] }) (v u : Value) (hs : a.eval s = v) (hx : a.eval x = u) {v' : Value} {w' : World}
  (hr : (Builtin.append_ #[t, t'] o.type #[v, u]).run Try.prog w = .ok v' w') (h : wpList Try.prog ops Q rest (a.put o.dst v') w') : wpList Try.prog ops Q (o :: rest) a w :=
 wpList_plain hgd fun _ hK => by
  unfold Oper.wp execOp
  simp only [ho, resolve, invoke, builtin, Sem.run_bind, Sem.run_pure, Result.andThen_ok, List.map_toArray, List.map_cons, List.map_nil, hs, hx, hr]
  exact hK _ _ h
theorem z8t {w : World} {k : Nat} {a b c d e f : Value} {T : TypeId} (h : w.heap[k]? = some (.cells #[a, b, c, d, e, f] T (0, 0))) :
  w.cell? ⟨k, 0, none⟩ = some a ∧ w.cell? ⟨k, 1, none⟩ = some b ∧ w.cell? ⟨k, 2, none⟩ = some c ∧ w.cell? ⟨k, 3, none⟩ = some d ∧ w.cell? ⟨k, 4, none⟩ = some e ∧ w.cell? ⟨k, 5, none⟩ = some f :=
 ⟨cell_of_row _ _ 0 _ _ _ h, cell_of_row _ _ 1 _ _ _ h, cell_of_row _ _ 2 _ _ _ h, cell_of_row _ _ 3 _ _ _ h, cell_of_row _ _ 4 _ _ _ h, cell_of_row _ _ 5 _ _ _ h⟩
set_option maxHeartbeats 4000000 in
theorem zef (w : World) (gv : Nat) (v0 v2 v3 n4 n5 : Value) (TS : TypeId) (A1 : Option Addr) (l c : Nat) (hl : l ≤ 9223372036854775807) (hgv : w.heap[gv]? = some (.cells #[v0, .slice A1 l c, v2, v3, n4, n5] TS (0, 0))) (nm : ByteArray) (ar n : Int)
  (hfind : Calls Try.prog 97 #[.agg #[v0, .slice A1 l c, v2, v3, n4, n5], .string nm, .int .i64 ar] w fun e w' => e = .returned (.int .i64 n) ∧ But Nil w w') {K : Value → World → Prop}
  (happ : n < 0 → ∀ w1 ty, But Nil w w1 → w1.heap[w1.heap.size - 1]? = some (.cells #[.string nm, .int .i64 ar] 66 (0, 0)) → w.heap.size ≤ w1.heap.size - 1 → ∃ A2 l2 c2 w2, (Builtin.append_ #[23, 23] ty #[.slice A1 l c, .slice (some ⟨w1.heap.size - 1, 0, none⟩) 1 1]).run Try.prog w1 = .ok (.slice A2 l2 c2) w2 ∧ K (.slice A2 l2 c2) w2 ∧ w2.heap[gv]? = w.heap[gv]?) :
  Calls Try.prog 72 #[.pointer (some ⟨gv, 0, none⟩), .string nm, .int .i64 ar] w fun e w' => (0 ≤ n ∧ e = .returned (.int .i64 n) ∧ But Nil w w') ∨ (n < 0 ∧ e = .returned (.int .i64 l) ∧ ∃ v' w2, K v' w2 ∧ w' = w2.setCell ⟨gv, 1, none⟩ v') := by
 obtain ⟨c0, c1, c2, c3, c4, c5⟩ := z8t hgv
 go_enter Try.func72, Try.ntmps72
 go_wp2_with fail
 refine hfind.mono ?_
 rintro e w1 ⟨rfl, hb1⟩
 have hgv1 := (hb1.block gv (jd hgv) id).trans hgv
 obtain ⟨d0, d1, d2, d3, d4, d5⟩ := z8t hgv1
 by_cases hn : n < 0
 ·obtain ⟨A2, l2, c2, w2, hr, hk, hg2⟩ := happ hn (w1.alloc (.cells #[.string nm, .int .i64 ar] 66)) 23 (hb1.alloc _) (by rw [hsize, Nat.add_sub_cancel]; exact q3c rfl) (by rw [hsize, Nat.add_sub_cancel]; exact hb1.size)
  rw [hsize, Nat.add_sub_cancel] at hr
  have hgv2 := hg2.trans hgv
  obtain ⟨e0, e1, e2, e3, e4, e5⟩ := z8t hgv2
  have hfz := frz hgv2 1
  go_wp2_with (at_builtin; refine qe4 _ rfl _ _ _ _ rfl _ _ rfl rfl hr ?_)
  go_ret
  exact .inr ⟨hn, rfl, _, _, hk, rfl⟩
 ·go_wp2_with fail
  go_ret
  exact .inl ⟨by omega, rfl, hb1⟩
end
section
abbrev nS : TypeId := match q6k with
 | .st S => S
 | _ => 0
theorem zjv : flds nS = some [.row 29, .row 66, .row 68, .row 61, .int .i64, .int .i64] := by kernel_rfl
theorem zgd : qy 0 q6k = [(0, 1), (1, 2), (2, 3), (3, 4)] := by kernel_rfl
theorem ze1 : qk 66 = some q1z := by kernel_rfl
theorem zjc : qk 23 = some (.row 66) := by kernel_rfl
abbrev nY : TypeId := match q1z with
 | .st S => S
 | _ => 0
theorem zkj : flds nY = some [.str, .int .i64] := by kernel_rfl
theorem wSy : q1z.w = 2 := by kernel_rfl
theorem zjl : LM q1z = 5864062014634 := by kernel_rfl
section
variable {A : Nat → Prop} {p : ql} {w : World} {dep : List Nat}
theorem qxi {pin E : Nat} {te : Ty} (hte : qk E = some te) {l : List D} {cs : List Value} (h : Fl A p w dep (some pin) (.r l) (.row E) cs) : ∃ v, cs = [v] ∧ q8v A p w dep pin E te l v := by
 rcases h with ⟨E', te', l', v, e, hte', e2, rfl, hv⟩ | ⟨K, V, kt, vt, l', g, es, clock, e, -⟩
 ·injection e with e
  subst e
  injection e2 with e2
  subst e2
  obtain rfl := Option.some.inj (hte.symm.trans hte')
  exact ⟨v, rfl, hv⟩
 ·cases e
theorem zb5 {n : Int} {cs : List Value} (h : Fl A p w dep none (.i n) (.int .i64) cs) : cs = [.int .i64 n] ∧ j8 .i64 n = true := by
 obtain ⟨k, e, h1, h2⟩ := h
 injection e with e
 subst e
 exact ⟨h1, h2⟩
theorem z6r {s : So} {cs : List Value} {tC tU tW : Ty} (hC : qk 29 = some tC) (hU : qk 68 = some tU) (hW : qk 61 = some tW) (h : Con A p w (eS s) q6k (qy 0 q6k) [] cs) :
  ∃ v0 v1 v2 v3, cs = [v0, v1, v2, v3, .int .i64 s.ser, .int .i64 s.mx] ∧ q8v A p w [] 1 29 tC (s.cs.map eC) v0 ∧ q8v A p w [] 2 66 q1z (s.ys.map eY) v1 ∧ q8v A p w [] 3 68 tU (s.tr.map eU) v2 ∧ q8v A p w [] 4 61 tW (s.wk.map eW) v3 ∧ j8 .i64 s.ser = true ∧ j8 .i64 s.mx = true := by
 rw [zgd] at h
 obtain ⟨fs, ds, hf, e, t0, ts0, c0, r0, e0, q0, h0, t1, ts1, c1, r1, e1, q1, h1, t2, ts2, c2, r2, e2, q2, h2, t3, ts3, c3, r3, e3, q3, h3, t4, ts4, c4, r4, e4, q4, h4, t5, ts5, c5, r5, e5, q5, h5, hn⟩ : ∃ fs ds, flds nS = some fs ∧ eS s = .a ds ∧ ∃ t0 ts0 c0 r0, fs = t0 :: ts0 ∧ cs = c0 ++ r0 ∧ Fl A p w [] (some 1) (.r (s.cs.map eC)) t0 c0 ∧ ∃ t1 ts1 c1 r1, ts0 = t1 :: ts1 ∧ r0 = c1 ++ r1 ∧ Fl A p w [] (some 2) (.r (s.ys.map eY)) t1 c1 ∧ ∃ t2 ts2 c2 r2, ts1 = t2 :: ts2 ∧ r1 = c2 ++ r2 ∧ Fl A p w [] (some 3) (.r (s.tr.map eU)) t2 c2 ∧ ∃ t3 ts3 c3 r3, ts2 = t3 :: ts3 ∧ r2 = c3 ++ r3 ∧ Fl A p w [] (some 4) (.r (s.wk.map eW)) t3 c3 ∧ ∃ t4 ts4 c4 r4, ts3 = t4 :: ts4 ∧ r3 = c4 ++ r4 ∧ Fl A p w [] none (.i s.ser) t4 c4 ∧ ∃ t5 ts5 c5 r5, ts4 = t5 :: ts5 ∧ r4 = c5 ++ r5 ∧ Fl A p w [] none (.i s.mx) t5 c5 ∧ ts5 = [] ∧ r5 = [] := by
  obtain ⟨fs, ds, hf, e, h⟩ := h
  have e' := e
  unfold eS at e'
  injection e' with e'
  subst e'
  exact ⟨fs, _, hf, e, h⟩
 rw [zjv] at hf
 obtain rfl := Option.some.inj hf
 obtain ⟨rfl, rfl⟩ := List.cons.inj e0
 obtain ⟨rfl, rfl⟩ := List.cons.inj e1
 obtain ⟨rfl, rfl⟩ := List.cons.inj e2
 obtain ⟨rfl, rfl⟩ := List.cons.inj e3
 obtain ⟨rfl, rfl⟩ := List.cons.inj e4
 obtain ⟨rfl, rfl⟩ := List.cons.inj e5
 obtain ⟨v0, rfl, g0⟩ := qxi hC h0
 obtain ⟨v1, rfl, g1⟩ := qxi ze1 h1
 obtain ⟨v2, rfl, g2⟩ := qxi hU h2
 obtain ⟨v3, rfl, g3⟩ := qxi hW h3
 obtain ⟨rfl, g4⟩ := zb5 h4
 obtain ⟨rfl, g5⟩ := zb5 h5
 obtain ⟨-, rfl⟩ := hn
 refine ⟨v0, v1, v2, v3, ?_, g0, g1, g2, g3, g4, g5⟩
 rw [q0, q1, q2, q3, q4, q5]
 rfl
theorem zib {s : So} {tC tU tW : Ty} (hC : qk 29 = some tC) (hU : qk 68 = some tU) (hW : qk 61 = some tW) {v0 v1 v2 v3 : Value} (h0 : q8v A p w [] 1 29 tC (s.cs.map eC) v0) (h1 : q8v A p w [] 2 66 q1z (s.ys.map eY) v1) (h2 : q8v A p w [] 3 68 tU (s.tr.map eU) v2) (h3 : q8v A p w [] 4 61 tW (s.wk.map eW) v3) (h4 : j8 .i64 s.ser = true) (h5 : j8 .i64 s.mx = true) :
  Con A p w (eS s) q6k (qy 0 q6k) [] [v0, v1, v2, v3, .int .i64 s.ser, .int .i64 s.mx] := by
 rw [zgd]
 refine ⟨_, _, zjv, rfl, .row 29, _, [v0], [v1, v2, v3, .int .i64 s.ser, .int .i64 s.mx], rfl, rfl, .inl ⟨_, tC, _, v0, rfl, hC, rfl, rfl, h0⟩, .row 66, _, [v1], [v2, v3, .int .i64 s.ser, .int .i64 s.mx], rfl, rfl, .inl ⟨_, _, _, v1, rfl, ze1, rfl, rfl, h1⟩, .row 68, _, [v2], [v3, .int .i64 s.ser, .int .i64 s.mx], rfl, rfl, .inl ⟨_, tU, _, v2, rfl, hU, rfl, rfl, h2⟩, .row 61, _, [v3], [.int .i64 s.ser, .int .i64 s.mx], rfl, rfl, .inl ⟨_, tW, _, v3, rfl, hW, rfl, rfl, h3⟩, .int .i64, _, [.int .i64 s.ser], [.int .i64 s.mx], rfl, rfl, ⟨.i64, rfl, rfl, h4⟩, .int .i64, [], [.int .i64 s.mx], [], rfl, rfl, ⟨.i64, rfl, rfl, h5⟩, rfl, rfl⟩
end
def qp5 : List D → Option (List D)
 | [s, nm, ar] => if (dS s).ys.length < 5864062014634 then some [.i (yy (dS s) nm.str ar.int).1, eS (yy (dS s) nm.str ar.int).2] else none
 | _ => none
theorem z0b (A : Nat → Prop) (p : ql) (w : World) (vs us : List Value) (ds outs : List D) (hg : qp5 ds = some outs) (hpre : Pre qx.ar.length A p w) (hvl : vs.length = qx.ar.length) (hargs : zk (vs ++ us) A p w qx.all (vs ++ us) ds) :
  Calls Try.prog qx.f vs.toArray w fun e w' => ∃ rs p', e = .returned (qd5 rs) ∧ Bs A w (pinned p) p' w' ∧ q7s A p' w' qx.rs qx.ar.length rs (outs.take qx.rs.length) ∧ q2n A p p' w' qx.all (outs.drop qx.rs.length) ∧ Kpt qx.kp p p' w w' := by
 obtain ⟨hwf, -, -⟩ := hargs.wf
 rw [all_map] at hwf
 obtain ⟨d, r, rfl, hd, e, r', rfl, he, f, r2, rfl, hf', rfl⟩ := hwf
 obtain ⟨s, rfl, hs⟩ := wfS hd
 obtain ⟨nm, rfl, hn⟩ := he.str
 obtain ⟨ar, rfl, ha⟩ := wfI hf'
 simp only [qp5, z3, qkh, z5, Option.ite_none_right_eq_some, Option.some.injEq] at hg
 obtain ⟨hlen, rfl⟩ := hg
 obtain ⟨x0, r0, d0, ds0, e0, e00, ⟨gv, cs, TS, hp0, rfl, hgv, hcon⟩, x1, r1, d1, ds1, e1, e11, ⟨cs1, hpk1, hc1⟩, x2, r2, d2, ds2, e2', e22, ⟨cs2, hpk2, hc2⟩, hr⟩ := hargs
 obtain rfl : r2 = [] := hr.1
 subst e1 e2'
 obtain ⟨rfl, rfl⟩ := List.cons.inj e00
 obtain ⟨rfl, rfl⟩ := List.cons.inj e11
 obtain ⟨rfl, -⟩ := List.cons.inj e22
 clear e00 e11 e22 hr
 obtain ⟨rfl, rfl⟩ : vs = [.pointer (some ⟨gv, 0, none⟩), x1, x2] ∧ us = [] := by
  have hl3 : vs.length = 3 := hvl
  have hus : us.length = 0 := by
   have := congrArg List.length e0
   simp at this
   omega
  obtain rfl := List.length_eq_zero_iff.1 hus
  exact ⟨by simpa using e0, rfl⟩
 clear e0
 obtain ⟨-, rfl, hnm⟩ : D.str (.s nm) = nm ∧ cs1 = [.string nm] ∧ nm.size ≤ LIM := ⟨rfl, hc1.2.1, hc1.2.2⟩
 obtain rfl : Value.string nm = x1 := (List.cons.inj hpk1).1
 obtain ⟨k2, ek2, rfl, hra⟩ := hc2
 injection ek2 with ek2
 subst ek2
 obtain rfl : Value.int .i64 ar = x2 := (List.cons.inj hpk2).1
 obtain ⟨tC, hC⟩ : ∃ t, qk 29 = some t := ⟨qbn, by kernel_rfl⟩
 obtain ⟨tU, hU⟩ : ∃ t, qk 68 = some t := ⟨qx4, by kernel_rfl⟩
 obtain ⟨tW, hW⟩ : ∃ t, qk 61 = some t := ⟨qwf, by kernel_rfl⟩
 obtain ⟨v0, v1, v2, v3, hcs, o0, o1, o2, o3, i4, i5⟩ := z6r hC hU hW hcon
 have hp0 : p 0 = some gv := hp0
 obtain rfl : cs = #[v0, v1, v2, v3, .int .i64 s.ser, .int .i64 s.mx] := by
  apply Array.ext'
  exact hcs
 obtain ⟨A1, l1, c1, rfl, hl1⟩ : ∃ A1 l1 c1, v1 = .slice A1 l1 c1 ∧ l1 = s.ys.length := by
  rcases o1 with ⟨rfl, h⟩ | ⟨g, cap, cur, rfl, -⟩
  ·exact ⟨_, _, _, rfl, by have := congrArg List.length h; simp at this; simp [this]⟩
  ·exact ⟨_, _, _, rfl, by simp⟩
 have hflat : z0 8 q1z = true := by kernel_rfl
 have hy : ∀ (W : World) (F : Nat → Prop), Rd W F (eY ⟨nm, ar⟩) q1z [.string nm, .int .i64 ar] := fun W F => ⟨nY, _, rfl, zkj, .str, _, [.string nm], [.int .i64 ar], rfl, rfl, ⟨rfl, rfl, hnm⟩, .int .i64, [], [.int .i64 ar], [], rfl, rfl, ⟨.i64, rfl, rfl, hra⟩, rfl, rfl⟩
 have hrd : Rd w (FFD A (fun _ => none) []) (eS s) q6k [v0, .slice A1 l1 c1, v2, v3, .int .i64 s.ser, .int .i64 s.mx] :=
  Rd.mono (fun b _ hb => by
   rcases hb with ⟨h, -⟩ | ⟨x, -, h⟩
   ·exact .inl ⟨h, fun x hx => by cases hx⟩
   ·exact .inl ⟨hpre.pa x b h, fun x hx => by cases hx⟩) (hcon.rd (dep' := (qy 0 q6k).map (·.2)) (fun _ h => by cases h) (fun _ h => h))
 have hfind : Calls Try.prog 97 #[.agg #[v0, .slice A1 l1 c1, v2, v3, .int .i64 s.ser, .int .i64 s.mx], .string nm, .int .i64 ar] w fun e w' => e = .returned (.int .i64 (q77 s nm ar)) ∧ But Nil w w' := by
  refine (qt2.call A (fun _ => none) w [.agg #[v0, .slice A1 l1 c1, v2, v3, .int .i64 s.ser, .int .i64 s.mx], .string nm, .int .i64 ar] [] [eS s, .s nm, .i ar] _ rfl ⟨by simp, by simp, by simp, by simp, hpre.new, by simp⟩ rfl
   ⟨_, _, _, _, rfl, rfl, ⟨_, rfl, hrd⟩, _, _, _, _, rfl, rfl, ⟨[.string nm], rfl, rfl, rfl, hnm⟩, _, _, _, _, rfl, rfl, ⟨[.int .i64 ar], rfl, .i64, rfl, rfl, hra⟩, rfl, rfl⟩).mono ?_
  rintro e w' (⟨T, hT, -⟩ | ⟨rs, p', rfl, hb, ⟨v, r, d, ds', rfl, hd', ⟨cs', hpk, hcn⟩, hr0⟩, -⟩)
  ·cases hT
  ·obtain rfl : r = [] := hr0
   obtain ⟨rfl, -⟩ := List.cons.inj hd'
   obtain ⟨k, ek, rfl, -⟩ := hcn
   injection ek with ek
   subst ek
   obtain rfl : Value.int .i64 (q77 (dS (eS s)) (D.s nm).str (D.i ar).int) = v := (List.cons.inj hpk).1
   exact ⟨by rw [z3]; rfl, hb.but.mono fun i ⟨x, hx⟩ _ => by cases hx⟩
 have hst1 : ∀ {w1 : World}, But Nil w w1 → Stab A no no p w p w1 := fun {w1} hb1 => ⟨hb1.size, fun b hlt _ hf => ⟨hb1.block b hlt id, hf⟩, fun _ _ _ h => h, fun x b _ hx => hb1.block b (hpre.bd x b hx) id⟩
 have hbs1 : ∀ {w1 : World}, But Nil w w1 → Bs A w (pinned p) p w1 := fun {w1} hb1 => ⟨hpre.inj, fun x b hx => Nat.lt_of_lt_of_le (hpre.bd x b hx) hb1.size, hb1.of_nil, fun x b hx => .inl ⟨x, hx⟩, hpre.new, hpre.pa, fun x b hx => (hpre.obj x b hx).same (hb1.block b (hpre.bd x b hx) id)⟩
 refine (zef w gv v0 v2 v3 (.int .i64 s.ser) (.int .i64 s.mx) TS A1 l1 c1 (by omega) hgv nm ar (q77 s nm ar) hfind (K := fun v' w2 => ∃ w1 p', But Nil w w1 ∧ AppOut A w (pinned p) p w1 (some 2) 2 66 q1z (s.ys.map eY).length [.string nm, .int .i64 ar] [eY ⟨nm, ar⟩].length v' p' w2) fun hneg w1 ty hb1 hcell hge => ?_).mono ?_
 ·have o1' := o1.kept (hst1 hb1) (fun x hx => by cases hx) ⟨rfl, rfl⟩
  obtain ⟨v', p', w2, hr, hap⟩ := qw6 (T := 23) zjc ze1 (pin := some 2) (P' := 2) (hbs1 hb1) (fun _ _ => rfl) (n := (s.ys.map eY).length) (m := [eY ⟨nm, ar⟩].length) (cb := 1) (va := .slice A1 l1 c1) (by
    rcases o1' with ⟨h1, h2⟩ | ⟨g, cap, cur, h1, h2, h3, h4, h5, h6, h7, -⟩
    ·exact .inl ⟨h1, by rw [h2]; rfl⟩
    ·exact .inr ⟨2, g, cap, cur, rfl, h1, h2, h3, h4, h5, h6⟩) (Ab := some ⟨w1.heap.size - 1, 0, none⟩) (news := [.string nm, .int .i64 ar]) (by rw [wSy]; rfl) (fun ad h j u hj => by
    injection h with h
    subst h
    rw [Addr.add_lit, Nat.zero_add, cell_of_row w1 _ j _ _ (0, 0) hcell]
    simpa using hj) (fun h => by cases h) (fun c hc => by simp at hc; rcases hc with rfl | rfl <;> rfl) (by rw [zjl, List.length_map]; simp; omega) ty
  obtain ⟨A2, l2, c2, rfl⟩ : ∃ A2 l2 c2, v' = .slice A2 l2 c2 := by
   rcases hap.res with ⟨rfl, -⟩ | ⟨g', cap', cur', rfl, -⟩ <;> exact ⟨_, _, _, rfl⟩
  exact ⟨A2, l2, c2, w2, hr, ⟨w1, p', hb1, hap⟩, (hap.stab.con 0 gv rfl hp0).trans (hb1.block gv (jd hgv) id)⟩
 ·rintro e w' (⟨h0, rfl, hb⟩ | ⟨h0, rfl, v', w2, ⟨w1, p', hb1, hap⟩, rfl⟩)
  ·have hN : yy s nm ar = (q77 s nm ar, s) := by unfold yy; rw [if_pos h0]
   rw [hN]
   have hrn : j8 .i64 (q77 s nm ar) = true := by
    rcases z4f (nm := nm) (ar := ar) 0 s.ys with h | ⟨h1, h2⟩
    ·exact absurd (show 0 ≤ fnd nm ar 0 s.ys from h0) (by omega)
    ·show j8 .i64 (fnd nm ar 0 s.ys) = true
     simp [j8]
     omega
   refine ⟨[.int .i64 (q77 s nm ar)], p, rfl, hbs1 hb, ⟨_, _, _, _, rfl, rfl, ⟨[.int .i64 (q77 s nm ar)], rfl, .i64, rfl, rfl, hrn⟩, rfl⟩, ⟨_, _, rfl, ⟨gv, _, TS, hp0, hp0, (hb.block gv (jd hgv) id).trans hgv, hcon.kept (hst1 hb) (fun x hx => by cases hx) fun _ _ => ⟨rfl, rfl⟩⟩, rfl⟩, fun q hq b hb' => ⟨hb', hb.block b (hpre.bd q b hb') id⟩⟩
  ·have hN : yy s nm ar = (((s.ys.length : Nat) : Int), ({ s with ys := s.ys ++ [⟨nm, ar⟩] } : So)) := by unfold yy; rw [if_neg (by omega)]
   rw [hN]
   have hg2 : w2.heap[gv]? = some (.cells #[v0, .slice A1 l1 c1, v2, v3, .int .i64 s.ser, .int .i64 s.mx] TS (0, 0)) := ((hap.stab.con 0 gv rfl hp0).trans (hb1.block gv (jd hgv) id)).trans hgv
   have hp0' : p' 0 = some gv := hap.stab.loc 0 gv rfl hp0
   have hg3 : (w2.setCell ⟨gv, 1, none⟩ v').heap[gv]? = some (.cells #[v0, v', v2, v3, .int .i64 s.ser, .int .i64 s.mx] TS (0, 0)) := by
    have := zf2 (i := 1) hg2 v'
    simpa using this
   have hne : ∀ {k : Nat}, k ≠ gv → (w2.setCell ⟨gv, 1, none⟩ v').heap[k]? = w2.heap[k]? := fun {k} hk => Below.heap_setCell _ _ _ _ hk
   have hsz : (w2.setCell ⟨gv, 1, none⟩ v').heap.size = w2.heap.size := by simp [World.setCell]
   have hst : Stab A (fun x => Nat.beq x 0 || Nat.beq x 2) (fun x => Nat.beq x 2) p w p' (w2.setCell ⟨gv, 1, none⟩ v') := by
    refine ⟨by rw [hsz]; exact Nat.le_trans hb1.size hap.stab.size, fun b hlt ha' hf => ?_, fun x b hl hx => hap.stab.loc x b (by show (Nat.beq x 2 || Nat.beq x 2) = false; rw [show Nat.beq x 2 = false from hl]; rfl) hx, fun x b hz hx => ?_⟩
    ·obtain ⟨q1, q2⟩ := hap.stab.free b (Nat.lt_of_lt_of_le hlt hb1.size) ha' hf
     exact ⟨((hne (fun e : b = gv => hf 0 (by rw [e]; exact hp0))).trans q1).trans (hb1.block b hlt id), q2⟩
    ·simp only [Bool.or_eq_false_iff] at hz
     have hb0 : b ≠ gv := fun e => by
      subst e
      have := hpre.inj x 0 b hx hp0
      subst this
      simp at hz
     exact ((hne hb0).trans (hap.stab.con x b (by show (Nat.beq x 2 || Nat.beq x 2) = false; rw [hz.2]; rfl) hx)).trans (hb1.block b (hpre.bd x b hx) id)
   have hst2 : Stab A (fun x => Nat.beq x 0) no p' w2 p' (w2.setCell ⟨gv, 1, none⟩ v') := by
    refine ⟨by rw [hsz]; exact Nat.le_refl _, fun b hlt ha' hf => ⟨hne (fun e : b = gv => hf 0 (by rw [e]; exact hp0')), hf⟩, fun x b _ hx => hx, fun x b hz hx => hne fun e => ?_⟩
    subst e
    have := hap.bs.inj x 0 b hx hp0'
    subst this
    simp at hz
   have hown := AppOut.own (c := cxA [] qx A p [] [] []) ze1 (la := s.ys.map eY) (lb := [eY ⟨nm, ar⟩]) hap (dep := []) (by rw [zjl, List.length_map]; simp; omega) (by rw [wSy]; rfl) (fun j hj => by
     have hj0 : j = 0 := by simpa using hj
     subst hj0
     rw [wSy]
     exact hy _ _) (fun x g hx hg j hj => by
     injection hx with hx
     subst hx
     rcases o1.kept (hst1 hb1) (fun x hx => by cases hx) ⟨rfl, rfl⟩ with ⟨-, h⟩ | ⟨g', cap, cur, -, h2, -, -, -, -, -, h5⟩
     ·rw [h] at hj
      cases hj
     ·obtain rfl := Option.some.inj (hg.symm.trans h2)
      obtain ⟨vs, q1, q2⟩ := h5 j hj
      exact ⟨vs, q1, Rd.flat 8 _ hflat q2⟩)
   have hown' := hown.kept hst2 (fun x hx => by cases hx) ⟨rfl, rfl⟩
   have hbs : Bs A w (pinned p) p' (w2.setCell ⟨gv, 1, none⟩ v') := ⟨hap.bs.inj, fun x b hx => by rw [hsz]; exact hap.bs.bd x b hx, hap.bs.but.setCell (.inl ⟨0, hp0⟩) _, hap.bs.pin, hap.bs.new, hap.bs.pa, fun x b hx => by
    by_cases e : b = gv
    ·subst e
     exact .inl ⟨_, _, hg3⟩
    ·exact (hap.bs.obj x b hx).same (hne e)⟩
   refine ⟨[.int .i64 l1], p', rfl, hbs, ⟨_, _, _, _, rfl, rfl, ⟨[.int .i64 l1], rfl, .i64, rfl, by rw [hl1], by simp [j8]; omega⟩, rfl⟩, ⟨_, _, rfl, ⟨gv, _, TS, hp0, hp0', hg3, ?_⟩, rfl⟩, fun q hq b hb' => ?_⟩
   ·refine zib (s := { s with ys := s.ys ++ [⟨nm, ar⟩] }) hC hU hW (o0.kept hst (fun x hx => by cases hx) ⟨rfl, rfl⟩) ?_ (o2.kept hst (fun x hx => by cases hx) ⟨rfl, rfl⟩) (o3.kept hst (fun x hx => by cases hx) ⟨rfl, rfl⟩) i4 i5
    show q8v _ _ _ _ _ _ _ ((s.ys ++ [(⟨nm, ar⟩ : Sy)]).map eY) _
    rw [List.map_append]
    exact hown'
   ·obtain rfl : q = 1 := by simpa [qx] using hq
    exact ⟨hst.loc 1 b rfl hb', hst.con 1 b rfl hb'⟩
theorem qkz : FOk qx qp5 :=
 ⟨qe2, fun A p w vs us ds outs hg hpre hvl hargs => (z0b A p w vs us ds outs hg hpre hvl hargs).mono fun e w' ⟨rs, p', h1, h2, h3, h4, _⟩ => .inr ⟨rs, p', h1, h2, h3, h4⟩,
  fun _ A p w vs us ds outs hg hpre hvl hargs => (z0b A p w vs us ds outs hg hpre hvl hargs).mono fun e w' h => .inr h⟩
end
def qcs (v : Int) : Nat → List Vc → Int
 | _, [] => -1
 | k, x :: l => if x.v = v then (k : Int) else qcs v (k + 1) l
theorem z6f {v : Int} {l : List Vc} {k : Nat} (h : k < l.length) : qcs v k (l.drop k) = if (l.getD k default).v = v then (k : Int) else qcs v (k + 1) (l.drop (k + 1)) := by
 rw [q4o h]
 rfl
theorem z7x {v : Int} : ∀ (k : Nat) (l : List Vc), qcs v k l = -1 ∨ ((k : Int) ≤ qcs v k l ∧ qcs v k l < k + l.length)
 | k, [] => .inl rfl
 | k, y :: l => by
  unfold qcs
  split
  ·exact .inr ⟨Int.le_refl _, by simp; omega⟩
  ·rcases z7x (v := v) (k + 1) l with h | ⟨h1, h2⟩
   ·exact .inl h
   ·exact .inr ⟨by omega, by simp; omega⟩
theorem qnk {v : Int} : ∀ (k : Nat) (l : List Vc), (qcs v k l = -1 ∧ ofV l v = none) ∨ ∃ j : Nat, j < l.length ∧ qcs v k l = ((k + j : Nat) : Int) ∧ ofV l v = some (l.getD j default).c
 | k, [] => .inl ⟨rfl, rfl⟩
 | k, y :: l => by
  unfold qcs ofV
  split
  ·exact .inr ⟨0, by simp, by simp, rfl⟩
  ·rcases qnk (v := v) (k + 1) l with h | ⟨j, h1, h2, h3⟩
   ·exact .inl h
   ·exact .inr ⟨j + 1, by simpa using h1, by rw [h2]; omega, by rw [h3]; rfl⟩
def z93 : List D → Option (List D)
 | [l, v] => some [.i (qcs v.int 0 (dVs l))]
 | _ => none
theorem z06 : FOk q1r z93 := qv8 fun ds outs hw hg => by
 obtain ⟨d, r, rfl, hd, e, r', rfl, he, rfl⟩ := hw
 obtain ⟨l, rfl, hl, hok⟩ := zai hd
 obtain ⟨v, rfl, hv⟩ := wfI he
 simp only [z93, q2q, z5, Option.some.injEq] at hg
 subst hg
 rw [q8f, zi]
 refine ⟨fun st => ∃ k : Nat, k ≤ l.length ∧ st = [.i 0, .i k] ∧ qcs v k (l.drop k) = qcs v 0 l, fun st => l.length - (st.getD 1 .u).int.toNat, ⟨0, Nat.zero_le _, rfl, rfl⟩, ?_⟩
 rintro st - ⟨k, hk, rfl, hf⟩
 simp only [q9, qd, qa, qb, qc, X.says, X.ev, X.evs, evl, qe, gnA, gnT]
 refine ⟨fun hlt => ?_, fun hlt => ?_⟩
 ·have hkn : k < l.length := by omega
  rw [z6f hkn] at hf
  simp only [q27 eV hkn, z91, qq6]
  generalize l.getD k default = z at hf
  refine ⟨⟨by omega, by omega⟩, fun he => ?_, fun he => ⟨⟨by omega, by omega⟩, ?_⟩⟩
  ·rw [if_pos (by simpa using he)] at hf
   rw [← hf]
  ·rw [if_neg (by simpa using he)] at hf
   rw [jm, if_pos rfl]
   refine ⟨⟨k + 1, hkn, by simp, hf⟩, ?_⟩
   simp [D.int]
   omega
 ·have : k = l.length := by omega
  subst this
  rw [List.drop_length] at hf
  rw [← hf]
  rfl
def qxq : List D → Option (List D)
 | [l, v, c] => if (dVs l).length < 5864062014634 then some [.r ((q6s (dVs l) v.int (dC c)).map eV)] else none
 | _ => none
theorem qro : FOk q0k qxq := qo7 fun ds outs hw hg => by
 obtain ⟨d, r, rfl, hd, e, r', rfl, he, f, r2, rfl, hf, rfl⟩ := hw
 obtain ⟨l, rfl, hl, hok⟩ := zai hd
 obtain ⟨v, rfl, hv⟩ := wfI he
 obtain ⟨c, rfl, hc⟩ := wfC hf
 simp only [qxq, q2q, z5, ym, Option.ite_none_right_eq_some, Option.some.injEq] at hg
 obtain ⟨hll, rfl⟩ := hg
 rw [q64, zi]
 refine ⟨fun st => ∃ k : Nat, k ≤ loV l v ∧ st = [.r ((l.take k).map eV), .i k], fun st => l.length - (st.getD 1 .u).int.toNat, ⟨0, Nat.zero_le _, rfl⟩, ?_⟩
 rintro st - ⟨k, hk, rfl⟩
 have hlo := z8r v l
 have hkl : k ≤ l.length := by omega
 have htl : ((l.take k).map eV).length = k := by rw [List.length_map, List.length_take]; omega
 by_cases hkn : k < l.length
 ·have e0 : decide ((k : Int) < (l.length : Int)) = true := by simp; omega
  have e1 : decide (0 ≤ (k : Int)) = true := by simp
  by_cases hv' : (l.getD k default).v < v
  ·have hk2 : k < loV l v := by
    rcases Nat.lt_or_ge k (loV l v) with h | h
    ·exact h
    ·have : k = loV l v := by omega
     have h2 := qyw (v := v) (l := l) (by omega)
     rw [← this] at h2
     omega
   have htk : (l.take k).map eV ++ [eV (l.getD k default)] = (l.take (k + 1)).map eV := by rw [q8x hkn, List.map_append]; rfl
   simp only [q9, qd, qa, qb, qc, X.says, X.ev, X.evs, evl, qe, gnA, gnT, q27 eV hkn, z91, e0, e1, htl, hv', Bool.not_true, Bool.false_or, Bool.and_self, Bool.and_true, forall_const]
   refine ⟨⟨by omega, ⟨by omega, by omega⟩, ?_⟩, fun h => (by cases h)⟩
   rw [jm, if_pos rfl, htk]
   refine ⟨⟨k + 1, hk2, by simp⟩, ?_⟩
   simp [D.int]
   omega
  ·have hk2 : k = loV l v := by
    rcases Nat.lt_or_ge k (loV l v) with h | h
    ·exact absurd (z9k h) hv'
    ·omega
   simp only [q9, qd, qa, qb, qc, X.says, X.ev, X.evs, evl, qe, gnA, gnT, q27 eV hkn, z91, e0, e1, htl, hv', Bool.not_true, Bool.false_or, Bool.and_self, Bool.and_false, forall_const]
   refine ⟨fun h => (by cases h), ⟨by omega, ⟨by omega, ?_⟩, ?_⟩⟩
   ·simp
    omega
   ·rw [qn8, ← hk2]
    simp [eV, List.map_take, List.map_drop, List.take_of_length_le]
 ·have hk1 : k = l.length := by omega
  have hk2 : k = loV l v := by omega
  have e0 : decide ((k : Int) < (l.length : Int)) = false := by simp; omega
  simp only [q9, qd, qa, qb, qc, X.says, X.ev, X.evs, evl, qe, gnA, gnT, e0, htl, Bool.not_false, Bool.true_or, Bool.false_and, forall_const]
  refine ⟨fun h => (by cases h), by omega, ⟨by omega, by omega, ?_⟩, ?_⟩
  ·simp
   omega
  ·rw [qn8, ← hk2]
   simp [eV, List.map_take, List.map_drop, List.take_of_length_le]
theorem zi8 {a : Te} (h : qu a = true) (h0 : a.k = 0) : 0 ≤ a.n ∧ a.n ≤ 1099511627776 := by
 obtain ⟨k, n, nm, l⟩ := a
 have h0 : k = 0 := h0
 subst h0
 rcases q05 ((q3z _).1 h).1 with ⟨-, -, h1, h2⟩ | ⟨h1, -⟩ | ⟨h1, -⟩ | ⟨h1, -⟩
 ·exact ⟨h1, h2⟩
 all_goals cases h1
def quv (s : So) (all : List Vc) (t : Te) : Bool := qu t && (decide (SV all) && (decide (s.cs.length + q7k t all ≤ 9000000) && decide ((q2x s.ys t).length ≤ 9000000)))
def quc : List D → Option (List D)
 | [s, t, all] => if quv (dS s) (dVs all) (dT t) then some [eC (qr (dS s, dVs all) (dT t) (-1)).1, .r ((qr (dS s, dVs all) (dT t) (-1)).2.2.map eV), eS (qr (dS s, dVs all) (dT t) (-1)).2.1] else none
 | _ => none
theorem zbc {q : Sv} {t : Te} (h : ¬ (t.k = 0 ∧ ofV q.2 t.n = none)) (a b : Int) : qr q t a = qr q t b := by
 obtain ⟨k, n, nm, l⟩ := t
 by_cases h0 : k = 0
 ·subst h0
  rw [q61, q61]
  cases ho : ofV q.2 n with
  | none => exact absurd ⟨rfl, ho⟩ h
  | some c => rfl
 ·unfold qr
  simp only [if_neg h0]
theorem zaa {q : Sv} {t : Te} (h : t.k = 0 ∧ ofV q.2 t.n = none) {a : Int} (ha : 0 ≤ a) : qr q t a = (⟨0, a⟩, q.1, q6s q.2 t.n ⟨0, a⟩) := by
 obtain ⟨k, n, nm, l⟩ := t
 obtain ⟨h0, ho⟩ := h
 have h0 : k = 0 := h0
 subst h0
 rw [q61, show ofV q.2 n = none from ho]
 show (if a < 0 then _ else _) = _
 rw [if_neg (by omega)]
 rfl
theorem zh6 (s : So) (c : Ce) : D.a ((eS s).fs.set 0 (.r (s.cs.map eC ++ [eC c]))) = eS { s with cs := s.cs ++ [c] } := qwv s [c]
def zcv (ds : List D) : Nat := szT (dT (ds.getD 1 .u))
theorem qwt : FOk jf quc := q2t (m := zcv) q9y fun N ih => qsj qkz z06 qsw qro ih fun ds outs hw hg => by
 obtain ⟨q, r3, rfl, hq, d, r, rfl, hd, f, r2, rfl, hf, rfl⟩ := hw
 obtain ⟨t, rfl, ht⟩ := wfT hd
 obtain ⟨all, rfl, hal, hok⟩ := zai hf
 obtain ⟨s, rfl, hs⟩ := wfS hq
 simp only [q15, zcv, quc, List.getD_cons_zero, List.getD_cons_succ, zb, z3, q2q, Option.ite_none_right_eq_some, Option.some.injEq] at hg
 obtain ⟨hsz, hA, rfl⟩ := hg
 simp only [quv, Bool.and_eq_true, decide_eq_true_eq] at hA
 obtain ⟨hnd, hsv, hcs, hys⟩ := hA
 have hnl := (q3z t).1 hnd
 obtain ⟨k, n, nm, l⟩ := t
 have hlen := SV.len hsv
 rcases q05 hnl.1 with ⟨rfl, rfl, h1, h2⟩ | ⟨rfl, rfl⟩ | ⟨rfl, rfl, h1⟩ | ⟨rfl, h1, h2, h3⟩
 ·rw [q61]
  rcases qnk (v := n) 0 all with ⟨e1, e2⟩ | ⟨j, hj, e1, e2⟩
  ·have hn : q7k (.mk 0 n nm []) all = 1 := by rw [q7k, qqt (by decide), if_pos ⟨rfl, e2⟩]
   rw [hn] at hcs
   simp only [q0q, q9, qd, qa, qb, qc, X.says, X.ev, X.evs, evl, qe, gnA, gnT, Te.k, Te.n, Te.s, Te.l, qgr, z93, qxq, q2q, e1, e2, ym]
   have hall : all.length < 5864062014634 := by omega
   simp [hall]
   exact ⟨by omega, zh6 s _⟩
  ·rw [Nat.zero_add] at e1
   simp only [q0q, q9, qd, qa, qb, qc, X.says, X.ev, X.evs, evl, qe, gnA, gnT, Te.k, Te.n, Te.s, Te.l, qgr, z93, qfi, q2q, e1, e2, q27 eV hj, zhj, ym]
   simp
   omega
 ·rw [q9j]
  simp [q0q, q9, qd, qa, qb, qc, X.says, X.ev, X.evs, evl, qe, gnA, gnT, Te.k, Te.n, Te.s, Te.l, qgr]
 ·rw [zby] at hys
  have hyl : s.ys.length ≤ (qax s.ys ⟨nm, 0⟩).length := qnv _ _
  have hS : qp5 [eS s, .s nm, .i 0] = some [.i (yy s nm 0).1, eS (yy s nm 0).2] := by simp only [qp5, z3, qkh, z5]; rw [if_pos (by omega)]
  rw [q9g]
  simp [q0q, q9, qd, qa, qb, qc, X.says, X.ev, X.evs, evl, qe, gnA, gnT, Te.k, Te.n, Te.s, Te.l, qgr, hS]
 ·rw [zag] at hys
  have hys0 : (qax s.ys ⟨nm, (l.length : Nat)⟩).length ≤ 9000000 := Nat.le_trans (q9l l _) hys
  have hyl : s.ys.length ≤ (qax s.ys ⟨nm, (l.length : Nat)⟩).length := qnv _ _
  obtain ⟨y1, y2, y3, y4, y5, y6⟩ := qc6 s nm (l.length : Nat)
  have hS : qp5 [eS s, .s nm, .i (l.length : Nat)] = some [.i (yy s nm (l.length : Nat)).1, eS (yy s nm (l.length : Nat)).2] := by simp only [qp5, z3, qkh, z5]; rw [if_pos (by omega)]
  rw [qwp (by decide), zg4] at hcs
  rw [q9m]
  rw [← y3] at hys
  have hcl : s.cs.length = (yy s nm (l.length : Nat)).2.cs.length := by rw [y1]
  rw [← y1]
  generalize yy s nm (l.length : Nat) = S at hS hys hcl y1 y2 ⊢
  have hz : List.replicate l.length (eC ⟨0, 0⟩) = (List.replicate l.length (⟨0, 0⟩ : Ce)).map eC := by rw [List.map_replicate]
  have hz0 : D.a [.i 0, .i 0] = eC ⟨0, 0⟩ := rfl
  have hz1 : ∀ n : Int, D.a [.i 0, .i n] = eC ⟨0, n⟩ := fun n => rfl
  have hz4 : ∀ n : Int, D.a [.i 4, .i n] = eC ⟨4, n⟩ := fun n => rfl
  simp only [q0q, q9, qd, qa, qb, qc, X.says, X.ev, X.evs, evl, qe, gnA, gnT, Te.k, Te.n, Te.s, Te.l, qgr, hS, zh6, qwv, hz, Int.toNat_natCast]
  refine ⟨fun h => absurd h (by decide), fun _ => ⟨fun h => absurd h (by decide), fun _ => ⟨fun h => absurd h (by decide), fun _ => ?_⟩⟩⟩
  refine ⟨⟨by omega, by rw [y1]⟩, ⟨by omega, by omega, by simp; omega⟩, ?_⟩
  rw [zi]
  refine ⟨fun st => ∃ (k : Nat) (al : List Vc) (s' : So), k ≤ l.length ∧ st = [.r (al.map eV), .i k, eS s'] ∧ SV al ∧ s'.cs.length + qgc (l.drop k) ≤ 9000000 ∧ S.2.cs.length + 1 + l.length ≤ s'.cs.length ∧ (q0c s'.ys (l.drop k)).length ≤ 9000000 ∧ yc (s', al) (l.drop k) (S.2.cs.length + 1 + k) = yc ({ S.2 with cs := S.2.cs ++ (⟨4, S.1⟩ :: List.replicate l.length ⟨0, 0⟩) }, all) l (S.2.cs.length + 1), fun st => l.length - (st.getD 1 .u).int.toNat, ⟨0, all, { S.2 with cs := S.2.cs ++ (⟨4, S.1⟩ :: List.replicate l.length ⟨0, 0⟩) }, Nat.zero_le _, ?_, hsv, ?_, ?_, hys, rfl⟩, ?_⟩
  ·simp only [X.evs, q9, qd, qa, qb, qc, X.says, X.ev, X.evs, evl, qe, gnA, gnT, Te.k, Te.n, Te.s, Te.l, hS, zh6, qwv, hz, Int.toNat_natCast]
   simp [eS, D.fs, D.fld, D.rs, eC]
  ·simp
   omega
  ·simp
   omega
  rintro st - ⟨k, al, s', hk, rfl, hsv', hc', hb', hy', hP⟩
  rw [qd]
  refine ⟨fun hlt => ?_, fun hlt => ?_⟩
  ·simp only [q9, qd, qa, qb, qc, X.says, X.ev, X.evs, evl, qe, gnA, gnT, Te.k, Te.n, Te.s, Te.l] at hlt
   have hkl : k < l.length := by omega
   have ha := q6y (t := .mk 3 n nm l) hkl
   simp only [Te.l] at ha
   have hto : ((S.2.cs.length : Int) + 1 + (k : Int)) = ((S.2.cs.length + 1 + k : Nat) : Int) := by omega
   have hdr := q4o hkl
   rw [hdr, qgc] at hc'
   rw [hdr, q0c] at hy'
   rw [hdr, yc] at hP
   have hsy := Nat.le_trans (q9l (l.drop (k + 1)) (q2x s'.ys (l.getD k default))) hy'
   have hnk := hnl.2 k hkl
   simp only [Te.l] at hnk
   have hlal := SV.len hsv'
   simp only [q9, qd, qa, qb, qc, X.says, X.ev, X.evs, evl, qe, gnA, gnT, q27 eT hkl, z93, q2q, hcl, hto, qgr]
   rw [show (Te.mk 3 n nm l).l = l from rfl, q27 eT hkl]
   generalize l.getD k default = a at ha hc' hy' hP hsy hnk ⊢
   obtain ⟨ak, an, anm, als⟩ := a
   simp only [q9, qd, qa, qb, qc, X.says, X.ev, X.evs, evl, qe, gnA, gnT, Te.k, Te.n, Te.s, Te.l]
   by_cases hva : ak = 0 ∧ ofV al an = none
   ·have hq := zaa (q := (s', al)) (t := .mk ak an anm als) hva (a := ((S.2.cs.length + 1 + k : Nat) : Int)) (by omega)
    rw [hq] at hP
    have hi : qcs an 0 al = -1 := by
     rcases qnk (v := an) 0 al with ⟨e1, -⟩ | ⟨j, -, -, e2⟩
     ·exact e1
     ·rw [hva.2] at e2
      cases e2
    have hall : al.length < 5864062014634 := by omega
    have hpr := zi8 hnk hva.1
    have h2 := (q1y (.mk ak an anm als) (s', al) ((S.2.cs.length + 1 + k : Nat) : Int) hnk hsv').2.1
    rw [hq] at h2
    rw [← h2] at hy'
    simp only [hva.1, hi, qxq, q2q, ym, z5, hall, if_true, zcp]
    refine ⟨⟨⟨by omega, by omega⟩, by omega, by omega⟩, ⟨by omega, by omega⟩, fun _ => ⟨rfl, ⟨by omega, by omega⟩, ⟨by omega, by omega⟩, ?_⟩, fun h => (by simp at h)⟩
    rw [jm, if_pos rfl]
    refine ⟨⟨k + 1, q6s al an ⟨0, ((S.2.cs.length + 1 + k : Nat) : Int)⟩, q90 s' (S.2.cs.length + 1 + k) ⟨0, ((S.2.cs.length + 1 + k : Nat) : Int)⟩, by omega, by rw [Int.toNat_natCast]; simp, qva hpr.1 hpr.2 hsv' hva.2, ?_, ?_, hy', hP⟩, ?_⟩
    ·rw [q39]
     omega
    ·rw [q39]
     omega
    ·simp [D.int]
     omega
   ·have hcond : (decide (ak = 0) && decide (qcs an 0 al < 0)) = false := by
     by_cases h0 : ak = 0
     ·rcases qnk (v := an) 0 al with ⟨-, e1⟩ | ⟨j, -, e2, -⟩
      ·exact absurd ⟨h0, e1⟩ hva
      ·have : ¬ qcs an 0 al < 0 := by omega
       simp [this]
     ·simp [h0]
    have hned : q7k (.mk ak an anm als) al = qio (.mk ak an anm als) := by
     unfold q7k
     rw [if_neg (show ¬ ((Te.mk ak an anm als).k = 0 ∧ ofV al (Te.mk ak an anm als).n = none) from hva)]
     rfl
    have hQ : quv s' al (.mk ak an anm als) = true := by
     simp only [quv, Bool.and_eq_true, decide_eq_true_eq, hned]
     exact ⟨hnk, hsv', by omega, hsy⟩
    have hG : q15 zcv N quc [eS s', eT (.mk ak an anm als), .r (al.map eV)] = some [eC (qr (s', al) (.mk ak an anm als) (-1)).1, .r ((qr (s', al) (.mk ak an anm als) (-1)).2.2.map eV), eS (qr (s', al) (.mk ak an anm als) (-1)).2.1] := by
     simp only [q15, zcv, quc, List.getD_cons_zero, List.getD_cons_succ, zb, z3, q2q]
     rw [if_pos (by omega), if_pos hQ]
    rw [zbc (q := (s', al)) (t := .mk ak an anm als) hva _ (-1)] at hP
    obtain ⟨g1, g2, g3, g4⟩ := q1y (.mk ak an anm als) (s', al) (-1) hnk hsv'
    rw [if_pos (by decide), hned] at g1
    simp only [hcond, hG]
    generalize qr (s', al) (.mk ak an anm als) (-1) = R at g1 g2 g3 g4 hP ⊢
    simp only at g1
    simp only [q9, qd, qa, qb, qc, X.says, X.ev, X.evs, evl, qe, gnA, gnT, zcp, Int.toNat_natCast]
    refine ⟨⟨⟨by omega, by omega⟩, by omega, by omega⟩, ⟨by omega, by omega⟩, fun h => (by cases h), fun _ => ⟨⟨by omega, by omega⟩, ⟨by omega, by omega⟩, ?_⟩⟩
    rw [jm, if_pos rfl]
    refine ⟨⟨k + 1, R.2.2, q90 R.2.1 (S.2.cs.length + 1 + k) R.1, by omega, by simp, g4, ?_, ?_, ?_, hP⟩, ?_⟩
    ·rw [q39, g1]
     omega
    ·rw [q39, g1]
     omega
    ·show (q0c R.2.1.ys _).length ≤ _
     rw [g2]
     exact hy'
    ·simp [D.int]
     omega
  ·simp only [q9, qd, qa, qb, qc, X.says, X.ev, X.evs, evl, qe, gnA, gnT, Te.k, Te.n, Te.s, Te.l] at hlt
   have : k = l.length := by omega
   subst this
   rw [List.drop_length, yc] at hP
   simp only [q9, qd, qa, qb, qc, X.says, X.ev, X.evs, evl, qe, gnA, gnT, Te.k, Te.n, Te.s, Te.l, hcl, ← hP, qgr]
def qly (s : So) (l : List Vc) (k : Nat) : Bool := decide (0 ≤ (l.getD k default).v) && (decide ((l.getD k default).v ≤ 1099511627776) && (decide (k = 0 ∨ (l.getD (k - 1) default).v < (l.getD k default).v) && vcR s (l.getD k default).c))
def vvR (s : So) (l : List Vc) : Bool := (List.range l.length).all (qly s l)
theorem zji {s : So} (h : qs s = true) (l : List Vc) : vvR s l = vvP s l := by
 have : qly s l = vAt s l := by
  funext k
  simp only [qly, vAt, (q3u h).vc]
 unfold vvR vvP
 rw [this]
theorem qe8 : FOk yd (gVV vvR) := qd9 qf5 fun ds outs hw hg => by
  obtain ⟨d, r, rfl, hd, e, r', rfl, he, rfl⟩ := hw
  obtain ⟨s, rfl, hs⟩ := wfS hd
  obtain ⟨l, rfl, hl, hok⟩ := zai he
  simp only [gVV, z3, q2q, Option.some.injEq] at hg
  subst hg
  rw [q2j, zi]
  refine ⟨fun st => ∃ k : Nat, k ≤ l.length ∧ st = [.b false, .i k] ∧ ∀ j, j < k → qly s l j = true, fun st => l.length - (st.getD 1 .u).int.toNat, ⟨0, Nat.zero_le _, rfl, fun j hj => absurd hj (Nat.not_lt_zero _)⟩, ?_⟩
  rintro st - ⟨k, hk, rfl, hP⟩
  rw [qd]
  refine ⟨fun hlt => ?_, fun hlt => ?_⟩
  · simp only [q9, qd, qa, qb, qc, X.says, X.ev, X.evs, evl, qe, gnA, gnT] at hlt
    have hkl : k < l.length := by omega
    have hvb := (hok _ (q19 hkl)).1
    by_cases h0 : k = 0
    · subst h0
      have e1 : decide ((0 : Int) < ((0 : Nat) : Int)) = false := by decide
      simp only [q9, qd, qa, qb, qc, X.says, X.ev, X.evs, evl, qe, gnA, gnT, q27 eV hkl, z91, zhj, qg8, e1, Bool.and_false, Bool.false_and, Bool.not_false, Bool.true_or, Bool.or_false, true_and, and_self]
      refine ⟨(by first | (simp; done) | (simp; omega) | (trace_state; omega)), fun hb => ?_, fun hb => ⟨⟨by omega, by omega⟩, ?_⟩⟩
      · have hv : qly s l 0 = false := by
          simp only [qly, true_or, decide_true, Bool.true_and]
          generalize l.getD 0 default = z at hb ⊢
          cases hvc : vcR s z.c
          · simp
          · simp [hvc] at hb ⊢
            omega
        rw [vvR, z3p hkl hv]
      · have hv : qly s l 0 = true := by
          simp only [qly, true_or, decide_true, Bool.true_and]
          generalize l.getD 0 default = z at hb ⊢
          cases hvc : vcR s z.c
          · simp [hvc] at hb
          · simp [hvc] at hb ⊢
            omega
        rw [jm, if_pos rfl]
        exact ⟨⟨1, by omega, by simp, q4q hP hv⟩, by simp [D.int]; omega⟩
    · have hk1 : ((k : Int) - 1) = ((k - 1 : Nat) : Int) := by omega
      have hkp : k - 1 < l.length := by omega
      have hp : (0 : Int) < k := by omega
      have hr1 : j8 .i64 ((k - 1 : Nat) : Int) = true := by simp [j8]; omega
      have hr2 : (0 : Int) ≤ ((k - 1 : Nat) : Int) := by omega
      have hr3 : ((k - 1 : Nat) : Int) < l.length := by omega
      simp only [q9, qd, qa, qb, qc, X.says, X.ev, X.evs, evl, qe, gnA, gnT, hk1, hp, hr1, hr2, hr3, q27 eV hkl, q27 eV hkp, z91, zhj, qg8, Bool.and_true, Bool.true_and]
      refine ⟨(by first | (simp; done) | (simp; omega) | (trace_state; omega)), fun hb => ?_, fun hb => ⟨⟨by omega, by omega⟩, ?_⟩⟩
      · have hv : qly s l k = false := by
          simp only [qly, h0, false_or]
          generalize l.getD k default = z at hb ⊢
          cases hvc : vcR s z.c
          · simp
          · simp [hvc] at hb ⊢
            omega
        rw [vvR, z3p hkl hv]
      · have hv : qly s l k = true := by
          simp only [qly, h0, false_or]
          generalize l.getD k default = z at hb ⊢
          cases hvc : vcR s z.c
          · simp [hvc] at hb
          · simp [hvc] at hb ⊢
            omega
        rw [jm, if_pos rfl]
        exact ⟨⟨k + 1, by omega, by simp, q4q hP hv⟩, by simp [D.int]; omega⟩
  · simp only [q9, qd, qa, qb, qc, X.says, X.ev, X.evs, evl, qe, gnA, gnT] at hlt ⊢
    have : k = l.length := by omega
    subst this
    simp only [vvR, q8b hP]
theorem qws : FOk q1f z6k := qsh q0s qe8 qq7 qwt fun ds outs hw hg => by
 obtain ⟨d, r, rfl, hd, e, r', rfl, he, f, r2, rfl, hf, rfl⟩ := hw
 obtain ⟨s, rfl, hs⟩ := wfS hd
 obtain ⟨t, rfl, ht⟩ := wfT he
 obtain ⟨l, rfl, hl, hok⟩ := zai hf
 simp only [z6k, z3, zb, q2q, Option.ite_none_right_eq_some, Option.some.injEq] at hg
 obtain ⟨hv, rfl⟩ := hg
 obtain ⟨h1, h2, h3, h4⟩ := z4q hv
 have hz : D.a [.i 0, .i 0] = eC ⟨0, 0⟩ := rfl
 have hc : qxf [eS s] = some [eS s] := by simp only [qxf, z3, zig hs, if_true]
 have hR : ∀ (a : Bool), a = (decide ((1048576 : Int) < (((qr (s, l) t (-1)).2.1.ys.length : Nat) : Int)) || decide (s.mx < (((qr (s, l) t (-1)).2.1.cs.length : Nat) : Int))) → qi t = true → vvP s l = true → a = !qb2 s t l := fun a ha hvt hvl => by
  simp only [qi, Bool.and_eq_true, decide_eq_true_eq] at hvt
  obtain ⟨g1, g2, g3, g4⟩ := q1y t (s, l) (-1) hvt.2 (qcd.1 hvl).1
  rw [if_pos (by decide)] at g1
  simp only at g1 g2
  rw [ha, g1, g2]
  have hm := congrArg List.length (qoe t s.ys [])
  rw [List.append_nil, List.length_append] at hm
  unfold qb2
  rw [← hm]
  by_cases q1 : ((q7k t l : Nat) : Int) ≤ s.mx - s.cs.length <;> by_cases q2 : ((qyj s.ys [] t).length : Int) ≤ 1048576 - s.ys.length
  all_goals simp [q1, q2]
  all_goals omega
 have hQ : qi t = true → vvP s l = true → quv s l t = true := fun hvt hvl => by
  simp only [qi, Bool.and_eq_true, decide_eq_true_eq] at hvt
  simp only [quv, Bool.and_eq_true, decide_eq_true_eq]
  have hm := congrArg List.length (qoe t s.ys [])
  rw [List.append_nil, List.length_append] at hm
  have hv := qgg t s.ys []
  have hc := qh7 t
  have hn : q7k t l ≤ qio t + 1 := by unfold q7k; split <;> omega
  simp at hv
  exact ⟨hvt.2, (qcd.1 hvl).1, by omega, by omega⟩
 simp only [q7q, q9, qd, qa, qb, qc, X.says, X.ev, X.evs, evl, qe, gnA, gnT, gTb, gVV, hz, q2q, z36, zji hv, hc, Int.toNat_natCast, List.drop_zero]
 cases hvt : qi t
 ·simp
 cases hvl : vvP s l
 ·simp
 have hq := hQ hvt hvl
 have hr := hR _ rfl hvt hvl
 have hmx : (qr (s, l) t (-1)).2.1.mx = s.mx := by
  simp only [qi, Bool.and_eq_true, decide_eq_true_eq] at hvt
  exact (q1y t (s, l) (-1) hvt.2 (qcd.1 hvl).1).2.2.1.1
 have hg : quc [eS s, eT t, .r (l.map eV)] = some [eC (qr (s, l) t (-1)).1, .r ((qr (s, l) t (-1)).2.2.map eV), eS (qr (s, l) t (-1)).2.1] := by
  simp only [quc, z3, zb, q2q, hq, if_true]
 simp only [hg]
 generalize qr (s, l) t (-1) = R at hr hmx
 simp only [q9, qd, qa, qb, qc, X.says, X.ev, X.evs, evl, qe, gnA, gnT, hmx]
 rw [hr]
 cases qb2 s t l
 ·simp
  omega
 ·simp
  omega
section
open Go.ChangeShapes Go.WideShapes Go.ChangeAt Go.RowKit
theorem z64 : ownKnob Try.prog.godebug = none := by kernel_rfl
theorem qtz : laidOutB Try.prog = true := by kernel_rfl
section
variable {H : Type} {enc : TypeId × Value → H} {W : World} {base : Nat} {spare : Nat → Bool} {held : Bool}
def qbu (t : TypeId) (d : DataW H) : Prop := ∀ n ∈ d.weights Try.prog t, n ≤ reachBytes
theorem q9z {e : TypeId} : ∀ {l : List (DataW H)} {d : DataW H}, d ∈ l → ∀ n ∈ d.weights Try.prog e, n ∈ DataW.weightsAll Try.prog e l
 | [], _, h, _, _ => by cases h
 | x :: l, d, h, n, hn => by
  simp only [DataW.weightsAll, List.mem_append]
  rcases List.mem_cons.1 h with rfl | h
  ·exact .inl hn
  ·exact .inr (q9z h n hn)
theorem qbu.each {ts : List TypeId} {l : List (DataW H)} {k : Nat} {t : TypeId} {d : DataW H} (h : ∀ n ∈ DataW.weightsEach Try.prog ts l, n ≤ reachBytes) (ht : ts[k]? = some t) (hd : l[k]? = some d) : qbu t d := fun n hn =>
 h n (DataW.weights_mem_each ht hd n hn)
theorem qtu : reachBytes = LIM := rfl
theorem qvp {T : TypeId} {t : Ty} (h : qk T = some t) : Try.prog.cellsOf T = t.w := by
 obtain ⟨i, hi, h1, -⟩ := q2e h
 simp [Program.cellsOf, hi, h1]
theorem zhg {k : IntKind} {t : TypeId} (ht : qk t = some (.int k)) {n : Int} (h : (Lit.int k n).wf = true) : j8 k n = true := by
 have h0 := (q2r ht).2.1
 cases k <;> first | (simp [j8] at h0; done) | (simp [Lit.wf, IntKind.min, IntKind.max, IntKind.signed, IntKind.bits] at h; simp [j8]; omega)
theorem z1x {a : Addr} {v : Value} (h : W.cell? a = some v) : a.spot = none := by
 unfold World.cell? at h
 split at h
 ·split at h
  ·cases h
  ·rename_i hs; simpa using hs
 ·cases h
theorem z9x {F : Nat → Prop} {cs : List Value} : ∀ {fl : List Field} {fs : List Ty} {o : Nat}, q24 fl fs o = true → (∀ (j : Nat) (f : Field) (t : Ty), fl[j]? = some f → fs[j]? = some t → ∃ y, Rd W F y t ((cs.drop f.offset).take t.w)) → cs.length = o + widths fs → ∃ ds, RdF W F ds fs (cs.drop o)
 | [], [], o, _, _, hl => by
  simp [widths] at hl
  exact ⟨[], rfl, by rw [List.drop_eq_nil_iff]; omega⟩
 | f :: l, t :: ts, o, hb, hf, hl => by
  simp only [q24, Bool.and_eq_true] at hb
  obtain ⟨⟨⟨h1, -⟩, -⟩, h3⟩ := hb
  have ho := Nat.eq_of_beq_eq_true h1
  rw [q5k] at hl
  obtain ⟨ds, hds⟩ := z9x h3 (fun j f' t' hj ht => hf (j + 1) f' t' (by simpa using hj) (by simpa using ht)) (by omega)
  obtain ⟨y, hy⟩ := hf 0 f t rfl rfl
  refine ⟨y :: ds, t, ts, (cs.drop o).take t.w, cs.drop (o + t.w), rfl, ?_, by rw [← ho]; exact hy, hds⟩
  rw [← List.drop_drop, List.take_append_drop]
 | [], _ :: _, o, hb, _, _ => by cases hb
 | _ :: _, [], o, hb, _, _ => by cases hb
theorem z6d : ∀ (fuel : Nat) {T : TypeId} {t : Ty} (cs : List Value) (x : DataW H × List MemPlace), qk T = some t → q93 t = false → DataW.trod enc Try.prog W base spare held fuel T cs = some x → qbu T x.1 → ∃ y, Rd W (fun _ => True) y t cs := by
 intro fuel
 induction fuel with
 | zero => intro T t cs x _ _ h; simp [DataW.trod] at h
 | succ fuel ih =>
  intro T t cs x hT hM h hL
  cases t with
  | map K V => cases hM
  | int k =>
   obtain ⟨n, rfl, -, hw⟩ := DataW.trod_int (q2r hT).1 h
   exact ⟨.i n, k, rfl, rfl, zhg hT hw⟩
  | bool =>
   obtain ⟨b, rfl, -⟩ := DataW.trod_bool (q3d hT).1 h
   exact ⟨.b b, rfl, rfl⟩
  | str =>
   obtain ⟨s, rfl, rfl, -⟩ := DataW.trod_string (q2u hT).1 h
   have := hL s.data.toList.length (by simp [DataW.weights])
   exact ⟨.s s, rfl, rfl, by rw [qtu] at this; simpa using this⟩
  | st S =>
   obtain ⟨fields, fs, zc, i, hu, hfs, hfb, hi, hsz, -, -, -, -⟩ := q3p hT
   obtain ⟨xs, n, hn, hx, hlen, hxl, hf⟩ := DataW.trod_struct hu h
   obtain rfl : fuel = n := by omega
   have hw : ∀ n ∈ DataW.weightsEach Try.prog (fields.toList.map (·.type)) (xs.map (·.1)), n ≤ reachBytes := fun n hn => hL n (by rw [hx]; simp only [DataW.weights, hu]; exact hn)
   have hcl : cs.length = 0 + widths fs := by rw [hlen, qvp hT, (qng hfs).1]; omega
   obtain ⟨ds, hds⟩ := z9x (W := W) (F := fun _ => True) hfb (fun j f t hj ht => by
    obtain ⟨f', hf', ho, hty, -⟩ := q5p hfb ht
    obtain rfl := Option.some.inj (hj.symm.trans hf')
    have h5 := hf j f (by rw [← Array.getElem?_toList]; exact hj)
    have hjl : j < fields.toList.length := (List.getElem?_eq_some_iff.1 hj).1
    have hjx : j < xs.length := by rw [hxl]; simpa using hjl
    rw [qvp hty, List.getElem?_eq_getElem hjx] at h5
    refine ih _ _ hty (zek hfs (List.mem_of_getElem? ht)) h5 (qbu.each (k := j) hw ?_ ?_)
    ·rw [List.getElem?_map, hj]; rfl
    ·rw [List.getElem?_map, List.getElem?_eq_getElem hjx]; rfl) hcl
   exact ⟨.a ds, S, fs, rfl, hfs, by simpa using hds⟩
  | row E =>
   obtain ⟨hu, ⟨te, hte⟩, -⟩ := q0b hT
   rcases DataW.trod_slice hu h with ⟨rfl, hx⟩ | ⟨a, len, cap, elems, rest, n, hn, rfl, hx, hb, hl, hm, hlen, hel, -⟩
   ·exact ⟨.r [], E, te, none, 0, rfl, hte, rfl, by simp, by simp, by simp [maxLen], by simp [RdE]⟩
   ·obtain rfl : fuel = n := by omega
    have hwd := q5e hte
    rw [qvp hte] at hel
    have hw := hL
    rw [hx] at hw
    simp only [qbu, DataW.weights, hu, List.mem_cons, List.mem_append] at hw
    have hlen2 : len ≤ LM te := by
     have := hw _ (.inl rfl)
     rw [qtu] at this
     have hbe : Try.prog.bytesOf E = te.by := by
      obtain ⟨i, hi, -⟩ := q2e hte
      simp [Program.bytesOf, hi, qk5 hte hi]
     refine (Nat.le_div_iff_mul_le (zbx hte).1).2 ?_
     simp [hbe] at this
     have h2 : len * te.by ≤ (elems.length + rest.length) * te.by := Nat.mul_le_mul_right _ (by omega)
     exact Nat.le_trans h2 this
    have spot : 0 < len → a.spot = none := fun h0 => by
     have h2 := hel 0 h0
     rw [List.getElem?_eq_getElem (by omega)] at h2
     cases hc0 : W.cells? base (a.add (0 * te.w)) te.w with
     | none => rw [hc0] at h2; cases h2
     | some cs0 =>
      obtain ⟨_, hcl0, hat0⟩ := World.cells?_some hc0
      have hp : 0 < cs0.length := by omega
      have := hat0 0 (by omega)
      rw [List.getElem?_eq_getElem hp] at this
      exact z1x (a := a) (v := cs0[0]) (by simpa [Addr.add] using this)
    have each : ∀ i, i < len → ∃ y, zh9 W (fun _ => True) y te (some a) i := fun i hi => by
     have h1 := hel i hi
     rw [List.getElem?_eq_getElem (by omega)] at h1
     cases hc : W.cells? base (a.add (i * te.w)) te.w with
     | none => rw [hc] at h1; cases h1
     | some cs' =>
      rw [hc] at h1
      obtain ⟨_, hcl, hat⟩ := World.cells?_some hc
      obtain ⟨y, hy⟩ := ih cs' _ hte (zdf hT hte) h1 (fun n hn => hw n (.inr (.inl (q9z (List.mem_map.2 ⟨_, List.getElem_mem (by omega), rfl⟩) n hn))))
      have hsp := spot (by omega)
      obtain ⟨b, o, sp⟩ := a
      obtain rfl : sp = none := hsp
      have add : ∀ k, (Addr.add ⟨b, o, none⟩ (i * te.w)).add k = ⟨b, o + i * te.w + k, none⟩ := fun k => by
       unfold Addr.add
       split <;> split <;> simp <;> omega
      refine ⟨y, b, o, cs', rfl, trivial, fun j v hj => ?_, hy⟩
      have hj' := (List.getElem?_eq_some_iff.1 hj).1
      have := hat j (by omega)
      rw [add, hj] at this
      exact this
    have pick : ∀ n, n ≤ len → ∃ l : List D, l.length = n ∧ ∀ i (h : i < l.length), zh9 W (fun _ => True) l[i] te (some a) i := by
     intro n
     induction n with
     | zero => exact fun _ => ⟨[], rfl, fun i hi => by simp at hi⟩
     | succ n ihn =>
      intro hn
      obtain ⟨l, hl1, hl2⟩ := ihn (by omega)
      obtain ⟨t, ht⟩ := each n (by omega)
      refine ⟨l ++ [t], by simp [hl1], fun i hi => ?_⟩
      by_cases hin : i < l.length
      ·rw [List.getElem_append_left hin]; exact hl2 i hin
      ·obtain rfl : i = l.length := by simp at hi; omega
       rw [List.getElem_append_right (by omega)]
       simp [hl1]
       exact ht
    obtain ⟨l, hl1, hl2⟩ := pick len (Nat.le_refl _)
    exact ⟨.r l, E, te, some a, cap, rfl, hte, by rw [hl1], by omega, by omega, hm, q14.2 fun j hj => by rw [Nat.zero_add]; exact hl2 j hj⟩
theorem z9j {T : TypeId} {t : Ty} (hT : qk T = some t) (hM : q93 t = false) {v : Value} {d : DataW H} {p : List MemPlace} {b0 : Nat} {r : Reach} (hv : Value.okWide Try.prog W r b0 T v) (h : DataW.Trod enc Try.prog W base spare held T v d p) (hL : qbu T d) :
  ∃ x cs, zx t cs v ∧ Rd W (fun b => b < W.heap.size) x t cs := by
 obtain ⟨fuel, hf⟩ := h
 obtain ⟨y, hy⟩ := z6d fuel _ _ hT hM hf hL
 refine ⟨y, v.cells.toList, ?_, Rd.keeps (fun b o _ ho => ⟨ho, jd ho⟩) _ hy⟩
 cases t with
 | int k => obtain ⟨n, rfl⟩ := okWide_int (q2r hT).1 hv; rfl
 | bool => obtain ⟨n, rfl⟩ := okWide_bool (q3d hT).1 hv; rfl
 | str => obtain ⟨n, rfl⟩ := okWide_string (q2u hT).1 hv; rfl
 | map K V => cases hM
 | row E => obtain ⟨A, l, c, rfl⟩ := okWide_slice (q0b hT).1 hv; rfl
 | st S =>
  obtain ⟨fields, fs, zc, i, hu, -⟩ := q3p hT
  obtain ⟨cs, rfl, -⟩ := okWide_struct hu hv
  simp [zx, Value.cells]
end
def quj (W : World) : List Ar → List Value → List D → Prop
 | [], vs, ds => vs = [] ∧ ds = []
 | .val t :: l, vs, ds => ∃ v r d ds', vs = v :: r ∧ ds = d :: ds' ∧ (∃ cs, zx t cs v ∧ Rd W (FFD (fun _ => True) (fun _ => none) []) d t cs) ∧ quj W l r ds'
 | _ :: _, _, _ => False
theorem quj.ok {W : World} {V : List Value} : ∀ {i : Nat} {ar : List Ar} {vs : List Value} {ds : List D}, quj W ar vs ds → zk V (fun _ => True) (fun _ => none) W (idx i ar) vs ds ∧ vs.length = ar.length
 | _, [], vs, ds, h => ⟨h, by rw [h.1]; rfl⟩
 | i, .val t :: l, vs, ds, ⟨v, r, d, ds', e1, e2, h1, h⟩ => by
  obtain ⟨h2, h3⟩ := quj.ok (V := V) (i := i + 1) h
  exact ⟨⟨v, r, d, ds', e1, e2, h1, h2⟩, by rw [e1]; simp [h3]⟩
 | _, .ref _ _ :: _, _, _, h => h.elim
 | _, .rref _ :: _, _, _, h => h.elim
 | _, .own _ :: _, _, _, h => h.elim
 | _, .mref _ :: _, _, _, h => h.elim
 | _, .nils :: _, _, _, h => h.elim
 | _, .nilp :: _, _, _, h => h.elim
 | _, .fn _ _ :: _, _, _, h => h.elim
 | _, .cell _ _ :: _, _, _, h => h.elim
theorem z6x {ct : Ct} {g : List D → Option (List D)} (h : FOk ct g) (hrs : ct.rs = [(.bool, false)]) (hvr : ct.vr = []) {W : World} {vs : List Value} {ds : List D} (ha : quj W ct.ar vs ds) (hg : g ds = some [.b true]) :
  Calls Try.prog ct.f vs.toArray W fun e W' => e = .returned (.bool true) ∧ But Nil W W' := by
 obtain ⟨h1, h2⟩ := quj.ok (V := vs ++ []) (i := 0) ha
 refine (h.call (fun _ => True) (fun _ => none) W vs [] ds _ hg (by constructor <;> simp) h2 (by simpa [Ct.all, hvr, idx] using h1)).mono ?_
 rintro e W' (⟨T, -, ho, -⟩ | ⟨rs, p', rfl, hb, hr, -⟩)
 ·cases ho
 rw [hrs] at hr
 obtain ⟨v, r, d, ds', rfl, hd, ⟨cs, hp, hc⟩, rfl⟩ := hr
 simp at hd
 obtain ⟨rfl, rfl⟩ := hd
 obtain ⟨e1, e2⟩ : D.b true = .b true ∧ cs = [.bool true] := ⟨rfl, by
  have hc' : Rd W' (FFD (fun _ => True) p' []) (.b true) .bool cs := hc
  exact hc'.2⟩
 subst e2
 have hpv : [Value.bool true] = [v] := hp
 injection hpv with hpv
 subst hpv
 exact ⟨rfl, hb.but.mono fun i hi _ => by obtain ⟨x, hx⟩ := hi; cases hx⟩
end
section
open Go.ChangeShapes Go.WideShapes Go.ChangeAt Go.RowKit
section
variable {H : Type} {enc : TypeId × Value → H} {W : World} {base : Nat} {spare : Nat → Bool} {held : Bool}
end
end
def qhe : List D → Option (List D) := fun _ => some [.b true]
theorem qgj : FOk yz (z83 [] 4 q4g) := qrn fun ds outs hw hg => qne hg
theorem qy3 : FOk q1b (z83 [] 4 q71) := qrs fun ds outs hw hg => qne hg
theorem qnx : FOk jw (z83 [(yz, z83 [] 4 q4g)] 4 q51) := qky qgj fun ds outs hw hg => qne hg
theorem qkb : FOk j6 qhe := qhb qnx qy3 qao qso qgj fun ds outs hw hg => by
 obtain rfl : ds = [] := hw
 simp only [qhe, Option.some.injEq] at hg
 subst hg
 exact qne (fuel := 12) (by kernel_rfl)
mutual
theorem z4n {S S' : So} {f f' : Int → Ce} {V : List Int} (E : Ext S S') (hf : ∀ v ∈ V, f' v = f v) : ∀ (t : Te) (c : Ce), inV V t → Rh S f t c → Rh S' f' t c
 | .mk k n nm l, c, hi, h => by
  rw [qxt] at hi
  rw [Rh] at h ⊢
  rcases h with ⟨rfl, rfl⟩ | ⟨rfl, rfl⟩ | ⟨rfl, ht, y, hy, hs⟩ | ⟨rfl, ht, p, y, hp, hc, hs, hl⟩
  ·exact .inl ⟨rfl, (hf n (hi.1 rfl)).symm⟩
  ·exact .inr (.inl ⟨rfl, rfl⟩)
  ·exact .inr (.inr (.inl ⟨rfl, ht, y, hy, E.ys _ _ hs⟩))
  ·exact .inr (.inr (.inr ⟨rfl, ht, p, y, hp, by rw [E.cs p (List.getElem?_eq_some_iff.1 hc).1]; exact hc, E.ys _ _ hs, qzw E hf l (p + 1) hi.2 hl⟩))
theorem qzw {S S' : So} {f f' : Int → Ce} {V : List Int} (E : Ext S S') (hf : ∀ v ∈ V, f' v = f v) : ∀ (l : List Te) (p : Nat), qfu V l → Rhs S f l p → Rhs S' f' l p
 | [], p, _, _ => by rw [Rhs]; trivial
 | t :: l, p, hi, h => by
  rw [qfu] at hi
  rw [Rhs] at h ⊢
  obtain ⟨⟨c, hc, hr⟩, hl⟩ := h
  exact ⟨⟨c, by rw [E.cs p (List.getElem?_eq_some_iff.1 hc).1]; exact hc, z4n E hf t c hi.1 hr⟩, qzw E hf l (p + 1) hi.2 hl⟩
end
def mxS : So := zid 1048576
theorem z5z {s : So} {t : Te} {l : List Vc} (ht : qi t = true) (hm : s.mx = 1048576) (hc : s.cs.length ≤ 5000) (hy : s.ys.length ≤ 5000) : qb2 s t l = true := by
 have h1 := qh7 t
 have h2 := qgg t s.ys []
 have h3 := (yt.1 ht).1
 have h4 : q7k t l ≤ 4001 := by
  unfold q7k
  split <;> omega
 simp only [qb2, Bool.and_eq_true, decide_eq_true_eq, List.length_nil] at h2 ⊢
 omega
theorem qrb : FOk q06 zim := qbf qkb qoz qxk qws qao qv9 qie qry qhn fun ds outs hw hg => by
 obtain ⟨d, r, rfl, hd, e, r', rfl, he, rfl⟩ := hw
 obtain ⟨a, rfl, ha⟩ := wfT hd
 obtain ⟨b, rfl, hb⟩ := wfT he
 simp only [zim, Option.some.injEq] at hg
 subst hg
 have hU : z61 [.r [], eT a, eT b] = some [.r ((qo6 a b).1.map eB), .i (qo6 a b).2] := by
  have e : dBs (.r []) = [] := rfl
  simp only [z61, zb, e, if_true]
 rw [q22]
 by_cases hval : ¬ (qi a = true ∧ qi b = true)
 ·have hu : qo6 a b = ([], 1) := by
   unfold qo6
   rw [if_neg (by simpa using hval)]
  rw [hu] at hU
  simp [q9, qd, qa, qb, qc, X.says, X.ev, X.evs, evl, qe, gnA, gnT, qhe, hU]
 obtain ⟨hva, hvb⟩ := Decidable.not_not.1 hval
 have hPr := z9g z2p (l := []) (n := 0) (by simp) (by decide) hva hvb
 have hu : qo6 a b = if (prA [] 0 a b).1 = 0 then ((prA [] 0 a b).2.1, 0) else ([], (prA [] 0 a b).1) := by
  unfold qo6 qrr
  simp only [hva, hvb, Bool.and_self, if_true, List.length_nil]
  show ((if (prA [] 0 a b).1 = 0 then _ else _ : List Bg × Int × Int).1, (if (prA [] 0 a b).1 = 0 then _ else _ : List Bg × Int × Int).2.2) = _
  split <;> rfl
 generalize prA [] 0 a b = r at hPr hu
 -- the terms on the heap
 have hm0 : zgq [.i 1048576] = some [eS mxS, .i 0] := by
  have : qxz 1048576 = false := by decide
  simp only [zgq, z5, this]
  rfl
 have hs0 : qs mxS = true := zgz (by decide) (by decide)
 have hr1 : qb2 mxS a [] = true := z5z hva rfl (Nat.zero_le _) (Nat.zero_le _)
 have hvv : vvP mxS [] = true := rfl
 have hdv : dVs (.r []) = [] := rfl
 have P := z85 hs0 hva hvv hr1
 have hNa := (qw2 a (mxS, []) (-1) (yt.1 hva).2 fun c hc => by cases hc).1
 have hLa := q1y a (mxS, []) (-1) (yt.1 hva).2 SV.nil
 have hput : z6k [eS mxS, eT a, .r []] = some [eC (qr (mxS, []) a (-1)).1, .r ((qr (mxS, []) a (-1)).2.2.map eV), .i 0, eS (qr (mxS, []) a (-1)).2.1] := by
  simp only [z6k, z3, zb, hdv, if_pos hs0, z36, hva, hvv, hr1, Bool.and_self, if_true]
 generalize qr (mxS, []) a (-1) = Q at P hNa hLa hput
 obtain ⟨x, S, all⟩ := Q
 simp only at P hNa hLa hput
 obtain ⟨-, hys, -, -⟩ := hLa
 have hsz := qh7 a
 have hza := (yt.1 hva).1
 have hcs : S.cs.length ≤ 4001 := by
  rw [P.len]
  have : q7k a [] ≤ 4001 := by
   unfold q7k
   split <;> omega
  show 0 + q7k a [] ≤ _
  omega
 have hyl : S.ys.length ≤ 2000 := by
  have h1 := qoe a [] []
  have h2 := qgg a [] []
  rw [hys]
  show (q2x [] a).length ≤ 2000
  rw [List.nil_append, List.nil_append] at h1
  rw [← h1]
  simp only [List.length_nil] at h2
  omega
 have hr2 : qb2 S b all = true := z5z hvb P.rst.1 (by omega) (by omega)
 have Q := z85 P.valid hvb P.vv hr2
 have hNb := (qw2 b (S, all) (-1) (yt.1 hvb).2 hNa).1
 have hput2 : z6k [eS S, eT b, .r (all.map eV)] = some [eC (qr (S, all) b (-1)).1, .r ((qr (S, all) b (-1)).2.2.map eV), .i 0, eS (qr (S, all) b (-1)).2.1] := by
  simp only [z6k, z3, zb, q2q, if_pos P.valid, z36, hvb, P.vv, hr2, Bool.and_self, if_true]
 generalize qr (S, all) b (-1) = R at Q hNb hput2
 obtain ⟨y, S2, more⟩ := R
 simp only at Q hNb hput2
 have hV := P.vars
 simp only [List.map_nil] at hV
 obtain ⟨hW, -⟩ := Q.varsG (zm [] a) hV
 have hnew : ∀ v d, ofV more v = some d → ∃ p : Nat, d = ⟨0, p⟩ ∧ S2.cs[p]? = some d := fun v d ho => by
  rcases Q.new v d ho with h | h
  ·rcases P.new v d h with h | ⟨p, e, h⟩
   ·cases h
   ·subst e
    exact ⟨p, rfl, by rw [Q.ext.cs p (List.getElem?_eq_some_iff.1 h).1]; exact h⟩
  ·exact h
 have hall : ∀ v ∈ zm (zm [] a) b, ∃ d, ofV more v = some d := fun v hv => Option.isSome_iff_exists.1 ((hW v).1 hv)
 have hin1 : inV (zm (zm [] a) b) a := qo1 (fun x hx => z6n hx) a (q5m a [])
 have hin2 : inV (zm (zm [] a) b) b := q5m b _
 have hrep1 : Rh S2 (fOf more) a x := z4n Q.ext (V := zm [] a) (fun v hv => by
  have := (hV v).1 hv
  cases ho : ofV all v with
  | none => rw [ho] at this; cases this
  | some d => rw [q8r ho, q8r (Q.of v d ho)]) a x (q5m a []) P.rep
 have hI0 := P.inj (fun v w c h => by cases h) (fun v d h => by cases h)
 have hI := (Q.inj hI0.1 hI0.2).1
 have hgv : ∀ v ∈ zm (zm [] a) b, Vgood S2 (fOf more v) := fun v hv => by
  obtain ⟨d, hd⟩ := hall v hv
  obtain ⟨p, e, h⟩ := hnew v d hd
  subst e
  rw [q8r hd]
  exact qiq h
 have hx5 : x.t ≠ 5 := (qh6 hgv hin1 (yt.1 hva).2 hrep1).no5
 have hy5 : y.t ≠ 5 := (qh6 hgv hin2 (yt.1 hvb).2 Q.rep).no5
 have hvx := Q.ext.vc P.vc
 have hvy := Q.vc
 have hrst := P.rst.trans Q.rst
 have hwk : S2.wk = [] := hrst.2.2.1
 have htr : S2.tr = [] := hrst.2.1
 have hgood : q1n S2 = true := by
  simp only [q1n, qkr, hwk, Q.valid, List.length_nil, Bool.and_true]
  rfl
 have hsm : qfa S2 = true := by
  have := z4q Q.valid
  rw [qjl, hwk, htr]
  simp only [List.length_nil]
  omega
 have hrun := qmw 1048576 S2 [(x, y)] hgood (z7q hNb) fun p hp => by
  rw [List.mem_singleton.1 hp]
  exact ⟨⟨hvx, hx5⟩, hvy, hy5⟩
 have hF := z74 (r := r) hva hvb hPr hgood hI hnew hin1 hin2 hall hrep1 Q.rep hvx hx5 hrun
 have huni : z23 S2 x y = if (q2m (q0t ji) 1048576 S2 [(x, y)]).1 = 0 then q2m (q0t ji) 1048576 S2 [(x, y)] else ((q2m (q0t ji) 1048576 S2 [(x, y)]).1, S2) := by
  unfold z23
  rw [if_neg (by rw [qkk Q.valid, qkk Q.valid, hvx, hvy]; simp)]
 have hun : qxc [eS S2, eC x, eC y] = some [.i (z23 S2 x y).1, eS (z23 S2 x y).2] := by
  simp only [qxc, z3, ym, hsm, if_true]
 rw [huni] at hun
 generalize q2m (q0t ji) 1048576 S2 [(x, y)] = R at hrun hF hun
 rw [hu] at hU
 have hcode := hPr.code
 by_cases h0 : r.1 = 0
 ·rw [if_pos h0] at hU
  rcases hrun with ⟨hR0, hgR, -, -, hvc⟩ | hR2 | ⟨hR4, -⟩
  ·rw [if_pos hR0] at hun
   obtain ⟨f1, f2, f3⟩ := hF.2.2 h0 hR0
   have hvR : qs R.2 = true := by
    simp only [q1n, Bool.and_eq_true] at hgR
    exact hgR.2
   have hvx' : vcR R.2 x = true := (hvc x hx5).trans hvx
   have hvy' : vcR R.2 y = true := (hvc y hy5).trans hvy
   have hgy : q1l R.2 2001 y 2000 = q1l R.2 2001 x 2000 := by rw [qhg, qhg, f1]
   have hgx1 : z7e [eS R.2, eC x] = some [eT (qfn R.2 x).1, .i (qfn R.2 x).2] := by simp only [z7e, z3, ym, if_pos hvR]
   have hgy1 : z7e [eS R.2, eC y] = some [eT (qfn R.2 x).1, .i (qfn R.2 x).2] := by
    have e : qfn R.2 y = qfn R.2 x := by simp only [qfn, hvx', hvy', hgy, if_true]
    simp only [z7e, z3, ym, if_pos hvR, e]
   have hres : zhr [.r (r.2.1.map eB), eT a] = some [eT (qdz r.2.1 a).1, .i (qdz r.2.1 a).2] := (z3c _ _ _).2 ⟨⟨hPr.sb, hPr.ac qz7, by have := hPr.len; have := hPr.n2; omega⟩, rfl⟩
   by_cases hn : (q1l R.2 2001 x 2000).2 < 0
   ·have e1 : qfn R.2 x = (zT, 2) := by simp only [qfn, hvx', if_true, if_pos hn]
    have e2 : qdz r.2.1 a = (zT, 2) := by simp only [qdz, hva, if_true, f2, if_pos hn]
    rw [e1] at hgx1 hgy1
    rw [e2] at hres
    simp [q9, qd, qa, qb, qc, X.says, X.ev, X.evs, evl, qe, gnA, gnT, qhe, hU, hm0, hput, hput2, hun, hR0, hgx1, hgy1, hres]
   ·have e1 : qfn R.2 x = ((q1l R.2 2001 x 2000).1, 0) := by simp only [qfn, hvx', if_true, if_neg hn]
    have e2 : qdz r.2.1 a = ((rsA r.2.1 a 2000).1, 0) := by simp only [qdz, hva, if_true, f2, if_neg hn]
    have hvt := z75 hvR hvx' (f := 2001) (l := 2000) (by decide) (by decide) (by omega)
    have hvar := f3 (by omega) hvt
    have hsame := z1l hvt
    rw [e1] at hgx1 hgy1
    rw [e2] at hres
    simp [q9, qd, qa, qb, qc, X.says, X.ev, X.evs, evl, qe, gnA, gnT, qhe, hU, hm0, hput, hput2, hun, hR0, hgx1, hgy1, hres, qpv, hsame, hvar]
  ·rw [if_neg (by omega)] at hun
   simp [q9, qd, qa, qb, qc, X.says, X.ev, X.evs, evl, qe, gnA, gnT, qhe, hU, hm0, hput, hput2, hun, hR2]
  ·exact absurd hR4 (hF.1 h0)
 ·rw [if_neg h0] at hU
  by_cases h4 : r.1 = 4
  ·rw [h4] at hU
   rcases hrun with ⟨hR0, -⟩ | hR2 | ⟨hR4, -⟩
   ·exact absurd hR0 (hF.2.1 h4)
   ·rw [if_neg (by omega)] at hun
    simp [q9, qd, qa, qb, qc, X.says, X.ev, X.evs, evl, qe, gnA, gnT, qhe, hU, hm0, hput, hput2, hun, hR2]
   ·rw [if_neg (by omega)] at hun
    simp [q9, qd, qa, qb, qc, X.says, X.ev, X.evs, evl, qe, gnA, gnT, qhe, hU, hm0, hput, hput2, hun, hR4]
  ·simp [q9, qd, qa, qb, qc, X.says, X.ev, X.evs, evl, qe, gnA, gnT, qhe, hU, h0, h4]
end Go.Proofs.Ytaoamndcdjelnaa
