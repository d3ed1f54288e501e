/-
 Lemmas of the walk and plain laws, put together. No condition.
-/
import Derived.Defers
import Derived.Laws.Tables
import Derived.Test.YtdaadonfbnedaaaKc
namespace Go.Proofs.Ytdaadonfbnedaaa
open Go.RowKit
set_option linter.unusedVariables false
set_option linter.unusedSimpArgs false
set_option maxRecDepth 100000
section
inductive Tree where
 | bad (n : Nat)
 | need (ns : List X) (t : Tree)
 | br (x : X) (t e : Tree)
 | amb (x : X) (neg : Bool) (t e : Tree)
 | leaf (xs : List X)
 | back (id : Nat) (xs : List X)
 | loop (id n : Nat) (init : List X) (body : Tree)
def evl (S : Nat → List D → Option (List D)) (l : List D) : Ev := ⟨fun k => l.getD k .u, S⟩
def qf (e : Ev) : List X → Prop
 | [] => True
 | x :: l => x.says e ∧ qf e l
def q3l (B : Nat → List D → Prop) (id : Nat) (I : List D → Prop) : Nat → List D → Prop := fun j => if j = id then I else B j
def Tree.go (S : Nat → List D → Option (List D)) (R : List D → Prop) : Tree → List D → (Nat → List D → Prop) → Prop
 | .bad _, _, _ => False
 | .need ns t, l, B => qf (evl S l) ns ∧ t.go S R l B
 | .br x t e, l, B => ((x.ev (evl S l)).tt = true → t.go S R l B) ∧ ((x.ev (evl S l)).tt = false → e.go S R l B)
 | .amb x neg t e, l, B => ((neg = false → (x.ev (evl S l)).rs = []) → t.go S R l B) ∧ ((neg = true → (x.ev (evl S l)).rs = []) → e.go S R l B)
 | .leaf xs, l, B => R (X.evs (evl S l) xs)
 | .back id xs, l, B => B id (X.evs (evl S l) xs)
 | .loop id n init body, l, B => ∃ (I : List D → Prop) (μ : List D → Nat), I (X.evs (evl S l) init) ∧
   ∀ st, st.length = init.length → I st → body.go S R (l.take n ++ st) (q3l B id fun st' => I st' ∧ μ st' < μ st)
abbrev Item := Nat × Ty × List (Nat × Nat) × List Nat
structure Head where
 ts : List (Nat × Ty × Bool)
 ms : List Nat
 kill : List Nat
 dep : List Nat
structure Ann where
 pub : List Nat
 heads : List (Nat × Head)
def prune (l : List Nat) (σ : St) : St := ⟨σ.t.filter fun e => zh l e.1, σ.m⟩
theorem z2t {α : Type} {q : Nat → Bool} {l : List (Nat × α)} {k : Nat} {e : α} (h : lkA (l.filter fun y => q y.1) k = some e) : lkA l k = some e := by
 induction l with
 | nil => cases h
 | cons a l ih =>
  obtain ⟨j, x⟩ := a
  by_cases hjk : j = k
  ·subst hjk
   rw [List.filter_cons] at h
   split at h
   ·rw [qh] at h ⊢
    exact h
   ·rename_i hq
    exfalso
    have := List.mem_filter.1 (qx h)
    exact hq this.2
  ·rw [qi hjk]
   rw [List.filter_cons] at h
   split at h
   ·rw [qi hjk] at h
    exact ih h
   ·exact ih h
theorem z6m {c : Cx} {l : List Nat} {σ : St} {p : ql} {w : World} {a : Act} (h : SF c σ p w a) : SF c (prune l σ) p w a := ⟨fun t x hx => h.t t x (z2t (q := zh l) hx), h.m⟩
def sel {α : Type} (q : Nat → α → Bool) : List (Nat × α) → List (Nat × α)
  | [] => []
  | (k, e) :: l => if q k e then (k, e) :: sel q l else (sel q l).filter fun y => y.1 != k
theorem qu1 {α : Type} {q : Nat → α → Bool} {l : List (Nat × α)} {k : Nat} {e : α} (h : lkA (sel q l) k = some e) : lkA l k = some e ∧ q k e = true := by
 induction l with
 | nil => cases h
 | cons a l ih =>
  obtain ⟨j, x⟩ := a
  unfold sel at h
  by_cases hjk : j = k
  ·subst hjk
   split at h
   ·rename_i hq
    rw [qh] at h
    injection h with h
    subst h
    exact ⟨qh, hq⟩
   ·rw [qz] at h
    cases h
  ·rw [qi hjk]
   split at h
   ·rw [qi hjk] at h
    exact ih h
   ·rw [q1m hjk] at h
    exact ih h
def qtu (a b : List (Nat × Nat)) : Bool := a.all fun e => match lkA b e.1 with
 | some x => Nat.beq x e.2
 | none => false
def qf7 (a b : List (Nat × Nat)) : Bool := q3j a && (q3j b && (qtu a b && qtu b a))
def SNK : Nat := 4000000000
def snB (ty : Ty) (dep : List Nat) : Bool := qew ty && zh dep SNK
def itT (σ : St) : Item → Option X
  | (t, ty, own, dep) => match lkA σ.t t with
    | some (.v x ty' own' dep') => if !snB ty dep && (Ty.beq ty' ty && (qf7 own' own && dep'.all (zh dep))) then some x else none
    | some (.sn q (.v x ty' own' dep')) => if snB ty dep && (Nat.beq q t && (Ty.beq ty' ty && (qf7 own' own && dep'.all (zh dep)))) then some x else none
    | some .nilS => (match ty with
      | .row E => if (qp E).isSome then some (.lit (.r [])) else none
      | _ => none)
    | _ => none
def itM (σ : St) : Item → Option X
  | (k, ty, own, dep) => match lkA σ.m k with
    | some e => if Ty.beq e.t ty && (qf7 e.own own && e.dep.all (zh dep)) then some e.x else none
    | none => none
def its (f : Item → Option X) : List Item → Option (List X)
 | [] => some []
 | i :: l => match f i, its f l with
  | some x, some xs => some (x :: xs)
  | _, _ => none
def pairUp (own : List (Nat × Nat)) : List (Nat × Nat) → List (Nat × Nat)
  | [] => []
  | (i, q) :: l => match lkA own i with
    | some x => (x, q) :: pairUp own l
    | none => pairUp own l
def zia (σ : St) (t : Nat) : List (Nat × Nat) := match lkA σ.t t with
 | some (.v _ _ own _) => own
 | some (.sn _ (.v _ _ own _)) => own
 | _ => []
def zk3 (σ : St) (k : Nat) : List (Nat × Nat) := match lkA σ.m k with
 | some e => e.own
 | none => []
def z4k (f : Nat → List (Nat × Nat)) : List Item → List (Nat × Nat)
  | [] => []
  | (k, _, own, _) :: l => pairUp (f k) own ++ z4k f l
def qia (σ : St) (ts ms : List Item) : List (Nat × Nat) := z4k (zia σ) ts ++ z4k (zk3 σ) ms
def conv (ts ms : List Item) (σ : St) : Option (St × List X × List X) := if reB (qia σ ts ms) then match its (itT (σ.ren (qia σ ts ms))) ts, its (itM (σ.ren (qia σ ts ms))) ms with
  | some a, some b => some (σ.ren (qia σ ts ms), a, b)
  | _, _ => none
 else none
def tgt (k : Nat) (ty : Ty) (own : List (Nat × Nat)) : List (Nat × Nat) := (qu k ty).filter fun e => (lkA own e.1).isSome
def zgz (σ : St) : List (Nat × Ty × Bool) → List Item
  | [] => []
  | (t, ty, rd) :: l => (t, ty, (match lkA σ.t t with
    | some (.v _ _ own _) => tgt t ty own
    | some (.sn _ (.v _ _ own _)) => tgt t ty own
    | some .nilS => if rd then [] else qu t ty
    | _ => []), []) :: zgz σ l
def zgk (σ : St) : List Nat → List Item
 | [] => []
 | k :: l => match lkA σ.m k with
  | some e => (k, e.t, tgt k e.t e.own, []) :: zgk σ l
  | none => zgk σ l
def qtv (f : Nat → List Nat) (x : List Nat) : List Item → List Item
  | [] => []
  | (k, ty, own, _) :: l => (k, ty, own, f k ++ x) :: qtv f x l
def zgf (σ : St) (t : Nat) : List Nat := match lkA σ.t t with
 | some (.v _ _ _ dep) => dep
 | some (.sn _ (.v _ _ _ dep)) => SNK :: dep
 | _ => []
def zeg (σ : St) (k : Nat) : List Nat := match lkA σ.m k with
 | some e => e.dep
 | none => []
def heads (h : Head) (σ : St) : List Item × List Item :=
 let ts := zgz σ h.ts
 let ms := zgk σ h.ms
 let σ1 := σ.ren (qia σ ts ms)
 (qtv (zgf σ1) h.dep ts, qtv (zeg σ1) h.dep ms)
def keys (l : List Item) : List Nat := l.map (·.1)
def isAny : AV → Bool
 | .any => true
 | _ => false
def q16 (ts ms : List Item) (kill : List Nat) (n : Nat) (σ : St) : St :=
 ⟨sel (fun t a => !isAny a && (!zh (keys ts) t && (!zh kill t && a.upto n))) σ.t, sel (fun k e => !zh (keys ms) k && X.upto n e.x) σ.m⟩
def z4n : List Item → Nat → List (Nat × AV) → List (Nat × AV)
  | [], _, r => r
  | (t, ty, own, dep) :: l, n, r => (t, if snB ty dep then .sn t (.v (.tok n) ty own dep) else .v (.tok n) ty own dep) :: z4n l (n + 1) r
def z7u : List Item → Nat → List (Nat × Ent) → List (Nat × Ent)
  | [], _, r => r
  | (k, ty, own, dep) :: l, n, r => (k, ⟨.tok n, ty, own, dep⟩) :: z7u l (n + 1) r
def q1u (ts ms : List Item) (n : Nat) (σ : St) : St := ⟨z4n ts n σ.t, z7u ms (n + ts.length) σ.m⟩
inductive ResD where
 | normal
 | ret
 | exit (id : Nat)
def ResD.exit' : ResD → Exit
 | .normal => .normal
 | .ret => .ret
 | .exit id => .exit id
def q26 : Code → Nat
 | .region id _ _ => id + 1
 | .seq x y => (match q26 x with
  | 0 => q26 y
  | n + 1 => n + 1)
 | .cond _ x y => (match q26 x with
  | 0 => q26 y
  | n + 1 => n + 1)
 | .block _ c => q26 c
 | .loop c => q26 c
 | .scope c => q26 c
 | _ => 0
def qwv (N : List X) (t : Tree) : Tree := match N with
 | [] => t
 | _ => .need N t
mutual
/-- The slices that a value owns. -/
def qve : AV → List Nat
 | .v _ _ own _ => own.map (·.2)
 | .rd _ _ _ wr => (match wr with
  | some (pin, _) => [pin]
  | none => [])
 | .tup l => z3t l
 | .gd _ a => qve a
 | .fn _ l => z3t l
 | .bx _ _ a => qve a
 | .ax _ _ _ a => qve a
 | .fr _ a => qve a
 | .sn _ a => qve a
 | .pt pin _ _ a => pin :: qve a
 | _ => []
def z3t : List AV → List Nat
 | [] => []
 | a :: l => qve a ++ z3t l
end
def qyf (kill : List Nat) : List (Nat × AV) → List Nat
  | [] => []
  | (t, a) :: l => if zh kill t then qyf kill l else qve a ++ qyf kill l
def z6v : List (Nat × Ent) → List Nat
  | [] => []
  | (_, e) :: l => e.own.map (·.2) ++ z6v l
def qb4 (kill : List Nat) (σ : St) : Nat → Bool := fun y => !Nat.beq (y % 16) 0 && !zh (qyf kill σ.t ++ z6v σ.m) y
def St.drop (kill : List Nat) (σ : St) : St := σ.un (qb4 kill σ)
def z4d (l : List Nat) : D := .r (l.map fun y => .i (Int.ofNat y))
def zdh (own : List (Nat × Nat)) (dep : List Nat) : X := .lit (.a [z4d (own.map (·.1)), z4d (own.map (·.2)), z4d dep])
def z1h (σ : St) (ts ms : List Item) : List X := (ts.map fun e => match lkA σ.t e.1 with
 | some (.v _ _ own dep) => zdh own dep
 | some .nilS => .lit (.s ⟨#[]⟩)
 | some _ => .lit (.b false)
 | none => .lit .u) ++ (ms.map fun e => match lkA σ.m e.1 with
 | some e => zdh e.own e.dep
 | none => .lit .u)
def qsc : AV → AV
 | .v x ty own dep => .v x ty [] (own.map (·.2) ++ dep)
 | a => a
def qzv (e : Ent) : Ent := ⟨e.x, e.t, [], e.own.map (·.2) ++ e.dep⟩
def qry (ts : List Item) (k : Nat) : Bool := ts.any fun i => Nat.beq i.1 k && i.2.2.1.isEmpty
def qeo (ts ms : List Item) (σ : St) : St := ⟨σ.t.map fun e => (e.1, if qry ts e.1 then qsc e.2 else e.2), σ.m.map fun e => (e.1, if qry ms e.1 then qzv e.2 else e.2)⟩
def z3g (id : Nat) (it : List Item × List Item) (kill : List Nat) (n : Nat) (σ : St) (body : Nat → St → (Nat → ResD → St → Tree) → Tree) (k : Nat → ResD → St → Tree) : Tree := match conv it.1 it.2 σ with
 | some (σ1, va, vb) => .loop (id - 1) n (va ++ vb) (body (n + (va ++ vb).length) (q1u it.1 it.2 n (q16 it.1 it.2 kill n σ1)) fun n' r σ' => match r with
  | .normal => (match conv it.1 it.2 ((qeo it.1 it.2 σ').drop kill) with
   | some (σ2, va', vb') => if covers σ2 (q16 it.1 it.2 kill n σ1) then .back (id - 1) (va' ++ vb') else .bad (3000000 + id)
   | none => .need (z1h σ' it.1 it.2 ++ ((.lit (.b true)) :: z1h (σ'.ren (qia σ' it.1 it.2)) it.1 it.2)) (.bad (4000000 + id)))
  | .ret => k n' .ret σ'
  | .exit i => k n' (.exit i) σ')
 | none => .need (z1h σ it.1 it.2) (.bad (5000000 + id))
def qyk (P : Program) (tbl : Tbl) (ds : List (Option Tmp)) : Nat → St → List Oper → Nat
 | _, _, [] => 900
 | i, σ, o :: l => match stepG P tbl ds σ o with
  | some (_, σ') => qyk P tbl ds (i + 1) σ' l
  | none => i
def z4g (P : Program) (T : TypeId) : Bool := match P.built T [], P.underlying T with
 | some c, some (.struct _) => Nat.beq c.size 0
 | _, _ => false
def z9y (P : Program) (z : Nat) : List Oper → Option TypeId
 | [o1, o2, o3] => (match o1.op, o2.op, o3.op, o1.dst, o2.dst with
  | .build T ps, .makeInterface T' (.tmp a'), .panic (.tmp b'), some a, some b => if Nat.beq T T' && (Nat.beq a a' && (Nat.beq b b' && (Nat.beq ps.size 0 && (Nat.blt a z && (Nat.blt b z && (z4g P T && (o1.guard.isNone && (o2.guard.isNone && o3.guard.isNone)))))))) then some T else none
  | _, _, _, _, _ => none)
 | _ => none
def zhj (o : Option TypeId) (T : TypeId) : Bool := match o with
 | some T1 => Nat.beq T1 T
 | none => false
def qrl (body : Nat → St → (Nat → ResD → St → Tree) → Tree) (k : Nat → ResD → St → Tree) : Nat → Nat → St → Tree
 | 0, _, _ => .bad 6000000
 | f + 1, n, σ => body n σ fun n' r σ' => match r with
  | .normal => qrl body k f n' σ'
  | .ret => k n' .ret σ'
  | .exit i => k n' (.exit i) σ'
def toT (P : Program) (tbl : Tbl) (ann : Ann) (lo z : Nat) : Code → List Nat → Nat → St → (Nat → ResD → St → Tree) → Tree
 | .skip, _, n, σ, k => k n .normal σ
 | .region id ops d, _, n, σ, k => (match zeq P tbl lo z σ ops.toList d with
  | some (N, σ') => qwv N (k n .normal (prune ann.pub σ'))
  | none => (match z9y P z ops.toList with
   | some T => if tbl.any (fun e => zhj e.1.pn T) && !d then .leaf [.lit .u] else .bad (id * 1000 + qyk P tbl (dsts ops.toList) 0 σ ops.toList)
   | none => .bad (id * 1000 + qyk P tbl (dsts ops.toList) 0 σ ops.toList)))
 | .seq x y, ids, n, σ, k => toT P tbl ann lo z x ids n σ fun n' r σ' => match r with
  | .normal => toT P tbl ann lo z y ids n' σ' k
  | .ret => k n' .ret σ'
  | .exit i => k n' (.exit i) σ'
 | .cond c x y, ids, n, σ, k => (match opd σ [] c with
  | some (.v (.lit (.b true)) .bool _ _) => toT P tbl ann lo z x ids n σ k
  | some (.v (.lit (.b false)) .bool _ _) => toT P tbl ann lo z y ids n σ k
  | some (.v b .bool _ _) => .br b (toT P tbl ann lo z x ids n σ k) (toT P tbl ann lo z y ids n σ k)
  | some (.nb b neg) => .amb b neg (toT P tbl ann lo z x ids n σ k) (toT P tbl ann lo z y ids n σ k)
  | _ => .bad (1000000 + q26 x))
 | .block id c, ids, n, σ, k => toT P tbl ann lo z c ids n σ fun n' r σ' => match r with
  | .exit i => if Nat.beq i id then k n' .normal σ' else k n' (.exit i) σ'
  | .ret => k n' .ret σ'
  | .normal => k n' .normal σ'
 | .exit id, _, n, σ, k => k n (.exit id) σ
 | .ret, _, n, σ, k => k n .ret σ
 | .loop c, ids, n, σ, k => (match lkA ann.heads (q26 c - 1) with
  | some h => if zh ids (q26 c - 1) then .bad (2000000 + q26 c) else z3g (q26 c) (heads h (σ.drop h.kill)) h.kill n (σ.drop h.kill) (fun n' σ0 => toT P tbl ann lo z c ((q26 c - 1) :: ids) n' σ0) k
  | none => qrl (fun n' σ0 => toT P tbl ann lo z c ids n' σ0) k 128 n σ)
 | .label _, _, n, σ, k => k n .normal σ
 | .scope c, ids, n, σ, k => toT P tbl ann lo z c ids n σ k
 | _, _, _, _, _ => .bad 7000000
section
variable {c : Cx} {p : ql} {w w0 : World} {S0 : Nat → Prop} {a : Act} {σ σ' : St} {d : List Deferred} {z : Nat} {tbl : Tbl}
theorem qyt : ∀ (x : AV) {v : Value}, x.pd c p w v → (qsc x).pd c p w v := fun x v h => by
 cases x with
 | v x ty own dep =>
  obtain ⟨cs, hp, hc⟩ := h
  exact ⟨cs, hp, Con.of_rd (hc.rd (fun _ h => List.mem_append_right _ h) (fun _ h => List.mem_append_left _ h))⟩
 | _ => exact h
theorem qxd {α : Type} (f : α → α) (q : Nat → Bool) {t : Nat} : ∀ (l : List (Nat × α)) {x : α}, lkA (l.map fun e => (e.1, if q e.1 then f e.2 else e.2)) t = some x → ∃ y, lkA l t = some y ∧ (x = y ∨ x = f y)
 | [], x, h => by cases h
 | e :: l, x, h => by
  simp only [List.map_cons, lkA] at h ⊢
  split at h
  ·rename_i hk
   injection h with h
   subst h
   refine ⟨e.2, if_pos hk, ?_⟩
   split
   ·exact .inr rfl
   ·exact .inl rfl
  ·rename_i hk
   rw [if_neg hk]
   exact qxd f q l h
theorem qxw (ts ms : List Item) (hf : SF c σ p w a) : SF c (qeo ts ms σ) p w a := by
 refine ⟨fun t x hx => ?_, fun k e he => ?_⟩
 ·obtain ⟨y, hy, h⟩ := qxd qsc (qry ts) σ.t hx
  obtain ⟨u, h1, h2⟩ := hf.t t y hy
  refine ⟨u, h1, ?_⟩
  rcases h with rfl | rfl
  ·exact h2
  ·exact qyt y h2
 ·obtain ⟨y, hy, h⟩ := qxd qzv (qry ms) σ.m he
  obtain ⟨g, cs, T, h1, h2, hty, h3⟩ := hf.m k y hy
  rcases h with rfl | rfl
  ·exact ⟨g, cs, T, h1, h2, hty, h3⟩
  ·exact ⟨g, cs, T, h1, h2, hty, Con.of_rd (h3.rd (fun _ h => List.mem_append_right _ h) (fun _ h => List.mem_append_left _ h))⟩
theorem qq6 {e : Ev} : ∀ {ns : List X}, qf e ns → ∀ n ∈ ns, n.says e
 | [], _, n, hn => by cases hn
 | x :: l, h, n, hn => by
  rcases List.mem_cons.1 hn with rfl | hn
  ·exact h.1
  ·exact qq6 h.2 n hn
theorem qo6 {S : Nat → List D → Option (List D)} {R : List D → Prop} {N : List X} {t : Tree} {l : List D} {B : Nat → List D → Prop} (h : (qwv N t).go S R l B) : (∀ n ∈ N, n.says (evl S l)) ∧ t.go S R l B := by
 unfold qwv at h
 split at h
 ·exact ⟨(fun n hn => by cases hn), h⟩
 ·exact ⟨qq6 h.1, h.2⟩
def ItT (sn : Nat → Value) (A : Nat → Prop) (p : ql) (w : World) (a : Act) : List Item → List D → Prop
  | [], ds => ds = []
  | (t, ty, own, dep) :: l, ds => ∃ x r, ds = x :: r ∧ (∃ v cs, a.tmps[t]? = some v ∧ yj ty cs v ∧ Con A p w x ty own dep cs ∧ (snB ty dep = true → v = sn t)) ∧ ItT sn A p w a l r
def ItM (A : Nat → Prop) (p : ql) (w : World) : List Item → List D → Prop
  | [], ds => ds = []
  | (k, ty, own, dep) :: l, ds => ∃ x r, ds = x :: r ∧ (∃ g cs T, p (k * 16) = some g ∧ w.heap[g]? = some (.cells cs T (0, 0)) ∧ qp T = some ty ∧ Con A p w x ty own dep cs.toList) ∧ ItM A p w l r
theorem qds {a b : List (Nat × Nat)} (h : qf7 a b = true) (j : Nat) : lkA a j = lkA b j := by
 simp only [qf7, Bool.and_eq_true] at h
 have sub : ∀ {a b : List (Nat × Nat)}, qtu a b = true → ∀ {x}, lkA a j = some x → lkA b j = some x := fun {a b} h {x} hx => by
  have := List.all_eq_true.1 h _ (qx hx)
  split at this
  ·rename_i y hy
   have hy' : lkA b j = some y := hy
   rw [hy', Nat.eq_of_beq_eq_true this]
  ·cases this
 cases ha : lkA a j with
 | some x => exact (sub h.2.2.1 ha).symm
 | none =>
  cases hb : lkA b j with
  | none => rfl
  | some x => rw [sub h.2.2.2 hb] at ha; cases ha
theorem Con.same {A : Nat → Prop} {dep : List Nat} {own own' : List (Nat × Nat)} (ho : ∀ j, lkA own j = lkA own' j) {x : D} {t : Ty} {cs : List Value} (h : Con A p w x t own dep cs) : Con A p w x t own' dep cs := by
 have hF : ∀ {ds : List D} {j : Nat} {fs : List Ty} {cs : List Value}, Fls A p w dep own j ds fs cs → Fls A p w dep own' j ds fs cs := by
  intro ds
  induction ds with
  | nil => intro j fs cs h; exact h
  | cons d ds ih =>
   rintro j fs cs ⟨t, ts, c1, c2, e1, e2, h1, h2⟩
   exact ⟨t, ts, c1, c2, e1, e2, by rw [← ho]; exact h1, ih h2⟩
 unfold Con at h ⊢
 split
 ·obtain ⟨fs, ds, hf, e, h⟩ := h
  exact ⟨fs, ds, hf, e, hF h⟩
 ·rename_i hne
  split at h
  ·rename_i T; exact absurd rfl (hne T)
  ·rw [← ho]
   exact h
theorem qwg (hf : SF c σ p w a) : ∀ {l : List Item} {xs : List X}, its (itT σ) l = some xs → ItT c.snap c.A p w a l (X.evs c.v xs)
  | [], xs, h => by
    simp only [its, Option.some.injEq] at h
    subst h
    rfl
  | (t, ty, own, dep) :: l, xs, h => by
    unfold its at h
    split at h
    · rename_i x xs' hx hxs
      injection h with h
      subst h
      refine ⟨_, _, rfl, ?_, qwg hf hxs⟩
      unfold itT at hx
      simp only at hx
      split at hx
      · rename_i x' ty' own' dep' hl
        split at hx
        · rename_i hok
          simp only [Bool.and_eq_true] at hok
          injection hx with hx
          subst hx
          obtain ⟨v, hv, cs, hp, hc⟩ := hf.t t _ hl
          obtain ⟨h0, h1, h2, h3⟩ := hok
          rw [Ty.beq_iff] at h1
          subst h1
          exact ⟨v, cs, hv, hp, (hc.same (qds h2)).mono fun y hy => zr.1 (List.all_eq_true.1 h3 y hy), fun hs => by rw [hs] at h0; cases h0⟩
        · cases hx
      · rename_i q x' ty' own' dep' hl
        split at hx
        · rename_i hok
          simp only [Bool.and_eq_true] at hok
          injection hx with hx
          subst hx
          obtain ⟨v, hv, he, cs, hp, hc⟩ := hf.t t _ hl
          obtain ⟨h0, hq, h1, h2, h3⟩ := hok
          rw [Ty.beq_iff] at h1
          subst h1
          obtain rfl := Nat.eq_of_beq_eq_true hq
          exact ⟨v, cs, hv, hp, (hc.same (qds h2)).mono fun y hy => zr.1 (List.all_eq_true.1 h3 y hy), fun _ => he⟩
        · cases hx
      · rename_i hl
        split at hx
        · rename_i E
          split at hx
          · rename_i hE
            injection hx with hx
            subst hx
            obtain ⟨te, hte⟩ := Option.isSome_iff_exists.1 hE
            obtain ⟨v, hv, rfl⟩ := hf.t t _ hl
            refine ⟨_, [.slice none 0 0], hv, qob rfl, ?_, fun hs => by cases hs⟩
            show Fl c.A p w dep (lkA own 0) (.r []) (.row E) _
            cases lkA own 0 with
            | none => exact ⟨E, te, none, 0, rfl, hte, rfl, by simp, by simp, by simp [maxLen], by simp [RdE]⟩
            | some pin => exact .inl ⟨E, te, [], _, rfl, hte, rfl, rfl, .inl ⟨rfl, rfl⟩⟩
          · cases hx
        · cases hx
      · cases hx
    · cases h
theorem qvr (hf : SF c σ p w a) : ∀ {l : List Item} {xs : List X}, its (itM σ) l = some xs → ItM c.A p w l (X.evs c.v xs)
  | [], xs, h => by
    simp only [its, Option.some.injEq] at h
    subst h
    rfl
  | (k, ty, own, dep) :: l, xs, h => by
    unfold its at h
    split at h
    · rename_i x xs' hx hxs
      injection h with h
      subst h
      refine ⟨_, _, rfl, ?_, qvr hf hxs⟩
      unfold itM at hx
      simp only at hx
      split at hx
      · rename_i e he
        split at hx
        · rename_i hok
          simp only [Bool.and_eq_true] at hok
          injection hx with hx
          subst hx
          obtain ⟨g, cs, T, hg, hh, hty, hc⟩ := hf.m k _ he
          obtain ⟨h1, h2, h3⟩ := hok
          rw [Ty.beq_iff] at h1
          rw [h1] at hc
          exact ⟨g, cs, T, hg, hh, h1 ▸ hty, (hc.same (qds h2)).mono fun y hy => zr.1 (List.all_eq_true.1 h3 y hy)⟩
        · cases hx
      · cases hx
    · cases h
theorem qfb {f : Item → Option X} : ∀ {l : List Item} {xs : List X}, its f l = some xs → xs.length = l.length
 | [], xs, h => by
  simp only [its, Option.some.injEq] at h
  subst h
  rfl
 | i :: l, xs, h => by
  unfold its at h
  split at h
  ·rename_i x xs' hx hxs
   injection h with h
   subst h
   simp [qfb hxs]
  ·cases h
theorem qa5 {e : Ev} (l m : List X) : X.evs e (l ++ m) = X.evs e l ++ X.evs e m := by
 induction l with
 | nil => rfl
 | cons x l ih => simp [X.evs, ih]
theorem z0e {r : List (Nat × AV)} (hr : ∀ t x, lkA r t = some x → ∃ v, a.tmps[t]? = some v ∧ x.pd c p w v) : ∀ {l : List Item} {n : Nat} {ds : List D}, ItT c.snap c.A p w a l ds → (∀ i, i < ds.length → c.v.E (n + i) = ds.getD i .u) →
    ∀ t x, lkA (z4n l n r) t = some x → ∃ v, a.tmps[t]? = some v ∧ x.pd c p w v
  | [], n, ds, _, _, t, x, h => hr t x h
  | (s, ty, own, dep) :: l, n, ds, h, hE, t, x, hx => by
    obtain ⟨y, ys, rfl, ⟨v, cs, hv, hp, hc, hsn⟩, hl⟩ := h
    by_cases hst : s = t
    · subst hst
      simp only [z4n] at hx
      rw [qh] at hx
      injection hx with hx
      subst hx
      have := hE 0 (by simp)
      simp only [Nat.add_zero, List.getD_cons_zero] at this
      have hcon : Con c.A p w (c.v.E n) ty own dep cs := by
        rw [this]
        exact hc
      refine ⟨v, hv, ?_⟩
      split
      · rename_i hs
        exact ⟨hsn hs, cs, hp, hcon⟩
      · exact ⟨cs, hp, hcon⟩
    · simp only [z4n] at hx
      rw [qi hst] at hx
      refine z0e hr hl (n := n + 1) (fun i hi => ?_) t x hx
      have := hE (i + 1) (by simp; omega)
      rw [show n + 1 + i = n + (i + 1) by omega, this]
      simp
theorem z03 {r : List (Nat × Ent)} (hr : ∀ k e, lkA r k = some e → q0g c p w k e) : ∀ {l : List Item} {n : Nat} {ds : List D}, ItM c.A p w l ds → (∀ i, i < ds.length → c.v.E (n + i) = ds.getD i .u) →
    ∀ k e, lkA (z7u l n r) k = some e → q0g c p w k e
  | [], n, ds, _, _, t, x, h => hr t x h
  | (s, ty, own, dep) :: l, n, ds, h, hE, t, x, hx => by
    obtain ⟨y, ys, rfl, ⟨g, cs, T, hg, hh, hty, hc⟩, hl⟩ := h
    by_cases hst : s = t
    · subst hst
      simp only [z7u] at hx
      rw [qh] at hx
      injection hx with hx
      subst hx
      refine ⟨g, cs, T, hg, hh, hty, ?_⟩
      have := hE 0 (by simp)
      simp only [Nat.add_zero, List.getD_cons_zero] at this
      show Con c.A p w (c.v.E n) ty own dep cs.toList
      rw [this]
      exact hc
    · simp only [z7u] at hx
      rw [qi hst] at hx
      refine z03 hr hl (n := n + 1) (fun i hi => ?_) t x hx
      have := hE (i + 1) (by simp; omega)
      rw [show n + 1 + i = n + (i + 1) by omega, this]
      simp
theorem qsl {sn : Nat → Value} {A : Nat → Prop} : ∀ {l : List Item} {ds : List D}, ItT sn A p w a l ds → ds.length = l.length
  | [], ds, h => by cases h; rfl
  | (_, _, _, _) :: l, ds, ⟨x, r, e, _, h⟩ => by subst e; simp [qsl h]
theorem z18 {A : Nat → Prop} : ∀ {l : List Item} {ds : List D}, ItM A p w l ds → ds.length = l.length
  | [], ds, h => by cases h; rfl
  | (_, _, _, _) :: l, ds, ⟨x, r, e, _, h⟩ => by subst e; simp [z18 h]
theorem qkw {c' : Cx} (hS : c.v.S = c'.v.S) (hA : c.A = c'.A) (hT : c.At = c'.At ∧ c.snap = c'.snap ∧ c.F = c'.F) {ts ms : List Item} {kill : List Nat} {n : Nat} {σ1 : St} {da db : List D} (hE : ∀ k, k < n → c.v.E k = c'.v.E k) (hE' : ∀ i, i < (da ++ db).length → c'.v.E (n + i) = (da ++ db).getD i .u)
  (hf : SF c (q16 ts ms kill n σ1) p w a) (ht : ItT c.snap c.A p w a ts da) (hm : ItM c.A p w ms db) : SF c' (q1u ts ms n (q16 ts ms kill n σ1)) p w a := by
 have hla := qsl ht
 rw [hA, hT.2.1] at ht
 rw [hA] at hm
 refine ⟨z0e (fun t x hx => ?_) ht (fun i hi => ?_), z03 (fun k e he => ?_) hm (fun i hi => ?_)⟩
 ·obtain ⟨v, h1, h2⟩ := hf.t t x hx
  have hq := (qu1 hx).2
  simp only [Bool.and_eq_true] at hq
  exact ⟨v, h1, AV.pd_upto hE hS hA hT x v hq.2.2.2 h2⟩
 ·rw [hE' i (by simp; omega)]
  simp [List.getD_eq_getElem?_getD, List.getElem?_append_left hi]
 ·have hq := (qu1 he).2
  simp only [Bool.and_eq_true] at hq
  exact q0g.upto hE hS hA hT hq.2 (hf.m k e he)
 ·rw [show n + ts.length + i = n + (ts.length + i) by omega, hE' (ts.length + i) (by simp; omega)]
  rw [← hla]
  simp [List.getD_eq_getElem?_getD, List.getElem?_append_right]
theorem qev {ts ms : List Item} {kill : List Nat} {n : Nat} (hf : SF c σ p w a) : SF c (q16 ts ms kill n σ) p w a := ⟨fun t x hx => hf.t t x (qu1 hx).1, fun k e he => hf.m k e (qu1 he).1⟩
def Cx.at (c : Cx) (S : Nat → List D → Option (List D)) (l : List D) : Cx := ⟨evl S l, c.A, c.F, c.lo, c.At, c.new, c.snap⟩
theorem getD_take {l : List D} {n k : Nat} (h : k < n) (m : List D) (hn : n ≤ l.length) : (l.take n ++ m).getD k .u = l.getD k .u := by
 simp only [List.getD_eq_getElem?_getD]
 rw [List.getElem?_append_left (by simp; omega), List.getElem?_take_of_lt h]
theorem zet (ro : Option Nat) (nn : Nat) {id : Nat} {ops : Array Oper} {T : TypeId} (hT : z9y Try.prog z ops.toList = some T) {Q : Exit → Act → World → Prop} (hq : ∀ a', a'.defers = d → Q (.panic (q83 T)) a' w) (hd : a.defers = d) (hz : a.tmps.size = z) :
  (Code.region id ops false).wpIn (FR ro) nn Try.prog Q a w := by
 obtain ⟨l⟩ := ops
 have hT : z9y Try.prog z l = some T := hT
 unfold z9y at hT
 split at hT
 ·rename_i o1 o2 o3 _
  split at hT
  ·rename_i T1 ps T2 a' b' a1 b1 e1 e2 e3 d1 d2
   split at hT
   ·rename_i hok
    injection hT with hT
    subst hT
    simp only [Bool.and_eq_true] at hok
    obtain ⟨k1, k2, k3, k4, k5, k6, k7, k8, k9, k10⟩ := hok
    obtain rfl := Nat.eq_of_beq_eq_true k1
    obtain rfl := Nat.eq_of_beq_eq_true k2
    obtain rfl := Nat.eq_of_beq_eq_true k3
    have k4 : ps = #[] := Array.eq_empty_of_size_eq_zero (Nat.eq_of_beq_eq_true k4)
    subst k4
    rw [Nat.blt_eq] at k5 k6
    obtain ⟨hbt, fs, hu⟩ : Try.prog.built T1 [] = some #[] ∧ ∃ fs, Try.prog.underlying T1 = some (.struct fs) := by
     unfold z4g at k7
     split at k7
     ·rename_i c fs hc hu
      exact ⟨by rw [hc, Array.eq_empty_of_size_eq_zero (Nat.eq_of_beq_eq_true k7)], fs, hu⟩
     ·cases k7
    refine wpIn_region ?_
    have : wpOpsIn (FR ro) nn Try.prog [o1, o2, o3].toArray Q (List.range' 0 3) = wpListIn (FR ro) nn Try.prog [o1, o2, o3].toArray Q [o1, o2, o3] := wpOpsIn_eq_wpListIn [o1, o2, o3] 0 (fun j => by simp)
    rw [show List.range (Array.mk [o1, o2, o3]).size = List.range' 0 3 by simp [List.range_eq_range']]
    show wpOpsIn (FR ro) nn Try.prog [o1, o2, o3].toArray Q (List.range' 0 3) a w
    rw [this]
    have hw : ∀ {o : Oper} {y : Nat → Option Bool}, o.guard.isNone = true → Region.wanted o y = true := fun {o} {y} h => by
     unfold Region.wanted
     cases hg : o.guard with
     | none => rfl
     | some g => rw [hg] at h; cases h
    simp only [wpListIn, hw k8, hw k9, hw k10, if_true]
    refine Oper.wp_round ro (by rw [e1]; simp) ?_
    unfold Oper.wp
    have r1 : (execOp a.eval o1).run Try.prog w = .ok (.value (.agg #[])) w := by
     have := run_build (P := Try.prog) w T1 #[] #[] hbt
     simp [execOp, e1, this]
    rw [r1]
    show Oper.wpIn _ _ _ _ (a.put o1.dst _) w _ _
    refine Oper.wp_round ro (by rw [e2]; simp) ?_
    unfold Oper.wp
    have v1 : (a.put o1.dst (.agg #[])).eval (.tmp a1) = .agg #[] := by
     rw [d1]
     simp [Act.put, Act.eval, hz, k5]
    have r2 : (execOp (a.put o1.dst (.agg #[])).eval o2).run Try.prog w = .ok (.value (.iface T1 (.agg #[]))) w := by
     rw [show (a.put o1.dst (.agg #[])).eval = fun y => (a.put o1.dst (.agg #[])).eval y from rfl]
     simp [execOp, e2, v1, Instr.makeInterface, run_underlying hu]
    rw [r2]
    show Oper.wpIn _ _ _ _ ((a.put o1.dst _).put o2.dst _) w _ _
    refine Oper.wp_round ro (by rw [e3]; simp) ?_
    unfold Oper.wp
    have v2 : ((a.put o1.dst (.agg #[])).put o2.dst (.iface T1 (.agg #[]))).eval (.tmp b1) = .iface T1 (.agg #[]) := by
     rw [d1, d2]
     simp [Act.put, Act.eval, hz, k6]
    have r3 : (execOp ((a.put o1.dst (.agg #[])).put o2.dst (.iface T1 (.agg #[]))).eval o3).run Try.prog w = .halt (.panic (.iface T1 (.agg #[]))) w := by
     simp [execOp, e3, v2, Instr.panic]
    rw [r3]
    exact hq _ (by rw [d1, d2]; exact hd)
   ·cases hT
  ·cases hT
 ·cases hT
set_option maxHeartbeats 1000000 in
theorem qhm (ro : Option Nat) (nn : Nat) (htb : jr tbl) (hfm : ∀ te, c.F.mx te ≤ flM tbl te) {ann : Ann} {R : List D → Prop} : ∀ (cd : Code) {ids : List Nat} {n : Nat} {σ : St} {k : Nat → ResD → St → Tree} {l : List D} {B : Nat → List D → Prop} {p : ql} {w : World} {a : Act} {Q : Exit → Act → World → Prop},
  (toT Try.prog tbl ann c.lo z cd ids n σ k).go (qe tbl) R l B → l.length = n → Bs c.A c.F w0 S0 p w → SF (c.at (qe tbl) l) σ p w a → a.defers = d → a.tmps.size = z → qdo tbl w0 S0 d Q → zh0 tbl R w0 S0 d Q →
  (∀ n' r σ' l' B' p' w' a', l'.length = n' → l'.take n = l → (∀ id ∈ ids, B' id = B id) → (k n' r σ').go (qe tbl) R l' B' → Bs c.A c.F w0 S0 p' w' → SF (c.at (qe tbl) l') σ' p' w' a' → a'.defers = d → a'.tmps.size = z → Q r.exit' a' w') → cd.wpIn (FR ro) nn Try.prog Q a w := by
 intro cd
 induction cd with
 | skip =>
  intro ids n σ k l B p w a Q h hl hb hf hd hz hQ hR hk
  exact wpIn_skip (hk n .normal σ l B p w a hl (by rw [← hl]; exact List.take_length) (fun _ _ => rfl) h hb hf hd hz)
 | region id ops dr =>
  intro ids n σ k l B p w a Q h hl hb hf hd hz hQ hR hk
  simp only [toT] at h
  split at h
  ·rename_i N σ1 h1
   obtain ⟨hN, hgo⟩ := qo6 h
   exact z94 ro nn (c := c.at (qe tbl) l) htb ⟨rfl, hfm⟩ h1 hN hb hf hd hz hQ fun a' w' ⟨p', hb', hf', hd', hz'⟩ => hk n .normal (prune ann.pub σ1) l B p' w' a' hl (by rw [← hl]; exact List.take_length) (fun _ _ => rfl) hgo hb' (z6m hf') hd' hz'
  ·split at h
   ·rename_i T hT
    split at h
    ·rename_i hok
     have hdr : dr = false := by
      cases dr with
      | false => rfl
      | true => simp at hok
     subst hdr
     have hok := (Bool.and_eq_true_iff.1 hok).1
     obtain ⟨e, he, hp⟩ := List.any_eq_true.1 hok
     have hp : e.1.pn = some T := by
      unfold zhj at hp
      split at hp
      ·rename_i T' hT'
       rw [hT', Nat.eq_of_beq_eq_true hp]
      ·cases hp
     exact zet ro nn hT (fun a' h1 => hR h e he T hp a' w h1 hb.but) hd hz
    ·exact h.elim
   ·exact h.elim
 | seq x y ihx ihy =>
  intro ids n σ k l B p w a Q h hl hb hf hd hz hQ hR hk
  simp only [toT] at h
  refine wpIn_seq (ihx h hl hb hf hd hz hQ hR fun n' r σ' l' B' p' w' a' hl' hpre hB hgo hb' hf' hd' hz' => ?_)
  cases r with
  | normal =>
   refine ihy hgo hl' hb' hf' hd' hz' hQ hR fun n2 r2 σ2 l2 B2 p2 w2 a2 hl2 hpre2 hB2 hgo2 hb2 hf2 hd2 hz2 => hk n2 r2 σ2 l2 B2 p2 w2 a2 hl2 ?_ (fun id hid => (hB2 id hid).trans (hB id hid)) hgo2 hb2 hf2 hd2 hz2
   have hnn : n ≤ n' := by
    have := congrArg List.length hpre
    simp at this
    omega
   rw [← hpre, ← hpre2, List.take_take, Nat.min_eq_left hnn]
  | ret => exact hk n' .ret σ' l' B' p' w' a' hl' hpre hB hgo hb' hf' hd' hz'
  | exit i => exact hk n' (.exit i) σ' l' B' p' w' a' hl' hpre hB hgo hb' hf' hd' hz'
 | cond b x y ihx ihy =>
  intro ids n σ k l B p w a Q h hl hb hf hd hz hQ hR hk
  simp only [toT] at h
  split at h
  ·rename_i hc
   obtain ⟨u, e1, e2⟩ := q1e (qq hf rfl hc)
   obtain rfl : true = u := by have : D.b true = D.b u := e1; injection this
   exact wpIn_cond_true e2 (ihx h hl hb hf hd hz hQ hR hk)
  ·rename_i hc
   obtain ⟨u, e1, e2⟩ := q1e (qq hf rfl hc)
   obtain rfl : false = u := by have : D.b false = D.b u := e1; injection this
   exact wpIn_cond_false e2 (ihy h hl hb hf hd hz hQ hR hk)
  ·rename_i q _ _ _ _ hc
   obtain ⟨u, e1, e2⟩ := q1e (qq hf rfl hc)
   have e1' : (q.ev (evl (qe tbl) l)) = .b u := e1
   cases u with
   | true => exact wpIn_cond_true e2 (ihx (h.1 (by rw [e1']; rfl)) hl hb hf hd hz hQ hR hk)
   | false => exact wpIn_cond_false e2 (ihy (h.2 (by rw [e1']; rfl)) hl hb hf hd hz hQ hR hk)
  ·rename_i q neg hc
   obtain ⟨u, e1, e2⟩ := qq hf rfl hc
   cases u with
   | true => exact wpIn_cond_true e1 (ihx (h.1 (fun hn => e2 (by rw [hn]; rfl))) hl hb hf hd hz hQ hR hk)
   | false => exact wpIn_cond_false e1 (ihy (h.2 (fun hn => e2 (by rw [hn]; rfl))) hl hb hf hd hz hQ hR hk)
  ·exact h.elim
 | block id cd ih =>
  intro ids n σ k l B p w a Q h hl hb hf hd hz hQ hR hk
  simp only [toT] at h
  refine wpIn_block (ih h hl hb hf hd hz hQ hR fun n' r σ' l' B' p' w' a' hl' hpre hB hgo hb' hf' hd' hz' => ?_)
  cases r with
  | normal => exact hk n' .normal σ' l' B' p' w' a' hl' hpre hB hgo hb' hf' hd' hz'
  | ret => exact hk n' .ret σ' l' B' p' w' a' hl' hpre hB hgo hb' hf' hd' hz'
  | exit i =>
   show Exit.inBlock id Q (.exit i) a' w'
   simp only at hgo
   by_cases hi : i = id
   ·rw [if_pos (by rw [hi]; exact Nat.beq_refl id)] at hgo
    simp only [Exit.inBlock, if_pos hi]
    exact hk n' .normal σ' l' B' p' w' a' hl' hpre hB hgo hb' hf' hd' hz'
   ·rw [if_neg (fun e => hi (Nat.eq_of_beq_eq_true e))] at hgo
    simp only [Exit.inBlock, if_neg hi]
    exact hk n' (.exit i) σ' l' B' p' w' a' hl' hpre hB hgo hb' hf' hd' hz'
 | exit id =>
  intro ids n σ k l B p w a Q h hl hb hf hd hz hQ hR hk
  exact wpIn_exit (hk n (.exit id) σ l B p w a hl (by rw [← hl]; exact List.take_length) (fun _ _ => rfl) h hb hf hd hz)
 | ret =>
  intro ids n σ k l B p w a Q h hl hb hf hd hz hQ hR hk
  exact wpIn_ret (hk n .ret σ l B p w a hl (by rw [← hl]; exact List.take_length) (fun _ _ => rfl) h hb hf hd hz)
 | label s =>
  intro ids n σ k l B p w a Q h hl hb hf hd hz hQ hR hk
  exact wpIn_label (hk n .normal σ l B p w a hl (by rw [← hl]; exact List.take_length) (fun _ _ => rfl) h hb hf hd hz)
 | scope cd ih =>
  intro ids n σ k l B p w a Q h hl hb hf hd hz hQ hR hk
  simp only [toT] at h
  refine qd4 (ih h hl hb hf hd hz hQ hR fun n' r σ' l' B' p' w' a' hl' hpre hB hgo hb' hf' hd' hz' => ?_)
  have := hk n' r σ' l' B' p' w' a' hl' hpre hB hgo hb' hf' hd' hz'
  cases r <;> exact this
 | loop cd ih =>
  intro ids n σ k l B p w a Q h hl hb0 hf0 hd hz hQ hR hk
  simp only [toT] at h
  split at h
  ·rename_i hh hann
   split at h
   ·exact h.elim
   ·rename_i hids
    have hb := hb0.un (qb4 hh.kill σ)
    have hf := SF.un (c := c.at (qe tbl) l) (q := qb4 hh.kill σ) hb0.inj hb0.pa hf0
    change (z3g _ (heads hh (σ.un (qb4 hh.kill σ))) hh.kill n (σ.un (qb4 hh.kill σ)) _ k).go _ _ _ _ at h
    generalize heads hh (σ.un (qb4 hh.kill σ)) = it at h
    generalize σ.un (qb4 hh.kill σ) = σ at h hf
    obtain ⟨ts, ms⟩ := it
    unfold z3g at h
    simp only at h
    split at h
    ·rename_i σ1 va vb hcv
     unfold conv at hcv
     split at hcv
     ·rename_i hrb
      split at hcv
      ·rename_i va' vb' hva hvb
       simp only [Option.some.injEq, Prod.mk.injEq] at hcv
       obtain ⟨rfl, rfl, rfl⟩ := hcv
       obtain ⟨I, μ, hI, hbody⟩ := h
       obtain ⟨p1, hb1, hf1⟩ := qgg (c := c.at (qe tbl) l) hrb hb hf
       -- the rounds
       have key : ∀ (m : Nat) (da db : List D) (l2 : List D) (p : ql) (w : World) (a : Act), n ≤ l2.length → l2.take n = l → I (da ++ db) → μ (da ++ db) < m → Bs c.A c.F w0 S0 p w → SF (c.at (qe tbl) l2) (q16 ts ms hh.kill n (σ.ren (qia σ ts ms))) p w a → ItT c.snap c.A p w a ts da → ItM c.A p w ms db → a.defers = d → a.tmps.size = z →
         Code.roundsIn (FR ro) nn Try.prog cd Q m a w := by
        intro m
        induction m with
        | zero => intro da db l2 p w a _ _ _ hm; omega
        | succ m ihm =>
         intro da db l2 p w a hn2 hl2 hIs hm hb hf hta htb' hd hz
         rw [roundsIn_succ]
         have hlen : (da ++ db).length = (va' ++ vb').length := by
          rw [List.length_append, List.length_append, qsl hta, z18 htb', qfb hva, qfb hvb]
         have hgo := hbody (da ++ db) hlen hIs
         have hln : (l.take n ++ (da ++ db)).length = n + (va' ++ vb').length := by
          rw [List.length_append, hlen]
          simp [hl]
         have hlt : l.take n = l := by rw [← hl]; exact List.take_length
         have hhead : SF (c.at (qe tbl) (l.take n ++ (da ++ db))) (q1u ts ms n (q16 ts ms hh.kill n (σ.ren (qia σ ts ms)))) p w a :=
          qkw (c := c.at (qe tbl) l2) (c' := c.at (qe tbl) (l.take n ++ (da ++ db))) rfl rfl ⟨rfl, rfl, rfl⟩ (fun k hk => by
           show l2.getD k .u = (l.take n ++ (da ++ db)).getD k .u
           rw [getD_take hk _ (by omega), ← hl2]
           simp only [List.getD_eq_getElem?_getD]
           rw [List.getElem?_take_of_lt hk]) (fun i hi => by
           show (l.take n ++ (da ++ db)).getD (n + i) .u = _
           simp only [List.getD_eq_getElem?_getD]
           rw [List.getElem?_append_right (by simp; omega)]
           congr 2
           simp
           omega) hf hta htb'
         refine ih hgo hln hb hhead hd hz hQ hR fun n' r σ' l' B' p' w' a' hl' hpre hB hgo' hb' hf' hd' hz' => ?_
         have hpre' : l'.take n = l := by
          have h1 : (l'.take (n + (va' ++ vb').length)).take n = (l.take n ++ (da ++ db)).take n := by rw [hpre]
          rw [List.take_take, Nat.min_eq_left (Nat.le_add_right _ _)] at h1
          rw [h1, List.take_append_of_le_length (by simp; omega), List.take_take, Nat.min_self, hlt]
         have hBo : ∀ id ∈ ids, B' id = B id := fun id hid => by
          rw [hB id (List.mem_cons_of_mem _ hid)]
          unfold q3l
          rw [if_neg]
          intro e
          subst e
          exact hids (zr.2 hid)
         cases r with
         | ret => exact hk n' .ret σ' l' B' p' w' a' hl' hpre' hBo hgo' hb' hf' hd' hz'
         | exit i => exact hk n' (.exit i) σ' l' B' p' w' a' hl' hpre' hBo hgo' hb' hf' hd' hz'
         | normal =>
          simp only at hgo'
          have hf'' := SF.un (c := c.at (qe tbl) l') (q := qb4 hh.kill (qeo ts ms σ')) hb'.inj hb'.pa (qxw ts ms hf')
          have hb'' := hb'.un (qb4 hh.kill (qeo ts ms σ'))
          change SF _ ((qeo ts ms σ').drop hh.kill) _ _ _ at hf''
          split at hgo'
          ·rename_i σ2 wa wb hcv2
           split at hgo'
           ·rename_i hcov
            unfold conv at hcv2
            split at hcv2
            ·rename_i hrb2
             split at hcv2
             ·rename_i wa' wb' hwa hwb
              simp only [Option.some.injEq, Prod.mk.injEq] at hcv2
              obtain ⟨rfl, rfl, rfl⟩ := hcv2
              obtain ⟨p2, hb2, hf2⟩ := qgg (c := c.at (qe tbl) l') hrb2 hb'' hf''
              have hbk : B' (q26 cd - 1) (X.evs (evl (qe tbl) l') (wa' ++ wb')) := hgo'
              rw [hB _ List.mem_cons_self] at hbk
              unfold q3l at hbk
              rw [if_pos rfl, qa5] at hbk
              have hnl : n ≤ l'.length := by
               have := congrArg List.length hpre'
               simp at this
               omega
              show Exit.then (Code.roundsIn (FR ro) nn Try.prog cd Q m) Q .normal a' w'
              exact ihm (X.evs (evl (qe tbl) l') wa') (X.evs (evl (qe tbl) l') wb') l' p2 w' a' hnl hpre' hbk.1 (by have := hbk.2; omega) hb2 (q1q hcov hf2) (qwg hf2 hwa) (qvr hf2 hwb) hd' hz'
             ·cases hcv2
            ·cases hcv2
           ·exact hgo'.elim
          ·exact hgo'.2.elim
       rw [qa5] at hI
       exact wpIn_loop_rounds _ (key (μ (X.evs (evl (qe tbl) l) va' ++ X.evs (evl (qe tbl) l) vb') + 1) _ _ l p1 w a (by omega) (by rw [← hl]; exact List.take_length) hI (Nat.lt_succ_self _) hb1 (qev hf1) (qwg hf1 hva) (qvr hf1 hvb) hd hz)
      ·cases hcv
     ·cases hcv
    ·exact h.2.elim
  ·have key : ∀ (m : Nat) {n1 : Nat} {σ : St} {l1 : List D} {B1 : Nat → List D → Prop} {p : ql} {w : World} {a : Act}, (qrl (fun n' σ0 => toT Try.prog tbl ann c.lo z cd ids n' σ0) k m n1 σ).go (qe tbl) R l1 B1 → l1.length = n1 → n ≤ n1 → l1.take n = l → (∀ id ∈ ids, B1 id = B id) → Bs c.A c.F w0 S0 p w → SF (c.at (qe tbl) l1) σ p w a → a.defers = d → a.tmps.size = z → Code.roundsIn (FR ro) nn Try.prog cd Q m a w := by
    intro m
    induction m with
    | zero => intro n1 σ l1 B1 p w a h; exact h.elim
    | succ m ihm =>
     intro n1 σ l1 B1 p w a h hl1 hn1 hp1 hB1 hb hf hd hz
     rw [roundsIn_succ]
     refine ih h hl1 hb hf hd hz hQ hR fun n' r σ' l' B' p' w' a' hl' hpre hB hgo' hb' hf' hd' hz' => ?_
     have hpre' : l'.take n = l := by
      rw [← hp1, ← hpre, List.take_take, Nat.min_eq_left hn1]
     have hBo : ∀ id ∈ ids, B' id = B id := fun id hid => (hB id hid).trans (hB1 id hid)
     have hle : n ≤ n' := by
      have h1 := congrArg List.length hpre
      rw [List.length_take, hl1] at h1
      omega
     cases r with
     | ret => exact hk n' .ret σ' l' B' p' w' a' hl' hpre' hBo hgo' hb' hf' hd' hz'
     | exit i => exact hk n' (.exit i) σ' l' B' p' w' a' hl' hpre' hBo hgo' hb' hf' hd' hz'
     | normal => exact ihm hgo' hl' hle hpre' hBo hb' hf' hd' hz'
   exact wpIn_loop_rounds _ (key 128 h hl (Nat.le_refl _) (by rw [← hl]; exact List.take_length) (fun _ _ => rfl) hb0 hf0 hd hz)
 | _ => intro ids n σ k l B p w a Q h; exact h.elim
end
end
section
abbrev Rs := List (ResultVar × Ty × Bool)
def zi6 (σ : St) : ResultVar → List (Nat × Nat)
 | .tmp s => (match lkA σ.t s with
  | some (.v _ _ own _) => own
  | _ => [])
 | .cell s _ => match lkA σ.t s with
  | some (.ref k _ _ _) => (match lkA σ.m k with
   | some e => e.own
   | none => [])
  | _ => []
def qb7 (σ : St) : Rs → Nat → List (Nat × Nat)
 | [], _ => []
 | (rv, t, own) :: l, n => (if own then pairUp (zi6 σ rv) (qu n t) else []) ++ qb7 σ l (n + 1)
def q92 (σ : St) : List (Nat × Ar) → List (Nat × Nat)
  | [] => []
  | (i, .ref t o) :: l => (match lkA σ.m i with
    | some e => pairUp e.own (qg8 o i t)
    | none => []) ++ q92 σ l
  | (i, .mref t) :: l => pairUp (zia σ i) (qu i t) ++ q92 σ l
  | _ :: l => q92 σ l
def q6y : List (Nat × Ar) → List Nat
  | [] => []
  | (i, .ref _ _) :: l => i * 16 :: q6y l
  | _ :: l => q6y l
mutual
/-- The value holds a pointer to the variable. -/
def AV.has (i : Nat) : AV → Bool
 | .ref k _ _ _ => Nat.beq k i
 | .fn _ l => quk i l
 | .bx _ _ a => AV.has i a
 | .fr _ a => AV.has i a
 | .sn _ a => AV.has i a
 | _ => false
def quk (i : Nat) : List AV → Bool
 | [] => false
 | a :: l => AV.has i a || quk i l
end
mutual
theorem AV.has_ok {c : Cx} {p : ql} {w : World} {i : Nat} : ∀ (a : AV) {v : Value}, a.has i = true → a.pd c p w v → ∃ g, p (i * 16) = some g ∧ c.At i g
 | .ref k _ _ _, v, h, hx => by
  have h := Nat.eq_of_beq_eq_true h
  subst h
  obtain ⟨g, hg, -, hat⟩ := hx
  exact ⟨g, hg, hat⟩
 | .fn _ l, v, h, hx => by
  obtain ⟨vs, -, hl⟩ := hx
  exact qwp l (by simpa [AV.has] using h) hl
 | .bx _ _ a, v, h, hx => by
  obtain ⟨g, u, -, -, -, hu⟩ := hx
  exact AV.has_ok a (by simpa [AV.has] using h) hu
 | .fr _ a, v, h, hx => by
  obtain ⟨g, u, -, -, -, -, hu⟩ := hx
  exact AV.has_ok a (by simpa [AV.has] using h) hu
 | .ff _ _ _ _ _ _ _ _, v, h, _ => by simp [AV.has] at h
 | .sn _ a, v, h, hx => AV.has_ok a (by simpa [AV.has] using h) hx.2
 | .any, v, h, _ => by simp [AV.has] at h
 | .undef, v, h, _ => by simp [AV.has] at h
 | .v _ _ _ _, v, h, _ => by simp [AV.has] at h
 | .nilS, v, h, _ => by simp [AV.has] at h
 | .nilP, v, h, _ => by simp [AV.has] at h
 | .rd _ _ _ _, v, h, _ => by simp [AV.has] at h
 | .tup _, v, h, _ => by simp [AV.has] at h
 | .gd _ _, v, h, _ => by simp [AV.has] at h
 | .nb _ _, v, h, _ => by simp [AV.has] at h
 | .pt _ _ _ _, v, h, _ => by simp [AV.has] at h
 | .ar _ _ _, v, h, _ => by simp [AV.has] at h
 | .lv _ _, v, h, _ => by simp [AV.has] at h
 | .ax _ _ _ _, v, h, _ => by simp [AV.has] at h
theorem qwp {c : Cx} {p : ql} {w : World} {i : Nat} : ∀ (l : List AV) {vs : List Value}, quk i l = true → pds c p w l vs → ∃ g, p (i * 16) = some g ∧ c.At i g
 | [], vs, h, _ => by simp [quk] at h
 | a :: l, vs, h, hx => by
  obtain ⟨v, r, rfl, h1, h2⟩ := hx
  simp only [quk, Bool.or_eq_true] at h
  rcases h with h | h
  ·exact AV.has_ok a h h1
  ·exact qwp l h h2
end
def q36 (σ : St) : List ResultVar → List Nat
 | [] => []
 | .cell s _ :: l => (match lkA σ.t s with
  | some (.ref k _ _ _) => k * 16 :: q36 σ l
  | _ => q36 σ l)
 | _ :: l => q36 σ l
def qu5 (σ : St) (n : Nat) (rv : ResultVar) (t : Ty) (own : Bool) : Option X := match rv with
 | .tmp s => itT σ (s, t, if own then qu n t else [], [])
 | .cell s T => match lkA σ.t s with
  | some (.ref k [] 0 t') => if qd8 T t && Ty.beq t' t then itM σ (k, t, if own then qu n t else [], []) else none
  | _ => none
def z7b (σ : St) : Rs → Nat → Option (List X)
  | [], _ => some []
  | (rv, t, own) :: l, n => match qu5 σ n rv t own, z7b σ l (n + 1) with
    | some x, some xs => some (x :: xs)
    | _, _ => none
def zir (σ : St) (n i : Nat) : Bool := (List.range n).any fun t => match lkA σ.t t with
 | some a => a.has i
 | none => false
def qsi (σ : St) (n : Nat) : List (Nat × Ar) → Option (List X)
  | [] => some []
  | (i, .ref t o) :: l => (match itM σ (i, t, qg8 o i t, []), qsi σ n l with
    | some x, some xs => if zir σ n i then some (x :: xs) else none
    | _, _ => none)
  | (i, .mref t) :: l => (match itT σ (i, t, qu i t, [SNK]), qsi σ n l with
    | some x, some xs => if Nat.blt i n && (Nat.blt i VB && qew t) then some (x :: xs) else none
    | _, _ => none)
  | _ :: l => qsi σ n l
def fin (ct : Ct) (results : List ResultVar) (σ : St) : Option (List X) :=
 let z := results.zip ct.rs
 let rr := qb7 σ z ct.ar.length ++ q92 σ ct.all
 let keep := rr.map (·.1) ++ (q6y ct.all ++ q36 σ results)
 let σ2 := (σ.un fun y => !zh keep y).ren rr
 if reB rr && Nat.beq results.length ct.rs.length then match z7b σ2 z ct.ar.length, qsi σ2 ct.ar.length ct.all with
  | some a, some b => some (a ++ b)
  | _, _ => none
 else none
def qa6 (ct : Ct) (results : List ResultVar) : Nat → ResD → St → Tree := fun _ r σ => match r with
 | .exit i => .bad (8000000 + i)
 | _ => match fin ct results σ with
  | some xs => .leaf xs
  | none => .bad 9000000
def q4r : List Ar → Nat
 | [] => 0
 | .val _ :: l => q4r l + 1
 | .ref _ _ :: l => q4r l + 1
 | .rref _ :: l => q4r l + 1
 | .own _ :: l => q4r l + 1
 | .mref _ :: l => q4r l + 1
 | _ :: l => q4r l
def Ct.ars (ct : Ct) : List Ar := ct.ar ++ ct.vr.map (·.2)
def qez : Nat → List (Nat × Ar) → List (Nat × Nat × Ar)
 | _, [] => []
 | j, (i, r) :: l => (i, j, r) :: qez (j + q4r [r]) l
def z0b (tb : List (Nat × Nat × Ar)) : Nat → Nat → AV
 | 0, q => .sn q .any
 | f + 1, q => .sn q (match tb[q]? with
  | some (_, j, .val t) => .v (.tok j) t [] []
  | some (i, _, .ref t _) => .ref i [] 0 t
  | some (_, j, .rref t) => .rd (.tok j) t [] none
  | some (i, j, .own t) => .v (.tok j) t (qu i t) []
  | some (i, j, .mref t) => .sn q (.v (.tok j) t (qu i t) [])
  | some (_, _, .nils) => .nilS
  | some (_, _, .nilp) => .nilP
  | some (_, _, .fn g ks) => .fn g (ks.map (z0b tb f))
  | some (_, _, .cell T k) => .fr T (z0b tb f k)
  | none => .any)
def z39 : AV → AV
 | .sn q (.rd x t dep wr) => .sn q (.rd x t dep wr)
 | .sn _ a => a
 | a => a
def zbf (tb : List (Nat × Nat × Ar)) : Nat → Nat → List (Nat × AV)
 | _, 0 => []
 | q, m + 1 => (q, z39 (z0b tb 6 q)) :: zbf tb (q + 1) m
def z75 : List (Nat × Nat × Ar) → List (Nat × Ent)
  | [] => []
  | (i, j, .ref t o) :: l => (i, ⟨.tok j, t, qg8 o i t, []⟩) :: z75 l
  | _ :: l => z75 l
def qn9 (ct : Ct) : St := ⟨zbf (qez 0 ct.all) 0 ct.ar.length, z75 (qez 0 ct.all)⟩
def qa9 (P : Program) (tbl : Tbl) (ann : Ann) (ct : Ct) (fn : Func) (cd : Code) : Tree :=
 toT P tbl ann ct.ar.length fn.ntmps cd [] (q4r ct.ars) (qn9 ct) (qa6 ct fn.results.toList)
def WfA : List Ar → List D → Prop
 | [], ds => ds = []
 | .val t :: l, ds => ∃ d r, ds = d :: r ∧ Wf d t ∧ WfA l r
 | .ref t _ :: l, ds => ∃ d r, ds = d :: r ∧ Wf d t ∧ WfA l r
 | .rref t :: l, ds => ∃ d r, ds = d :: r ∧ Wf d t ∧ WfA l r
 | .own t :: l, ds => ∃ d r, ds = d :: r ∧ Wf d t ∧ WfA l r
 | .mref t :: l, ds => ∃ d r, ds = d :: r ∧ Wf d t ∧ WfA l r
 | _ :: l, ds => WfA l ds
section
variable {A : Nat → Prop} {F : Flr} {p : ql} {w : World}
theorem yb.wf {V : List Value} : ∀ {all : List (Nat × Ar)} {vs : List Value} {ds : List D}, yb V A p w all vs ds → WfA (all.map (·.2)) ds ∧ ds.length = q4r (all.map (·.2)) ∧ vs.length = all.length
  | [], vs, ds, h => by
    obtain ⟨rfl, rfl⟩ := h
    exact ⟨rfl, rfl, rfl⟩
  | (_, .val t) :: l, vs, ds, h => by
    obtain ⟨v, r, d, ds', rfl, rfl, ⟨cs, hp, hr⟩, h⟩ := h
    obtain ⟨h1, h2, h3⟩ := yb.wf h
    exact ⟨⟨d, ds', rfl, ⟨w, _, cs, hr⟩, h1⟩, by simp [q4r, h2], by simp [h3]⟩
  | (i, .ref t o) :: l, vs, ds, h => by
    obtain ⟨v, r, d, ds', rfl, rfl, ⟨g, cs, T, -, -, -, -, hc⟩, h⟩ := h
    obtain ⟨h1, h2, h3⟩ := yb.wf h
    exact ⟨⟨d, ds', rfl, ⟨w, _, _, hc.rd (dep' := (qg8 o i t).map (·.2)) (fun x hx => by cases hx) (fun x hx => hx)⟩, h1⟩, by simp [q4r, h2], by simp [h3]⟩
  | (_, .rref t) :: l, vs, ds, h => by
    obtain ⟨v, r, d, ds', rfl, rfl, ⟨b, o, cs, -, -, -, -, hr⟩, h⟩ := h
    obtain ⟨h1, h2, h3⟩ := yb.wf h
    exact ⟨⟨d, ds', rfl, ⟨w, _, cs, hr⟩, h1⟩, by simp [q4r, h2], by simp [h3]⟩
  | (i, .own t) :: l, vs, ds, h => by
    obtain ⟨v, r, d, ds', rfl, rfl, ⟨cs, -, hc⟩, h⟩ := h
    obtain ⟨h1, h2, h3⟩ := yb.wf h
    exact ⟨⟨d, ds', rfl, ⟨w, _, _, hc.rd (dep' := (qu i t).map (·.2)) (fun x hx => by cases hx) (fun x hx => hx)⟩, h1⟩, by simp [q4r, h2], by simp [h3]⟩
  | (i, .mref t) :: l, vs, ds, h => by
    obtain ⟨v, r, d, ds', rfl, rfl, ⟨cs, -, hc⟩, h⟩ := h
    obtain ⟨h1, h2, h3⟩ := yb.wf h
    exact ⟨⟨d, ds', rfl, ⟨w, _, _, hc.rd (dep' := (qu i t).map (·.2)) (fun x hx => by cases hx) (fun x hx => hx)⟩, h1⟩, by simp [q4r, h2], by simp [h3]⟩
  | (_, .nils) :: l, vs, ds, h => by
    obtain ⟨r, rfl, h⟩ := h
    obtain ⟨h1, h2, h3⟩ := yb.wf h
    exact ⟨h1, h2, by simp [h3]⟩
  | (_, .nilp) :: l, vs, ds, h => by
    obtain ⟨r, rfl, h⟩ := h
    obtain ⟨h1, h2, h3⟩ := yb.wf h
    exact ⟨h1, h2, by simp [h3]⟩
  | (_, .fn f ks) :: l, vs, ds, h => by
    obtain ⟨r, rfl, h⟩ := h
    obtain ⟨h1, h2, h3⟩ := yb.wf h
    exact ⟨h1, h2, by simp [h3]⟩
  | (_, .cell T j) :: l, vs, ds, h => by
    obtain ⟨b, r, rfl, -, -, -, h⟩ := h
    obtain ⟨h1, h2, h3⟩ := yb.wf h
    exact ⟨h1, h2, by simp [h3]⟩
theorem qrz : ∀ (i : Nat) (l : List Ar), (idx i l).map (·.2) = l
 | _, [] => rfl
 | i, a :: l => by simp [idx, qrz (i + 1) l]
theorem all_map (ct : Ct) : ct.all.map (·.2) = ct.ars := by simp [Ct.all, Ct.ars, qrz]
theorem qro : ∀ {i n : Nat} {l : List Ar} {e : Nat × Ar}, e ∈ idx i l → i + l.length = n → i ≤ e.1 ∧ e.1 < n
 | _, _, [], e, h, _ => by cases h
 | i, n, a :: l, e, h, hn => by
  rcases List.mem_cons.1 h with rfl | h
  ·simp at hn; exact ⟨Nat.le_refl _, by simp; omega⟩
  ·obtain ⟨h1, h2⟩ := qro (n := n) h (by simp at hn; omega)
   exact ⟨by omega, h2⟩
theorem qt1 {ct : Ct} {e : Nat × Ar} (h : e ∈ ct.all) : e.1 < ct.ar.length ∨ VB ≤ e.1 := by
 rcases List.mem_append.1 h with h | h
 ·exact .inl (qro (n := ct.ar.length) h (by simp)).2
 ·exact .inr (qro h rfl).1
def za6 (V : List Value) (A : Nat → Prop) (p : ql) (w : World) (i : Nat) : Ar → Value → D → Prop
 | .val t, v, d => ∃ cs, yj t cs v ∧ Rd w (FFD A p []) d t cs
 | .ref t o, v, d => ∃ g cs T, p (i * 16) = some g ∧ v = .pointer (some ⟨g, 0, none⟩) ∧ w.heap[g]? = some (.cells cs T (0, 0)) ∧ qp T = some t ∧ Con A p w d t (qg8 o i t) [] cs.toList
 | .rref t, v, d => ∃ b o cs, v = .pointer (some ⟨b, o, none⟩) ∧ FFD A p [] b ∧ w.rangeAt b o cs ∧ 0 < cs.length ∧ Rd w (FFD A p []) d t cs
 | .own t, v, d => ∃ cs, yj t cs v ∧ Con A p w d t (qu i t) [] cs
 | .mref t, v, d => ∃ cs, yj t cs v ∧ Con A p w d t (qu i t) [] cs
 | .nils, v, _ => v = .slice none 0 0
 | .nilp, v, _ => v = .pointer none
 | .fn f ks, v, _ => v = .func (.func f) #[] (ks.map fun k => V.getD k undef).toArray
 | .cell T j, v, _ => ∃ b, v = .pointer (some ⟨b, 0, none⟩) ∧ A b ∧ q4n p b ∧ w.heap[b]? = some (.cells #[V.getD j undef] T (0, 0))
theorem qmp {V : List Value} : ∀ {all : List (Nat × Ar)} {j0 : Nat} {vs : List Value} {ds : List D} {q i j : Nat} {r : Ar}, yb V A p w all vs ds → (qez j0 all)[q]? = some (i, j, r) → ∃ v, vs[q]? = some v ∧ j0 ≤ j ∧ za6 V A p w i r v (ds.getD (j - j0) .u)
  | [], j0, vs, ds, q, i, j, r, h, hq => by simp [qez] at hq
  | (i', r') :: l, j0, vs, ds, q, i, j, r, h, hq => by
    cases q with
    | zero =>
      simp only [qez, List.getElem?_cons_zero, Option.some.injEq, Prod.mk.injEq] at hq
      obtain ⟨rfl, rfl, rfl⟩ := hq
      cases r' with
      | val t => obtain ⟨v, r, d, ds', rfl, rfl, h1, -⟩ := h; exact ⟨v, rfl, Nat.le_refl _, by rw [Nat.sub_self]; exact h1⟩
      | ref t o => obtain ⟨v, r, d, ds', rfl, rfl, h1, -⟩ := h; exact ⟨v, rfl, Nat.le_refl _, by rw [Nat.sub_self]; exact h1⟩
      | rref t => obtain ⟨v, r, d, ds', rfl, rfl, h1, -⟩ := h; exact ⟨v, rfl, Nat.le_refl _, by rw [Nat.sub_self]; exact h1⟩
      | own t => obtain ⟨v, r, d, ds', rfl, rfl, h1, -⟩ := h; exact ⟨v, rfl, Nat.le_refl _, by rw [Nat.sub_self]; exact h1⟩
      | mref t => obtain ⟨v, r, d, ds', rfl, rfl, h1, -⟩ := h; exact ⟨v, rfl, Nat.le_refl _, by rw [Nat.sub_self]; exact h1⟩
      | nils => obtain ⟨r, rfl, -⟩ := h; exact ⟨_, rfl, Nat.le_refl _, rfl⟩
      | nilp => obtain ⟨r, rfl, -⟩ := h; exact ⟨_, rfl, Nat.le_refl _, rfl⟩
      | fn f ks => obtain ⟨r, rfl, -⟩ := h; exact ⟨_, rfl, Nat.le_refl _, rfl⟩
      | cell T k => obtain ⟨b, r, rfl, h1, h2, h3, -⟩ := h; exact ⟨_, rfl, Nat.le_refl _, ⟨b, rfl, h1, h2, h3⟩⟩
    | succ q =>
      simp only [qez, List.getElem?_cons_succ] at hq
      have one : ∀ {v : Value} {vs' : List Value} {d : D} {ds' : List D}, yb V A p w l vs' ds' → (qez (j0 + 1) l)[q]? = some (i, j, r) → ∃ u, (v :: vs')[q + 1]? = some u ∧ j0 ≤ j ∧ za6 V A p w i r u ((d :: ds').getD (j - j0) .u) := fun h hq => by
        obtain ⟨u, h1, h2, h3⟩ := qmp h hq
        refine ⟨u, by simpa using h1, by omega, ?_⟩
        rw [show j - j0 = (j - (j0 + 1)) + 1 by omega]
        simpa using h3
      have non : ∀ {v : Value} {vs' : List Value}, yb V A p w l vs' ds → (qez j0 l)[q]? = some (i, j, r) → ∃ u, (v :: vs')[q + 1]? = some u ∧ j0 ≤ j ∧ za6 V A p w i r u (ds.getD (j - j0) .u) := fun h hq => by
        obtain ⟨u, h1, h2, h3⟩ := qmp h hq
        exact ⟨u, by simpa using h1, h2, h3⟩
      cases r' with
      | val t => obtain ⟨v, r, d, ds', rfl, rfl, -, h⟩ := h; exact one h hq
      | ref t o => obtain ⟨v, r, d, ds', rfl, rfl, -, h⟩ := h; exact one h hq
      | rref t => obtain ⟨v, r, d, ds', rfl, rfl, -, h⟩ := h; exact one h hq
      | own t => obtain ⟨v, r, d, ds', rfl, rfl, -, h⟩ := h; exact one h hq
      | mref t => obtain ⟨v, r, d, ds', rfl, rfl, -, h⟩ := h; exact one h hq
      | nils => obtain ⟨r, rfl, h⟩ := h; exact non h hq
      | nilp => obtain ⟨r, rfl, h⟩ := h; exact non h hq
      | fn f ks => obtain ⟨r, rfl, h⟩ := h; exact non h hq
      | cell T k => obtain ⟨b, r, rfl, -, -, -, h⟩ := h; exact non h hq
section
variable {c : Cx} {n0 : Nat} {V : List Value} {all : List (Nat × Ar)} {ds : List D}
theorem qnu (hA : c.A = A) (hAt : c.At = fun k g => (k < n0 ∨ VB ≤ k) → p (k * 16) = some g) (hsn : c.snap = fun q => V.getD q undef) (h : yb V A p w all V ds) (hE : ∀ k, c.v.E k = ds.getD k .u) : ∀ (f q : Nat), (z0b (qez 0 all) f q).pd c p w (V.getD q undef)
 | 0, q => ⟨by rw [hsn], trivial⟩
 | f + 1, q => by
  refine ⟨by rw [hsn], ?_⟩
  have key : ∀ {i j : Nat} {r : Ar}, (qez 0 all)[q]? = some (i, j, r) → za6 V A p w i r (V.getD q undef) (c.v.E j) := fun hq => by
   obtain ⟨v, h1, -, h3⟩ := qmp h hq
   rw [List.getD_eq_getElem?_getD, h1, hE]
   exact h3
  split
  ·rename_i i j t hq
   obtain ⟨cs, hp, hr⟩ := key hq
   refine ⟨cs, hp, ?_⟩
   rw [hA]
   exact Con.of_rd hr
  ·rename_i i j t hq
   obtain ⟨g, cs, T, hg, e, -⟩ := key hq
   exact ⟨g, hg, e, by rw [hAt]; exact fun _ => hg⟩
  ·rename_i i j t hq
   obtain ⟨b, o, cs, e, hfb, hrg, h0, hr⟩ := key hq
   refine ⟨b, o, cs, e, by rw [hA]; exact hfb, hrg, h0, ?_, trivial⟩
   show Rd w (FFD c.A p []) (c.v.E j) t cs
   rw [hA]
   exact hr
  ·rename_i i j t hq
   obtain ⟨cs, hp, hr⟩ := key hq
   refine ⟨cs, hp, ?_⟩
   show Con c.A p w (c.v.E j) t (qu i t) [] cs
   rw [hA]
   exact hr
  ·rename_i i j t hq
   obtain ⟨cs, hp, hr⟩ := key hq
   refine ⟨by rw [hsn], cs, hp, ?_⟩
   show Con c.A p w (c.v.E j) t (qu i t) [] cs
   rw [hA]
   exact hr
  ·rename_i i j hq
   exact key hq
  ·rename_i i j hq
   exact key hq
  ·rename_i i j g ks hq
   refine ⟨_, key hq, ?_⟩
   clear hq
   induction ks with
   | nil => rfl
   | cons k ks ih => exact ⟨_, _, rfl, qnu hA hAt hsn h hE f k, ih⟩
  ·rename_i i j T k hq
   obtain ⟨b, e, h1, h2, h3⟩ := key hq
   exact ⟨b, _, by rw [hA]; exact h1, h2, e, h3, qnu hA hAt hsn h hE f k⟩
  ·trivial
theorem z45 {x : AV} {v : Value} (h : x.pd c p w v) : (z39 x).pd c p w v := by
 unfold z39
 split
 ·exact h
 ·exact h.2
 ·exact h
theorem qkc (hA : c.A = A) (hAt : c.At = fun k g => (k < n0 ∨ VB ≤ k) → p (k * 16) = some g) (hsn : c.snap = fun q => V.getD q undef) (h : yb V A p w all V ds) (hE : ∀ k, c.v.E k = ds.getD k .u) : ∀ (m q t : Nat) (x : AV), lkA (zbf (qez 0 all) q m) t = some x → t < q + m ∧ x.pd c p w (V.getD t undef)
 | 0, q, t, x, hx => by cases hx
 | m + 1, q, t, x, hx => by
  unfold zbf at hx
  by_cases hqt : q = t
  ·subst hqt
   rw [qh] at hx
   injection hx with hx
   subst hx
   exact ⟨by omega, z45 (qnu hA hAt hsn h hE 6 q)⟩
  ·rw [qi hqt] at hx
   obtain ⟨h1, h2⟩ := qkc hA hAt hsn h hE m (q + 1) t x hx
   exact ⟨by omega, h2⟩
theorem qkg (hA : c.A = A) (hE : ∀ k, c.v.E k = ds.getD k .u) (h : yb V A p w all V ds) : ∀ {tb : List (Nat × Nat × Ar)}, (∀ e : Nat × Nat × Ar, e ∈ tb → ∃ q : Nat, (qez 0 all)[q]? = some e) → ∀ k e, lkA (z75 tb) k = some e → q0g c p w k e
  | [], _, k, e, he => by cases he
  | (i, j, r) :: l, hm, k, e, he => by
    have go := qkg hA hE h (tb := l) fun e he => hm e (List.mem_cons_of_mem _ he)
    cases r with
    | ref t o =>
      have he' : lkA ((i, ⟨.tok j, t, qg8 o i t, []⟩) :: z75 l) k = some e := he
      by_cases hik : i = k
      · subst hik
        rw [qh] at he'
        injection he' with he'
        subst he'
        obtain ⟨q, hq⟩ := hm _ List.mem_cons_self
        obtain ⟨v, -, -, ⟨g, cs, T, hg, -, hh, hty, hc⟩⟩ := qmp h hq
        refine ⟨g, cs, T, hg, hh, hty, ?_⟩
        show Con c.A p w (c.v.E j) t (qg8 o i t) [] cs.toList
        rw [hE, hA]
        exact hc
      · rw [qi hik] at he'
        exact go k e he'
    | _ => exact go k e he
end
end
def qcc (tmps : Array Value) : ResultVar → Sem Value
 | .tmp t => pure (tmps.getD t undef)
 | .cell a t => do loadVar t (← asAddr (tmps.getD a undef))
theorem results_read (fn : Func) (tmps : Array Value) : results fn tmps = (do let vs ← fn.results.mapM (qcc tmps); pure (if h : vs.size = 1 then vs[0] else .tuple vs)) := by
 unfold results
 congr 1
def Reads (tmps : Array Value) (w : World) : List ResultVar → List Value → Prop
 | [], l => l = []
 | r :: rs, l => ∃ v l', l = v :: l' ∧ (qcc tmps r).run Try.prog w = .ok v w ∧ Reads tmps w rs l'
theorem qbx {fn : Func} {tmps : Array Value} {w : World} {l : List Value} (h : Reads tmps w fn.results.toList l) : (results fn tmps).run Try.prog w = .ok (qe5 l) w := by
 have key : ∀ (rs : List ResultVar) (l : List Value), Reads tmps w rs l → (rs.mapM (qcc tmps)).run Try.prog w = .ok l w := by
  intro rs
  induction rs with
  | nil =>
   intro l h
   cases h
   simp
  | cons r rs ih =>
   rintro l ⟨v, l', rfl, h1, h2⟩
   simp only [List.mapM_cons, Sem.run_bind, h1, Result.andThen_ok, ih l' h2, Sem.run_pure]
 rw [results_read, Array.mapM_eq_mapM_toList]
 simp only [map_eq_pure_bind, Sem.run_bind, key _ _ h, Result.andThen_ok, Sem.run_pure]
 congr 1
 clear h key
 match l with
 | [] => rfl
 | [v] => rfl
 | _ :: _ :: _ => rfl
section
variable {c : Cx} {p : ql} {w w0 : World} {S0 : Nat → Prop} {a : Act} {σ σ' : St}
theorem zh3 {i : Item} {x : X} (hf : SF c σ p w a) (h : itT σ i = some x) : ∃ v cs, a.tmps[i.1]? = some v ∧ yj i.2.1 cs v ∧ Con c.A p w (x.ev c.v) i.2.1 i.2.2.1 i.2.2.2 cs ∧ (snB i.2.1 i.2.2.2 = true → v = c.snap i.1) := by
 obtain ⟨t, ty, own, dep⟩ := i
 have := qwg hf (l := [(t, ty, own, dep)]) (xs := [x]) (by simp only [its, h])
 obtain ⟨y, r, e, h1, -⟩ := this
 simp only [X.evs, List.cons.injEq] at e
 rw [e.1]
 exact h1
theorem zhe {i : Item} {x : X} (hf : SF c σ p w a) (h : itM σ i = some x) : ∃ g cs T, p (i.1 * 16) = some g ∧ w.heap[g]? = some (.cells cs T (0, 0)) ∧ qp T = some i.2.1 ∧ Con c.A p w (x.ev c.v) i.2.1 i.2.2.1 i.2.2.2 cs.toList := by
 obtain ⟨t, ty, own, dep⟩ := i
 have := qvr hf (l := [(t, ty, own, dep)]) (xs := [x]) (by simp only [its, h])
 obtain ⟨y, r, e, h1, -⟩ := this
 simp only [X.evs, List.cons.injEq] at e
 rw [e.1]
 exact h1
theorem qy6 (hf : SF c σ p w a) {n : Nat} {rv : ResultVar} {t : Ty} {own : Bool} {x : X} (h : qu5 σ n rv t own = some x) : ∃ v, (qcc a.tmps rv).run Try.prog w = .ok v w ∧ ∃ cs, yj t cs v ∧ Con c.A p w (x.ev c.v) t (if own then qu n t else []) [] cs := by
 cases rv with
 | tmp s =>
  obtain ⟨v, cs, hv, hp, hc, -⟩ := zh3 (i := (s, t, if own then qu n t else [], [])) hf h
  exact ⟨v, by simp [qcc, show a.tmps[s]? = some v from hv], cs, hp, hc⟩
 | cell s T =>
  simp only [qu5] at h
  split at h
  ·rename_i k t' hl
   split at h
   ·rename_i hok
    simp only [Bool.and_eq_true] at hok
    obtain ⟨v, hv, g, hg, rfl, -⟩ := hf.t s _ hl
    obtain ⟨g', cs, T', hg', hh, hty, hc⟩ := zhe (i := (k, t, if own then qu n t else [], [])) hf h
    obtain rfl := Option.some.inj (hg.symm.trans hg')
    have hr : w.rangeAt g 0 cs.toList := fun j u hj => by
     rw [cell_of_row w g (0 + j) cs T' (0, 0) hh, ← Array.getElem?_toList]
     simpa using hj
    obtain ⟨u, hu, hp⟩ := q61 (q1x hok.1) hr (hc.rd (dep' := (if own then qu n t else []).map (·.2)) (fun x hx => by cases hx) (fun x hx => hx))
    refine ⟨u, ?_, cs.toList, hp, hc⟩
    simpa [qcc, show a.tmps[s]? = some _ from hv, asAddr, Instr.loadAt, Instr.sureAddr] using hu
   ·cases h
  ·cases h
theorem qku (hf : SF c σ p w a) : ∀ {rvs : List ResultVar} {ts : List (Ty × Bool)} {n : Nat} {xs : List X}, rvs.length = ts.length → z7b σ (rvs.zip ts) n = some xs →
  ∃ l, Reads a.tmps w rvs l ∧ q88 c.A p w ts n l (X.evs c.v xs) ∧ xs.length = ts.length
 | [], [], n, xs, _, h => by
  simp only [List.zip_nil_left, z7b, Option.some.injEq] at h
  subst h
  exact ⟨[], rfl, rfl, rfl⟩
 | rv :: rvs, (t, own) :: ts, n, xs, hl, h => by
  simp only [List.zip_cons_cons, z7b] at h
  split at h
  ·rename_i x xs' hx hxs
   injection h with h
   subst h
   obtain ⟨l, h1, h2, h3⟩ := qku hf (by simpa using hl) hxs
   obtain ⟨v, hv, hc⟩ := qy6 hf hx
   exact ⟨v :: l, ⟨v, l, rfl, hv, h1⟩, ⟨v, l, _, _, rfl, rfl, hc, h2⟩, by simp [h3]⟩
  ·cases h
 | [], _ :: _, _, _, hl, _ => by cases hl
 | _ :: _, [], _, _, hl, _ => by cases hl
theorem z9i (hf : SF c σ p w a) {n i : Nat} (h : zir σ n i = true) : ∃ g, p (i * 16) = some g ∧ c.At i g := by
 obtain ⟨t, -, ht⟩ := List.any_eq_true.1 h
 split at ht
 ·rename_i x hx
  obtain ⟨v, -, hv⟩ := hf.t t x hx
  exact AV.has_ok x ht hv
 ·cases ht
theorem qkm {p0 : ql} (hf : SF c σ p w a) {n0 n : Nat} (hAt : c.At = fun k g => (k < n0 ∨ VB ≤ k) → p0 (k * 16) = some g) : ∀ {all : List (Nat × Ar)} {xs : List X}, (∀ e ∈ all, e.1 < n0 ∨ VB ≤ e.1) → (∀ i t, (i, Ar.mref t) ∈ all → i < n → i < VB → qew t = true → ∃ g, c.snap i = .map (some g) ∧ p0 (i * 16 + 1) = some g) → qsi σ n all = some xs → q2a c.A p0 p w all (X.evs c.v xs)
  | [], xs, _, _, h => by
    simp only [qsi, Option.some.injEq] at h
    subst h
    rfl
  | (i, r) :: l, xs, hi, hMr, h => by
    have go : ∀ {xs}, qsi σ n l = some xs → q2a c.A p0 p w l (X.evs c.v xs) := fun h => qkm hf hAt (all := l) (fun e he => hi e (List.mem_cons_of_mem _ he)) (fun i t hm => hMr i t (List.mem_cons_of_mem _ hm)) h
    cases r with
    | ref t o =>
      simp only [qsi] at h
      split at h
      · rename_i x xs' hx hxs
        split at h
        · rename_i hk
          injection h with h
          subst h
          obtain ⟨g, hg, hat⟩ := z9i hf hk
          obtain ⟨g', cs, T, hg', hh, hty, hc⟩ := zhe (i := (i, t, qg8 o i t, [])) hf hx
          obtain rfl := Option.some.inj (hg.symm.trans hg')
          rw [hAt] at hat
          exact ⟨_, _, rfl, ⟨g, cs, T, hat (hi _ List.mem_cons_self), hg, hh, hty, hc⟩, go hxs⟩
        · cases h
      · cases h
    | mref t =>
      simp only [qsi] at h
      split at h
      · rename_i x xs' hx hxs
        split at h
        · rename_i hk
          injection h with h
          subst h
          simp only [Bool.and_eq_true, Nat.blt_eq] at hk
          obtain ⟨k1, k2, k3⟩ := hk
          obtain ⟨g, hg, hp0⟩ := hMr i t List.mem_cons_self k1 k2 k3
          obtain ⟨v, cs, hv, hpk, hc, hs⟩ := zh3 (i := (i, t, qu i t, [SNK])) hf hx
          have hkv : ∃ K V, t = .map K V := by
            cases t with
            | map K V => exact ⟨K, V, rfl⟩
            | _ => cases k3
          obtain ⟨K, V', rfl⟩ := hkv
          have hve : v = .map (some g) := (hs rfl).trans hg
          have hc0 : Con c.A p w (x.ev c.v) (.map K V') [(0, i * 16 + 1)] [SNK] cs := hc
          have hc1 : Con c.A p w (x.ev c.v) (.map K V') [(0, i * 16 + 1)] [] cs := by
            have h0 : Fl c.A p w [SNK] (lkA [(0, i * 16 + 1)] 0) (x.ev c.v) (.map K V') cs := hc0
            show Fl c.A p w [] (lkA [(0, i * 16 + 1)] 0) (x.ev c.v) (.map K V') cs
            rw [qh] at h0 ⊢
            rcases h0 with ⟨E, te, l, u, e0, -⟩ | h0
            · cases e0
            · exact .inr h0
          have hc2 : Fl c.A p w [] (lkA [(0, i * 16 + 1)] 0) (x.ev c.v) (.map K V') cs := hc1
          rw [qh] at hc2
          rcases hc2 with ⟨E, te, l, u, e0, -⟩ | ⟨K1, V1, kt, vt, l, g1, es, clock, e0, -, -, -, rfl, hg1, -⟩
          · cases e0
          · have hpv : [Value.map (some g1)] = [v] := hpk
            injection hpv with hpv
            rw [hve] at hpv
            injection hpv with hpv
            injection hpv with hpv
            subst hpv
            exact ⟨_, _, rfl, ⟨g1, hp0, hg1, hc1⟩, go hxs⟩
        · cases h
      · cases h
    | _ => exact go h
theorem z8y {V : List Value} {A : Nat → Prop} {p : ql} {w : World} {ct : Ct} {vs : List Value} {ds : List D} (h : yb V A p w ct.all vs ds) (i : Nat) (t : Ty) (hm : (i, Ar.mref t) ∈ ct.all) (h1 : i < ct.ar.length) (h2 : i < VB) (h3 : qew t = true) : ∃ g, vs.getD i undef = .map (some g) ∧ p (i * 16 + 1) = some g := by
 have key : ∀ {l : List Ar} {k n : Nat} {r : Ar}, (n, r) ∈ idx k l → k ≤ n ∧ l[n - k]? = some r := by
  intro l
  induction l with
  | nil => intro k n r h; cases h
  | cons x l ih =>
   intro k n r h
   rcases List.mem_cons.1 h with h | h
   ·injection h with e1 e2
    subst e1 e2
    exact ⟨Nat.le_refl _, by simp⟩
   ·obtain ⟨q1, q2⟩ := ih h
    refine ⟨by omega, ?_⟩
    rw [show n - k = (n - (k + 1)) + 1 by omega]
    simpa using q2
 have pos : ∀ (l : List Ar) (k q : Nat), (idx k l)[q]? = l[q]?.map fun r => (k + q, r) := by
  intro l
  induction l with
  | nil => intro k q; simp [idx]
  | cons x l ih =>
   intro k q
   cases q with
   | zero => simp [idx]
   | succ q =>
    simp only [idx, List.getElem?_cons_succ, ih]
    congr 1
    funext r
    congr 1
    omega
 have hat : ct.all[i]? = some (i, .mref t) := by
  rcases List.mem_append.1 hm with hm | hm
  ·obtain ⟨-, q⟩ := key hm
   rw [Nat.sub_zero] at q
   unfold Ct.all
   rw [List.getElem?_append_left (by
    have : (idx 0 ct.ar).length = ct.ar.length := by rw [← List.length_map (f := (·.2)), qrz]
    omega), pos, q]
   simp
  ·have := (key hm).1
   omega
 have tab : ∀ (l : List (Nat × Ar)) (j q : Nat) (e : Nat × Ar), l[q]? = some e → ∃ j', (qez j l)[q]? = some (e.1, j', e.2) := by
  intro l
  induction l with
  | nil => intro j q e h; simp at h
  | cons x l ih =>
   intro j q e h
   cases q with
   | zero =>
    simp only [List.getElem?_cons_zero, Option.some.injEq] at h
    subst h
    exact ⟨j, rfl⟩
   | succ q =>
    simp only [List.getElem?_cons_succ] at h
    exact ih _ q e h
 obtain ⟨j', hj⟩ := tab _ 0 _ _ hat
 obtain ⟨v, hv, -, cs, hpk, hc⟩ := qmp h hj
 rw [List.getD_eq_getElem?_getD, hv]
 have hkv : ∃ K V, t = .map K V := by
  cases t with
  | map K V => exact ⟨K, V, rfl⟩
  | _ => cases h3
 obtain ⟨K, V', rfl⟩ := hkv
 have hc2 : Fl A p w [] (lkA [(0, i * 16 + 1)] 0) (ds.getD (j' - 0) .u) (.map K V') cs := hc
 rw [qh] at hc2
 rcases hc2 with ⟨E, te, l, u, e0, -⟩ | ⟨K1, V1, kt, vt, l, g1, es, clock, e0, -, -, -, rfl, hg1, -⟩
 ·cases e0
 ·have hpv : [Value.map (some g1)] = [v] := hpk
  injection hpv with hpv
  exact ⟨g1, hpv.symm, hg1⟩
end
def cxA (tbl : Tbl) (ct : Ct) (A : Nat → Prop) (F : Flr) (p : ql) (vs us : List Value) (ds : List D) : Cx := ⟨evl (qe tbl) ds, A, F, ct.ar.length, fun k g => (k < ct.ar.length ∨ VB ≤ k) → p (k * 16) = some g, fun k g hk h2 h => absurd h (by omega), fun q => (vs ++ us).getD q undef⟩
theorem qra {ct : Ct} {tbl : Tbl} {fn : Func} (hsz : ct.ar.length ≤ fn.ntmps) {A : Nat → Prop} {F : Flr} {p : ql} {w : World} {vs us : List Value} {ds : List D} (hfo : Flo F w w) (hpre : Pre ct.ar.length A F p w) (hvl : vs.length = ct.ar.length) (hargs : yb (vs ++ us) A p w ct.all (vs ++ us) ds) :
  Bs (cxA tbl ct A F p vs us ds).A (cxA tbl ct A F p vs us ds).F w (pinned p) p w ∧ SF ((cxA tbl ct A F p vs us ds).at (qe tbl) ds) (qn9 ct) p w { tmps := vs.toArray ++ Array.replicate (fn.ntmps - vs.toArray.size) undef, defers := [] } := by
 have hb0 : Bs (cxA tbl ct A F p vs us ds).A (cxA tbl ct A F p vs us ds).F w (pinned p) p w := ⟨hpre.inj, hpre.bd, But.refl _ _, fun x b hx => .inl ⟨x, hx⟩, hpre.new, hpre.pa, hpre.obj, hfo⟩
 refine ⟨hb0, fun t x hx => ?_, qkg (c := (cxA tbl ct A F p vs us ds).at (qe tbl) ds) (A := A) rfl (fun k => rfl) hargs fun e he => List.mem_iff_getElem?.1 he⟩
 obtain ⟨h1, h2⟩ := qkc (c := (cxA tbl ct A F p vs us ds).at (qe tbl) ds) (A := A) (n0 := ct.ar.length) rfl rfl rfl hargs (fun k => rfl) _ _ t x hx
 have hlt : t < vs.length := by omega
 refine ⟨(vs ++ us).getD t undef, ?_, h2⟩
 show (vs.toArray ++ _)[t]? = _
 rw [Array.getElem?_append_left (by simpa using hlt), List.getD_eq_getElem?_getD, List.getElem?_append_left hlt]
 simp [List.getElem?_eq_getElem hlt]
theorem z1d {ct : Ct} {tbl : Tbl} {fn : Func} {A : Nat → Prop} {p p' : ql} {w w' : World} {vs us : List Value} {ds l' : List D} {σ' : St} {a' : Act} {c : Cx} (hcA : c.A = A) (hcAt : c.At = fun k g => (k < ct.ar.length ∨ VB ≤ k) → p (k * 16) = some g) (hcs : ∀ i, i < VB → c.snap i = (vs ++ us).getD i undef) (hargs : yb (vs ++ us) A p w ct.all (vs ++ us) ds)
  (hb' : Bs c.A c.F w (pinned p) p' w') (hf' : SF (c.at (qe tbl) l') σ' p' w' a') {xs : List X} (hfin : fin ct fn.results.toList σ' = some xs) :
  ∃ rs p2, (results fn a'.tmps).run Try.prog w' = .ok (qe5 rs) w' ∧ Bs A c.F w (pinned p) p2 w' ∧ q88 A p2 w' ct.rs ct.ar.length rs ((X.evs (evl (qe tbl) l') xs).take ct.rs.length) ∧ q2a A p p2 w' ct.all ((X.evs (evl (qe tbl) l') xs).drop ct.rs.length) := by
 subst hcA
 generalize houts : X.evs (evl (qe tbl) l') xs = outs
 unfold fin at hfin
 simp only at hfin
 split at hfin
 ·rename_i hok
  simp only [Bool.and_eq_true] at hok
  split at hfin
  ·rename_i xa xb hxa hxb
   injection hfin with hfin
   subst hfin
   have hb1 := hb'.un (fun y => !zh ((qb7 σ' (fn.results.toList.zip ct.rs) ct.ar.length ++ q92 σ' ct.all).map (·.1) ++ (q6y ct.all ++ q36 σ' fn.results.toList)) y)
   have hf1 := SF.un (c := c.at (qe tbl) l') (q := fun y => !zh ((qb7 σ' (fn.results.toList.zip ct.rs) ct.ar.length ++ q92 σ' ct.all).map (·.1) ++ (q6y ct.all ++ q36 σ' fn.results.toList)) y) hb'.inj hb'.pa hf'
   obtain ⟨p2, hb2, hf2⟩ := qgg (c := c.at (qe tbl) l') hok.1 hb1 hf1
   obtain ⟨l, h1, h2, h3⟩ := qku hf2 (Nat.eq_of_beq_eq_true hok.2) hxa
   have h4 := qkm (p0 := p) (n0 := ct.ar.length) hf2 hcAt (fun e he => qt1 he) (fun i t hm h1 h2 h3 => by
    obtain ⟨g, e1, e2⟩ := z8y hargs i t hm h1 h2 h3
    exact ⟨g, (hcs i h2).trans e1, e2⟩) hxb
   have hev : X.evs (evl (qe tbl) l') xa ++ X.evs (evl (qe tbl) l') xb = outs := by rw [← qa5]; exact houts
   have hla : (X.evs (evl (qe tbl) l') xa).length = ct.rs.length := by rw [qcd, h3]
   refine ⟨l, p2, qbx h1, hb2, ?_, ?_⟩
   ·rw [← hev, List.take_append_of_le_length (by omega), ← hla, List.take_length]
    exact h2
   ·rw [← hev, ← hla, List.drop_left]
    exact h4
  ·cases hfin
 ·cases hfin
theorem zej {ct : Ct} {tbl : Tbl} (ann : Ann) (fn : Func) (cd : Code) (htb : jr tbl) (hf : Try.prog.funcs[ct.f]? = some fn) (hb : fn.body = some cd) (hsz : ct.ar.length ≤ fn.ntmps)
  {A : Nat → Prop} {F : Flr} {p : ql} {w : World} {vs us : List Value} {ds : List D} {R : List D → Prop} (hfm : ∀ te, F.mx te ≤ flM tbl te) (hfo : Flo F w w) (hpre : Pre ct.ar.length A F p w) (hvl : vs.length = ct.ar.length) (hargs : yb (vs ++ us) A p w ct.all (vs ++ us) ds)
  (h : WfA ct.ars ds → (qa9 Try.prog tbl ann ct fn cd).go (qe tbl) R ds fun _ _ => False) {P : Ending → World → Prop}
  (hret : ∀ o rs p' w', R o → Bs A F w (pinned p) p' w' → q88 A p' w' ct.rs ct.ar.length rs (o.take ct.rs.length) → q2a A p p' w' ct.all (o.drop ct.rs.length) → P (.returned (qe5 rs)) w')
  (hQ : ∀ e ∈ tbl, ∀ T, e.1.pn = some T → (∃ ds, e.2 ds = some [.u]) → ∀ w', But (pinned p) w w' → P (.panicked (q83 T)) w')
  (hR : R [.u] → ∀ e ∈ tbl, ∀ T, e.1.pn = some T → ∀ w', But (pinned p) w w' → P (.panicked (q83 T)) w') : cd.wp Try.prog (bodyPost Try.prog fn P) { tmps := vs.toArray ++ Array.replicate (fn.ntmps - vs.toArray.size) undef, defers := [] } w := by
 obtain ⟨hwf, hdl, -⟩ := hargs.wf
 rw [all_map] at hwf hdl
 have hgo := h hwf
 obtain ⟨hb0, hsf⟩ := qra (tbl := tbl) hsz hfo hpre hvl hargs
 refine (wpIn_wide (n := 0)).1 ?_
 refine qhm none 0 (c := cxA tbl ct A F p vs us ds) (S0 := pinned p) (w0 := w) (d := []) (z := fn.ntmps) htb hfm cd hgo hdl hb0 hsf rfl (by simp; omega) (fun e he T h1 h2 a w2 h3 h4 => ⟨h3, hQ e he T h1 h2 w2 h4⟩) (fun h0 e he T h1 a w2 h3 h4 => ⟨h3, hR h0 e he T h1 w2 h4⟩) fun n' r σ' l' B' p' w' a' hl' hpre' hB hgo' hb' hf' hd' hz' => ?_
 have fin' : ∀ xs, fin ct fn.results.toList σ' = some xs → R (X.evs (evl (qe tbl) l') xs) → a'.defers = [] ∧ ∃ v, (results fn a'.tmps).run Try.prog w' = .ok v w' ∧ P (.returned v) w' := by
  intro xs hfin hout
  obtain ⟨rs, p2, h1, h2, h3, h4⟩ := z1d (c := cxA tbl ct A F p vs us ds) rfl rfl (fun _ _ => rfl) hargs hb' hf' hfin
  exact ⟨hd', _, h1, hret _ rs p2 w' hout h2 h3 h4⟩
 cases r with
 | exit i => exact hgo'.elim
 | normal =>
  simp only [qa6] at hgo'
  split at hgo'
  ·rename_i xs hx
   exact fin' xs hx hgo'
  ·exact hgo'.elim
 | ret =>
  simp only [qa6] at hgo'
  split at hgo'
  ·rename_i xs hx
   exact fin' xs hx hgo'
  ·exact hgo'.elim
theorem qnm {ct : Ct} {tbl : Tbl} (ann : Ann) (fn : Func) (cd : Code) (htb : jr tbl) (hf : Try.prog.funcs[ct.f]? = some fn) (hb : fn.body = some cd) (hsz : ct.ar.length ≤ fn.ntmps)
  {A : Nat → Prop} {F : Flr} {p : ql} {w : World} {vs us : List Value} {ds : List D} {R : List D → Prop} (hfm : ∀ te, F.mx te ≤ flM tbl te) (hfo : Flo F w w) (hpre : Pre ct.ar.length A F p w) (hvl : vs.length = ct.ar.length) (hargs : yb (vs ++ us) A p w ct.all (vs ++ us) ds)
  (h : WfA ct.ars ds → (qa9 Try.prog tbl ann ct fn cd).go (qe tbl) R ds fun _ _ => False) {P : Ending → World → Prop}
  (hret : ∀ o rs p' w', R o → Bs A F w (pinned p) p' w' → q88 A p' w' ct.rs ct.ar.length rs (o.take ct.rs.length) → q2a A p p' w' ct.all (o.drop ct.rs.length) → P (.returned (qe5 rs)) w')
  (hQ : ∀ e ∈ tbl, ∀ T, e.1.pn = some T → (∃ ds, e.2 ds = some [.u]) → ∀ w', But (pinned p) w w' → P (.panicked (q83 T)) w')
  (hR : R [.u] → ∀ e ∈ tbl, ∀ T, e.1.pn = some T → ∀ w', But (pinned p) w w' → P (.panicked (q83 T)) w') : Calls Try.prog ct.f vs.toArray w P := calls_of_wp hf hb (zej ann fn cd htb hf hb hsz hfm hfo hpre hvl hargs h hret hQ hR)
def FlF (ct : Ct) (tbl : Tbl) (ds : List D) : Prop := ∀ F, qe0 ct F ds → ∀ te, F.mx te ≤ flM tbl te
theorem FlF.none {ct : Ct} {tbl : Tbl} {ds : List D} (h : ct.fl = []) : FlF ct tbl ds := fun F hF te => by rw [hF.zero h]; exact Nat.zero_le _
theorem FlF.of {ct : Ct} {tbl : Tbl} {ds : List D} (h : ∀ k j te, (k, j, te) ∈ ct.fl → k ≠ 999 ∧ ((ds.getD k .u).fld j).rs.length ≤ flM tbl te) : FlF ct tbl ds := fun F hF te => by
 rcases hF te with h0 | ⟨k, j, hm, h1⟩
 ·rw [h0]; exact Nat.zero_le _
 ·obtain ⟨h2, h3⟩ := h k j te hm
  exact Nat.le_trans (h1.resolve_left h2) h3
def j5 (f : FuncId) (te : Ty) : Ct := { f := f, ar := [.val (.st 4242424243)], rs := [(te, false)] }
theorem zg7 {w : World} {P : Nat → Prop} {d : D} {cs : List Value} (h : Rd w P d (.st 4242424243) cs) : False := by
 cases d with
 | a l =>
  obtain ⟨T, fs, e, hf, -⟩ := h
  injection e with e
  subst e
  cases hf
 | u => exact h
 | i n => obtain ⟨k, e, -⟩ := h; cases e
 | b x => cases h.1
 | s x => cases h.1
 | r l => obtain ⟨E, te, A, cap, e, -⟩ := h; cases e
 | mp l => obtain ⟨K, V, kt, vt, g, es, clock, e, -⟩ := h; cases e
theorem q0n (f : FuncId) (hen : ∀ args w, (callFunc f args).run Try.prog w = .ok (.enter f args) w) (te : Ty) (m : Nat) : FOk (j5 f te) fun _ => some [.i m] :=
 ⟨hen, (fun A F p w vs us ds outs hg _ _ _ hvl hargs => by
  obtain ⟨v, r, d, ds', e1, e2, ⟨cs, h1, h2⟩, -⟩ := hargs
  exact (zg7 h2).elim), fun h => absurd rfl h⟩
theorem z51 {ct : Ct} {g : List D → Option (List D)} {tbl : Tbl} (ann : Ann) (fn : Func) (cd : Code) (htb : jr tbl) (hf : Try.prog.funcs[ct.f]? = some fn) (hb : fn.body = some cd)
  (hen : ∀ args w, (callFunc ct.f args).run Try.prog w = .ok (.enter ct.f args) w) (hsz : ct.ar.length ≤ fn.ntmps)
  (h : ∀ ds outs, WfA ct.ars ds → g ds = some outs → (qa9 Try.prog tbl ann ct fn cd).go (qe tbl) (fun o => o = outs) ds fun _ _ => False) (hnp : q6o tbl = true := by rfl) (hkp : ct.kp = [] := by rfl) (hfl : ct.fl = [] := by rfl) : FOk ct g :=
 ⟨hen, fun A F p w vs us ds outs hg hfo0 hfo hpre hvl hargs => qnm ann fn cd htb hf hb hsz (FlF.none hfl F hfo0) hfo hpre hvl hargs (fun hw => h ds outs hw hg)
  (fun o rs p' w' ho h1 h2 h3 => .inr ⟨rs, p', rfl, h1, by rw [← ho]; exact h2, by rw [← ho]; exact h3⟩) (fun e he T hT => (q60 hnp he hT).elim) (fun _ e he T hT => (q60 hnp he hT).elim), fun h => absurd hkp h⟩
def FAt (ct : Ct) (ds outs : List D) : Prop := ∀ (A : Nat → Prop) (F : Flr) (p : ql) (w : World) (vs us : List Value), qe0 ct F ds → Flo F w w → Pre ct.ar.length A F p w → vs.length = ct.ar.length → yb (vs ++ us) A p w ct.all (vs ++ us) ds →
  Calls Try.prog ct.f vs.toArray w fun e w' => (∃ T, ct.pn = some T ∧ outs = [.u] ∧ e = .panicked (q83 T) ∧ But (pinned p) w w') ∨ ∃ rs p', e = .returned (qe5 rs) ∧ Bs A F w (pinned p) p' w' ∧ q88 A p' w' ct.rs ct.ar.length rs (outs.take ct.rs.length) ∧ q2a A p p' w' ct.all (outs.drop ct.rs.length)
theorem FOk.of_at {ct : Ct} {g : List D → Option (List D)} (hen : ∀ args w, (callFunc ct.f args).run Try.prog w = .ok (.enter ct.f args) w) (h : ∀ ds outs, WfA ct.ars ds → g ds = some outs → FAt ct ds outs) (hkp : ct.kp = [] := by rfl) : FOk ct g :=
 ⟨hen, fun A F p w vs us ds outs hg hfl hfo hpre hvl hargs => h ds outs (by rw [← all_map]; exact hargs.wf.1) hg A F p w vs us hfl hfo hpre hvl hargs, fun h => absurd hkp h⟩
theorem zc5 {ct : Ct} {ds outs : List D} (tbl : Flr → Tbl) (ann : Ann) (fn : Func) (cd : Code) (htb : ∀ F, jr (tbl F)) (hf : Try.prog.funcs[ct.f]? = some fn) (hb : fn.body = some cd) (hsz : ct.ar.length ≤ fn.ntmps)
  (h : ∀ F, (qa9 Try.prog (tbl F) ann ct fn cd).go (qe (tbl F)) (fun o => o = outs) ds fun _ _ => False) (hnp : ∀ F, q6o (tbl F) = true) (hfm : ∀ F, qe0 ct F ds → ∀ te, F.mx te ≤ flM (tbl F) te) : FAt ct ds outs :=
 fun A F p w vs us hfl hfo hpre hvl hargs => qnm (tbl := tbl F) ann fn cd (htb F) hf hb hsz (hfm F hfl) hfo hpre hvl hargs (fun _ => h F)
  (fun o rs p' w' ho h1 h2 h3 => .inr ⟨rs, p', rfl, h1, by rw [← ho]; exact h2, by rw [← ho]; exact h3⟩) (fun e he T hT => (q60 (hnp F) he hT).elim) (fun _ e he T hT => (q60 (hnp F) he hT).elim)
theorem qua {ct : Ct} {tbl : Tbl} (ann : Ann) (fn : Func) (cd : Code) (htb : jr tbl) (hf : Try.prog.funcs[ct.f]? = some fn) (hb : fn.body = some cd) (hsz : ct.ar.length ≤ fn.ntmps)
  {ds outs : List D} (h : (qa9 Try.prog tbl ann ct fn cd).go (qe tbl) (fun o => o = outs) ds fun _ _ => False) (hnp : q6o tbl = true) (hfm : FlF ct tbl ds) : FAt ct ds outs :=
 fun A F p w vs us hfl hfo hpre hvl hargs => qnm ann fn cd htb hf hb hsz (hfm F hfl) hfo hpre hvl hargs (fun _ => h)
  (fun o rs p' w' ho h1 h2 h3 => .inr ⟨rs, p', rfl, h1, by rw [← ho]; exact h2, by rw [← ho]; exact h3⟩) (fun e he T hT => (q60 hnp he hT).elim) (fun _ e he T hT => (q60 hnp he hT).elim)
theorem jr.nil : jr [] := fun e he => by cases he
theorem jr.cons {ct : Ct} {g : List D → Option (List D)} {l : Tbl} (h : FOk ct g) (hl : jr l) : jr ((ct, g) :: l) := fun e he => by
 rcases List.mem_cons.1 he with rfl | he
 ·exact h
 ·exact hl e he
end
theorem Wf.row {d : D} {E : TypeId} (h : Wf d (.row E)) : ∃ l te, d = .r l ∧ qp E = some te ∧ l.length ≤ LM te ∧ ∀ x ∈ l, Wf x te := by
 obtain ⟨w, F, cs, h⟩ := h
 cases d with
 | r l =>
  obtain ⟨E', te, A, cap, e, hte, e3, h1, h2, -, hR⟩ := h
  injection e with e
  subst e
  refine ⟨l, te, rfl, hte, h2, fun x hx => ?_⟩
  obtain ⟨i, hi, rfl⟩ := List.mem_iff_getElem.1 hx
  obtain ⟨b, o, c, -, -, -, hr⟩ := q0i.1 hR i hi
  exact ⟨w, F, c, hr⟩
 | u => exact h.elim
 | i n => obtain ⟨k, e, -⟩ := h; cases e
 | b x => cases h.1
 | s x => cases h.1
 | a l => obtain ⟨T', fs0, e1, -⟩ := h; cases e1
 | mp l => obtain ⟨K, V, kt, vt, g, es, clock, e, -⟩ := h; cases e
theorem Wf.int {d : D} {k : IntKind} (h : Wf d (.int k)) : ∃ n, d = .i n ∧ yo k n = true := by
 obtain ⟨w, F, cs, h⟩ := h
 cases d with
 | i n =>
  obtain ⟨k', e, -, hr⟩ := h
  injection e with e
  subst e
  exact ⟨n, rfl, hr⟩
 | u => exact h.elim
 | r l => obtain ⟨E, te, A, cap, e, -⟩ := h; cases e
 | b x => cases h.1
 | s x => cases h.1
 | a l => obtain ⟨T', fs0, e1, -⟩ := h; cases e1
 | mp l => obtain ⟨K, V, kt, vt, g, es, clock, e, -⟩ := h; cases e
theorem Wf.str {d : D} (h : Wf d .str) : ∃ x, d = .s x ∧ x.size ≤ LIM := by
 obtain ⟨w, F, cs, h⟩ := h
 cases d with
 | s x => exact ⟨x, rfl, h.2.2⟩
 | u => exact h.elim
 | r l => obtain ⟨E, te, A, cap, e, -⟩ := h; cases e
 | i n => obtain ⟨k, e, -⟩ := h; cases e
 | b x => cases h.1
 | a l => obtain ⟨T', fs0, e1, -⟩ := h; cases e1
 | mp l => obtain ⟨K, V, kt, vt, g, es, clock, e, -⟩ := h; cases e
def WfL : List D → List Ty → Prop
 | [], fs => fs = []
 | d :: ds, fs => ∃ t ts, fs = t :: ts ∧ Wf d t ∧ WfL ds ts
theorem RdF.wf {w : World} {F : Nat → Prop} : ∀ {ds : List D} {fs : List Ty} {cs : List Value}, RdF w F ds fs cs → WfL ds fs
 | [], fs, cs, h => h.1
 | d :: ds, fs, cs, h => by
  obtain ⟨t, ts, c1, c2, e1, -, h1, h2⟩ := h
  exact ⟨t, ts, e1, ⟨w, F, c1, h1⟩, RdF.wf h2⟩
theorem Wf.st {d : D} {S : TypeId} (h : Wf d (.st S)) : ∃ ds fs, d = .a ds ∧ flds S = some fs ∧ WfL ds fs := by
 obtain ⟨w, F, cs, h⟩ := h
 cases d with
 | a l =>
  obtain ⟨T', fs0, e1, e2, h⟩ := h
  injection e1 with e1
  subst e1
  exact ⟨l, fs0, rfl, e2, RdF.wf h⟩
 | u => exact h.elim
 | r l => obtain ⟨E, te, A, cap, e, -⟩ := h; cases e
 | i n => obtain ⟨k, e, -⟩ := h; cases e
 | b x => cases h.1
 | s x => cases h.1
 | mp l => obtain ⟨K, V, kt, vt, g, es, clock, e, -⟩ := h; cases e
def zaj (e : Ev) : List X → Bool
 | [] => true
 | x :: l => (x.ev e).tt && zaj e l
theorem z0q {e : Ev} : ∀ {l : List X}, zaj e l = true → qf e l
 | [], _ => trivial
 | x :: l, h => by
  simp only [zaj, Bool.and_eq_true] at h
  exact ⟨h.1, z0q h.2⟩
def itf (f : List D → Option (Nat × List D)) (id : Nat) : Nat → List D → Option (Nat × List D)
 | 0, _ => none
 | k + 1, st => match f st with
  | some (j, st') => if Nat.beq j (id + 1) then itf f id k st' else some (j, st')
  | none => none
def qsm : Nat × List D → Nat × List D → Bool := fun a b => Nat.beq a.1 b.1 && D.beqs a.2 b.2
def Tree.den (S : Nat → List D → Option (List D)) (fuel : Nat) : Tree → List D → Option (Nat × List D)
 | .bad _, _ => none
 | .need ns t, l => if zaj (evl S l) ns then t.den S fuel l else none
 | .br x t e, l => if (x.ev (evl S l)).tt then t.den S fuel l else e.den S fuel l
 | .amb x neg t e, l => if (x.ev (evl S l)).rs.isEmpty then (match t.den S fuel l, e.den S fuel l with
   | some a, some b => if qsm a b then some a else none
   | _, _ => none) else if neg then t.den S fuel l else e.den S fuel l
 | .leaf xs, l => some (0, X.evs (evl S l) xs)
 | .back id xs, l => some (id + 1, X.evs (evl S l) xs)
 | .loop id n init body, l => itf (fun st => body.den S fuel (l.take n ++ st)) id fuel (X.evs (evl S l) init)
def zci (R : List D → Prop) (B : Nat → List D → Prop) : Nat × List D → Prop
  | (0, xs) => R xs
  | (id + 1, xs) => B id xs
theorem z02 : ∀ {l m : List D}, D.beqs l m = true → l = m
 | [], [], _ => rfl
 | x :: l, y :: m, h => by
  simp only [D.beqs, Bool.and_eq_true] at h
  rw [(D.beq_iff _ _).1 h.1, z02 h.2]
 | [], _ :: _, h => by simp [D.beqs] at h
 | _ :: _, [], h => by simp [D.beqs] at h
theorem qz5 {a b : Nat × List D} (h : qsm a b = true) : a = b := by
 obtain ⟨i, l⟩ := a
 obtain ⟨j, m⟩ := b
 simp only [qsm, Bool.and_eq_true] at h
 rw [Nat.eq_of_beq_eq_true h.1, z02 h.2]
theorem quv {P : Nat → Prop} (h : ∃ k, P k) : ∃ m, P m ∧ ∀ k, P k → m ≤ k := by
 obtain ⟨k, hk⟩ := h
 induction k using Nat.strongRecOn with
 | _ k ih =>
  by_cases hl : ∃ j, j < k ∧ P j
  ·obtain ⟨j, hj, hp⟩ := hl
   exact ih j hj hp
  ·exact ⟨k, hk, fun j hj => Nat.le_of_not_lt fun hlt => hl ⟨j, hlt, hj⟩⟩
open Classical in
noncomputable def qee (P : Nat → Prop) : Nat := if h : ∃ k, P k then (quv h).choose else 0
theorem qq3 {P : Nat → Prop} (h : ∃ k, P k) : P (qee P) ∧ ∀ k, P k → qee P ≤ k := by
 unfold qee
 rw [dif_pos h]
 exact (quv h).choose_spec
theorem z2q {S : Nat → List D → Option (List D)} {fuel : Nat} {R : List D → Prop} : ∀ (t : Tree) {l : List D} {B : Nat → List D → Prop} {out : Nat × List D}, t.den S fuel l = some out → zci R B out → t.go S R l B := by
 intro t
 induction t with
 | bad n => intro l B out h; cases h
 | need ns t ih =>
  intro l B out h ho
  unfold Tree.den at h
  split at h
  ·rename_i hs
   exact ⟨z0q hs, ih h ho⟩
  ·cases h
 | br x t e iht ihe =>
  intro l B out h ho
  unfold Tree.den at h
  refine ⟨fun hx => ?_, fun hx => ?_⟩
  ·rw [if_pos hx] at h
   exact iht h ho
  ·rw [if_neg (by rw [hx]; decide)] at h
   exact ihe h ho
 | amb x neg t e iht ihe =>
  intro l B out h ho
  unfold Tree.den at h
  split at h
  ·split at h
   ·rename_i a b ha hb
    split at h
    ·rename_i hs
     injection h with h
     subst h
     have := qz5 hs
     subst this
     exact ⟨fun _ => iht ha ho, fun _ => ihe hb ho⟩
    ·cases h
   ·cases h
  ·rename_i hne
   have hne' : ¬ (x.ev (evl S l)).rs = [] := fun e => hne (by rw [e]; rfl)
   split at h
   ·rename_i hn
    exact ⟨fun _ => iht h ho, fun hc => absurd (hc hn) hne'⟩
   ·rename_i hn
    exact ⟨fun hc => absurd (hc (by simpa using hn)) hne', fun _ => ihe h ho⟩
 | leaf xs =>
  intro l B out h ho
  simp only [Tree.den, Option.some.injEq] at h
  subst h
  exact ho
 | back id xs =>
  intro l B out h ho
  simp only [Tree.den, Option.some.injEq] at h
  subst h
  exact ho
 | loop id n init body ih =>
  intro l B out h ho
  unfold Tree.den at h
  generalize hf : (fun st => body.den S fuel (l.take n ++ st)) = f at h
  have hfe : ∀ st, body.den S fuel (l.take n ++ st) = f st := fun st => by rw [← hf]
  -- more rounds answer alike
  have mono : ∀ k st o, itf f id k st = some o → itf f id (k + 1) st = some o := by
   intro k
   induction k with
   | zero => intro st o h; cases h
   | succ k ihk =>
    intro st o h
    unfold itf at h ⊢
    split at h
    ·rename_i j st' hj
     split at h
     ·rename_i hb
      rw [if_pos hb]
      exact ihk _ _ h
     ·rename_i hb
      rw [if_neg hb]
      exact h
    ·cases h
  refine ⟨fun st => ∃ k o, itf f id k st = some o ∧ zci R B o, fun st => qee fun k => (itf f id k st).isSome = true, ⟨fuel, out, h, ho⟩, ?_⟩
  rintro st - ⟨k, o, hk, hoo⟩
  have hex : ∃ k, (itf f id k st).isSome = true := ⟨k, by rw [hk]; rfl⟩
  obtain ⟨hmin, -⟩ := qq3 hex
  obtain ⟨o', ho'⟩ := Option.isSome_iff_exists.1 hmin
  have up : ∀ a b st o, itf f id a st = some o → itf f id (a + b) st = some o := by
   intro a b
   induction b with
   | zero => intro st o h; exact h
   | succ b ihb => intro st o h; exact mono _ _ _ (ihb st o h)
  have hoo' : o' = o := by
   have h1 := up _ k st o' ho'
   have h2 := up k (qee fun k => (itf f id k st).isSome = true) st o hk
   rw [Nat.add_comm] at h2
   exact Option.some.inj (h1.symm.trans h2)
  rw [hoo'] at ho'
  cases hm : qee (fun k => (itf f id k st).isSome = true) with
  | zero => rw [hm] at ho'; cases ho'
  | succ m =>
   rw [hm] at ho'
   unfold itf at ho'
   split at ho'
   ·rename_i j st' hj
    refine ih ((hfe st).trans hj) ?_
    split at ho'
    ·rename_i hb
     obtain rfl := Nat.eq_of_beq_eq_true hb
     show q3l B id _ id st'
     unfold q3l
     rw [if_pos rfl]
     refine ⟨⟨m, o, ho', hoo⟩, ?_⟩
     have hex' : ∃ k, (itf f id k st').isSome = true := ⟨m, by rw [ho']; rfl⟩
     show _ < qee (fun k => (itf f id k st).isSome = true)
     rw [hm]
     exact Nat.lt_succ_of_le ((qq3 hex').2 m (by rw [ho']; rfl))
    ·rename_i hb
     injection ho' with ho'
     subst ho'
     cases j with
     | zero => exact hoo
     | succ j =>
      show q3l B id _ j st'
      unfold q3l
      rw [if_neg]
      ·exact hoo
      ·intro e
       subst e
       exact hb (Nat.beq_refl _)
   ·cases ho'
def z6x : Option (Nat × List D) → Option (List D)
 | some (0, xs) => some xs
 | _ => none
theorem z6u {o : Option (Nat × List D)} {xs : List D} (h : z6x o = some xs) : o = some (0, xs) := by
 unfold z6x at h
 split at h
 ·injection h with h; rw [h]
 ·cases h
def qv0 (tbl : Tbl) (fuel : Nat) (t : Tree) : List D → Option (List D) := fun ds => z6x (t.den (qe tbl) fuel ds)
theorem qfh {tbl : Tbl} {fuel : Nat} {t : Tree} {ds outs : List D} (h : qv0 tbl fuel t ds = some outs) : t.go (qe tbl) (fun o => o = outs) ds fun _ _ => False :=
 z2q t (z6u h) rfl
theorem FOk.none {ct : Ct} (hen : ∀ args w, (callFunc ct.f args).run Try.prog w = .ok (.enter ct.f args) w) : FOk ct fun _ => Option.none := ⟨hen, fun A F p w vs us ds outs h => (by cases h), fun _ A F p w vs us ds outs h => (by cases h)⟩
def q3u (m : List D → Nat) (n : Nat) (g : List D → Option (List D)) : List D → Option (List D) := fun ds => if m ds < n then g ds else none
theorem q8k {ct : Ct} {m : List D → Nat} {g : List D → Option (List D)} (hen : ∀ args w, (callFunc ct.f args).run Try.prog w = .ok (.enter ct.f args) w) (h : ∀ n, FOk ct (q3u m n g) → FOk ct (q3u m (n + 1) g)) : FOk ct g := by
 have key : ∀ n, FOk ct (q3u m n g) := by
  intro n
  induction n with
  | zero => exact ⟨hen, fun A F p w vs us ds outs h => (by simp [q3u] at h), fun _ A F p w vs us ds outs h => (by simp [q3u] at h)⟩
  | succ n ih => exact h n ih
 refine ⟨hen, fun A F p w vs us ds outs hg f1 f2 hp hl ha => (key (m ds + 1)).call A F p w vs us ds outs ?_ f1 f2 hp hl ha, fun hk A F p w vs us ds outs hg f1 f2 hp hl ha => (key (m ds + 1)).keep hk A F p w vs us ds outs ?_ f1 f2 hp hl ha⟩ <;>
 ·simp only [q3u, if_pos (Nat.lt_succ_self _)]
  exact hg
theorem FOk.sub {ct : Ct} {g g' : List D → Option (List D)} (h : FOk ct g) (hs : ∀ ds outs, g' ds = some outs → g ds = some outs) : FOk ct g' := ⟨h.enter, fun A F p w vs us ds outs hg f1 f2 hp hl ha => h.call A F p w vs us ds outs (hs ds outs hg) f1 f2 hp hl ha, fun hk A F p w vs us ds outs hg f1 f2 hp hl ha => h.keep hk A F p w vs us ds outs (hs ds outs hg) f1 f2 hp hl ha⟩
section
section
variable {A A' : Nat → Prop} {F : Flr} {p : ql} {w : World} (hA : ∀ b, b < w.heap.size → A b → A' b)
include hA
theorem FFD.chA {dep : List Nat} {b : Nat} (hb : b < w.heap.size) (h : FFD A p dep b) : FFD A' p dep b := by
 rcases h with ⟨h1, h2⟩ | h
 ·exact .inl ⟨hA b hb h1, h2⟩
 ·exact .inr h
theorem Rd.chA {dep : List Nat} {d : D} {t : Ty} {cs : List Value} (h : Rd w (FFD A p dep) d t cs) : Rd w (FFD A' p dep) d t cs := Rd.mono (fun b hb hf => hf.chA hA hb) h
theorem Fl.chA {dep : List Nat} {o : Option Nat} {d : D} {t : Ty} {cs : List Value} (h : Fl A p w dep o d t cs) : Fl A' p w dep o d t cs := by
 cases o with
 | none => exact Rd.chA hA h
 | some pin =>
  rcases h with ⟨E, te, l, v, e1, hte, e2, e3, hv⟩ | h
  ·refine .inl ⟨E, te, l, v, e1, hte, e2, e3, ?_⟩
   rcases hv with hv | ⟨g, cap, cur, e4, hg, hh, q1, q2, q3, q4, q5⟩
   ·exact .inl hv
   ·refine .inr ⟨g, cap, cur, e4, hg, hh, q1, q2, q3, q4, fun i hi => ?_⟩
    obtain ⟨vs, hr1, hd⟩ := q5 i hi
    exact ⟨vs, hr1, Rd.chA hA hd⟩
  ·exact .inr h
theorem Fls.chA {dep : List Nat} {own : List (Nat × Nat)} : ∀ {ds : List D} {j : Nat} {fs : List Ty} {cs : List Value}, Fls A p w dep own j ds fs cs → Fls A' p w dep own j ds fs cs
 | [], _, _, _, h => h
 | d :: ds, j, fs, cs, ⟨t, ts, c1, c2, e1, e2, h1, h2⟩ => ⟨t, ts, c1, c2, e1, e2, Fl.chA hA h1, Fls.chA h2⟩
theorem Con.chA {dep : List Nat} {own : List (Nat × Nat)} {d : D} {t : Ty} {cs : List Value} (h : Con A p w d t own dep cs) : Con A' p w d t own dep cs := by
 unfold Con at h ⊢
 split
 ·obtain ⟨fs, ds, hf, e, h⟩ := h
  exact ⟨fs, ds, hf, e, Fls.chA hA h⟩
 ·rename_i hne
  split at h
  ·rename_i T; exact absurd rfl (hne T)
  ·exact Fl.chA hA h
end
mutual
/-- No word of a snapshot within. -/
def AV.plain : AV → Bool
 | .sn _ _ => false
 | .pt _ _ _ _ => false
 | .ar _ _ _ => false
 | .lv _ _ => false
 | .ax _ _ _ _ => false
 | .tup l => qbe l
 | .gd _ a => AV.plain a
 | .fn _ l => qbe l
 | .bx _ _ a => AV.plain a
 | .fr _ a => AV.plain a
 | .ff _ _ _ _ _ _ _ _ => true
 | _ => true
def qbe : List AV → Bool
 | [] => true
 | a :: l => AV.plain a && qbe l
end
section
variable {c c' : Cx} {p : ql} {w : World}
mutual
theorem AV.chA (hA : ∀ b, b < w.heap.size → c.A b → c'.A b) (hv : c.v = c'.v) (hT : c.At = c'.At) (hF : c.F = c'.F) : ∀ (x : AV) (v : Value), x.plain = true → x.pd c p w v → x.pd c' p w v
 | .any, v, _, h => h
 | .undef, v, _, h => h
 | .nilS, v, _, h => h
 | .nb x neg, v, _, ⟨b, e, h⟩ => ⟨b, e, by rw [← hv]; exact h⟩
 | .nilP, v, _, h => h
 | .ref k q o t, v, _, ⟨g, hg, e, ha⟩ => ⟨g, hg, e, by rw [← hT]; exact ha⟩
 | .v x t own dep, v, _, ⟨cs, hp, hc⟩ => ⟨cs, hp, by rw [← hv]; exact hc.chA hA⟩
 | .rd x t dep wr, v, _, ⟨b, o, cs, e, hf, hr, h0, hd, hw⟩ => by
  refine ⟨b, o, cs, e, hf.chA hA (q9u hr h0), hr, h0, by rw [← hv]; exact Rd.chA hA hd, ?_⟩
  match wr, hw with
  | none, _ => trivial
  | some (pin, i, pt, q, te), hw =>
   refine ⟨hw.1, ?_⟩
   rw [← hv]
   exact hw.2
 | .tup l, v, hb, ⟨vs, e, h⟩ => ⟨vs, e, qts hA hv hT hF l vs (by simpa [AV.plain] using hb) h⟩
 | .gd cs a, v, hb, h => by
  rw [show AV.pd c' p w (.gd cs a) v = ((hold c'.v cs = true → AV.pd c' p w a v) ∧ (hold c'.v cs = false → v = Go.undef)) from rfl, ← hv]
  exact ⟨fun hc => AV.chA hA hv hT hF a v (by simpa [AV.plain] using hb) (h.1 hc), h.2⟩
 | .fn f l, v, hb, ⟨vs, e, h⟩ => ⟨vs, e, qts hA hv hT hF l vs (by simpa [AV.plain] using hb) h⟩
 | .bx k T a, v, hb, ⟨g, u, hg, e, hh, h⟩ => ⟨g, u, ⟨hg.1, by rw [← hT]; exact hg.2⟩, e, hh, AV.chA hA hv hT hF a u (by simpa [AV.plain] using hb) h⟩
 | .sn t a, v, hb, h => by simp [AV.plain] at hb
 | .pt _ _ _ _, v, hb, h => by simp [AV.plain] at hb
 | .ar _ _ _, v, hb, h => by simp [AV.plain] at hb
 | .lv _ _, v, hb, h => by simp [AV.plain] at hb
 | .ax _ _ _ _, v, hb, h => by simp [AV.plain] at hb
 | .fr T a, v, hb, ⟨g, u, ha, hf, e, hh, h⟩ => ⟨g, u, hA g (Array.getElem?_eq_some_iff.1 hh).1 ha, hf, e, hh, AV.chA hA hv hT hF a u (by simpa [AV.plain] using hb) h⟩
 | .ff f T1 x1 t1 T2 x2 t2 dep, v, _, ⟨g, cs1, cs2, e, ha, hb, hfr, hg, hg2, r1, r2⟩ => ⟨g, cs1, cs2, e, ⟨hA g (qt hg) ha.1, ha.2⟩, ⟨hA (g + 1) (qt hg2) hb.1, hb.2⟩, by rw [← hF]; exact hfr, hg, hg2, by rw [← hv]; exact Rd.mono (fun b hb h => ⟨h.1.imp (fun y => ⟨hA b hb y.1, y.2⟩) id, h.2⟩) r1, by rw [← hv]; exact Rd.mono (fun b hb h => ⟨h.1.imp (fun y => ⟨hA b hb y.1, y.2⟩) id, h.2⟩) r2⟩
theorem qts (hA : ∀ b, b < w.heap.size → c.A b → c'.A b) (hv : c.v = c'.v) (hT : c.At = c'.At) (hF : c.F = c'.F) : ∀ (l : List AV) (vs : List Value), qbe l = true → pds c p w l vs → pds c' p w l vs
 | [], vs, _, h => h
 | a :: l, vs, hb, ⟨v, r, e, ha, hl⟩ => by
  simp only [qbe, Bool.and_eq_true] at hb
  exact ⟨v, r, e, AV.chA hA hv hT hF a v hb.1 ha, qts hA hv hT hF l r hb.2 hl⟩
end
theorem q0g.chA (hA : ∀ b, b < w.heap.size → c.A b → c'.A b) (hv : c.v = c'.v) {k : Nat} {e : Ent} (h : q0g c p w k e) : q0g c' p w k e := by
 obtain ⟨g, cs, T, hg, hh, hty, hc⟩ := h
 exact ⟨g, cs, T, hg, hh, hty, by rw [← hv]; exact hc.chA hA⟩
def z46 (l : List (Nat × AV)) : Bool := l.all fun e => e.2.plain
end
section
variable {A : Nat → Prop} {F : Flr} {p p' : ql} {w w' w0 : World} {S0 : Nat → Prop}
theorem Bs.anew (h : Bs A F w0 S0 p w) : Bs A F w (pinned p) p w :=
 ⟨h.inj, h.bd, But.refl _ _, fun x b hx => .inl ⟨x, hx⟩, fun b hb => h.new b (Nat.le_trans h.but.size hb), h.pa, h.obj, h.flo.anew⟩
theorem Bs.comp (h : Bs A F w0 S0 p w) (h' : Bs A F w (pinned p) p' w') : Bs A F w0 S0 p' w' := by
 refine ⟨h'.inj, h'.bd, ⟨h'.but.os.trans h.but.os, h'.but.tape.trans h.but.tape, h'.but.output.trans h.but.output, Nat.le_trans h.but.size h'.but.size, fun k hk hn => ?_⟩, fun x b hx => ?_, h.new, h'.pa, h'.obj, h.flo.trans h'.flo⟩
 ·have hkw : k < w.heap.size := Nat.lt_of_lt_of_le hk h.but.size
  refine (h'.but.block k hkw fun ⟨x, hx⟩ => ?_).trans (h.but.block k hk hn)
  rcases h.pin x k hx with h1 | h1
  ·exact hn h1
  ·omega
 ·rcases h'.pin x b hx with ⟨y, hy⟩ | h1
  ·exact h.pin y b hy
  ·exact .inr (Nat.le_trans h.but.size h1)
theorem Bs.stays (h' : Bs A F w (pinned p) p' w') {b : Nat} (hb : b < w.heap.size) (hf : q4n p b) : w'.heap[b]? = w.heap[b]? ∧ q4n p' b := by
 refine ⟨h'.but.block b hb fun ⟨x, hx⟩ => hf x hx, fun x hx => ?_⟩
 rcases h'.pin x b hx with ⟨y, hy⟩ | h1
 ·exact hf y hy
 ·omega
end
end
section
section
variable {c : Cx} {p : ql} {w w' w0 : World} {S0 : Nat → Prop} {a : Act} {σ σ' : St} {d : List Deferred} {z : Nat} {tbl : Tbl} {A : Nat → Prop} {F : Flr}
theorem z2w {l : Nat} (hA : ¬ A l) (pa : ∀ x b, p x = some b → A b) (o : Obj) : Stab A no no p w p (w.putObj l o) := by
 refine ⟨by simp, fun b hb ha hf => ⟨World.putObj_heap_other (fun e => hA (e ▸ ha)), hf⟩, fun x b _ hx => hx, fun x b _ hx => World.putObj_heap_other (fun e => hA (e ▸ pa x b hx))⟩
theorem SF.same (hs : Stab c.A no no p w p w') (h : SF c σ p w a) : SF c σ p w' a := by
 refine ⟨fun t x hx => ?_, fun k e he => (h.m k e he).kept hs (fun _ _ => ⟨rfl, rfl⟩) ⟨rfl, rfl⟩⟩
 obtain ⟨v, h1, h2⟩ := h.t t x hx
 exact ⟨v, h1, AV.kept hs x v (fun _ _ => ⟨rfl, rfl⟩) (fun _ _ => rfl) h2⟩
end
end
section
def ql3 (D : Nat) : Deferred := { target := .collected D, args := #[] }
def Dfs (A : Nat → Prop) (lb : Nat) (d : List Deferred) (w : World) (ds : List Deferred) : Prop := ∃ Ds : List Nat, ds = Ds.map ql3 ++ d ∧ Ds.Nodup ∧ ∀ D ∈ Ds, lb ≤ D ∧ w.heap[D]? = some (.deferred (some [])) ∧ ¬ A D
theorem Bs.up {A A' : Nat → Prop} {F : Flr} {p p' : ql} {w w' w0 : World} {S0 : Nat → Prop} (h : Bs A F w0 S0 p w) (h' : Bs A' F w (pinned p) p' w') (hA : ∀ b, A' b → A b) : Bs A F w0 S0 p' w' :=
 h.comp ⟨h'.inj, h'.bd, h'.but, h'.pin, fun b hb => h.new b (Nat.le_trans h.but.size hb), fun x b hx => hA b (h'.pa x b hx), h'.obj, h'.flo⟩
section
variable {lo z : Nat} {tbl : Tbl}
end
end
def shut (w : World) (D : Nat) : World := w.putObj D (.deferred none)
def q0j (w : World) (Ds : List Nat) : World := Ds.foldl shut w
theorem qq4 {F : Fence} {n : Nat} {fn : Func} {tmps : Array Value} {R : Ending → World → Prop} : ∀ (Ds : List Nat) (w : World), Ds.Nodup → (∀ D ∈ Ds, w.heap[D]? = some (.deferred (some []))) → LeavesIn F n Try.prog fn tmps R [] .returning (q0j w Ds) → LeavesInM F n Try.prog fn tmps R (Ds.map ql3) .returning w
 | [], w, _, _, h => h
 | D :: Ds, w, hn, hd, h => by
  obtain ⟨h1, h2⟩ := List.nodup_cons.1 hn
  exact ⟨by simp, .inl ⟨D, _, rfl, run_takeDeferred (hd D List.mem_cons_self), qq4 Ds _ h2 (fun D' hD' => (World.putObj_heap_other (fun e => h1 (by rw [← e]; exact hD'))).trans (hd D' (List.mem_cons_of_mem _ hD'))) h⟩⟩
theorem qe2 {A : Nat → Prop} {p : ql} (pa : ∀ x b, p x = some b → A b) : ∀ (Ds : List Nat) (w : World), (∀ D ∈ Ds, ¬ A D) → Stab A no no p w p (q0j w Ds)
 | [], w, _ => Stab.refl _ _ _ _ _
 | D :: Ds, w, h => by
  have h1 := z2w (w := w) (h D List.mem_cons_self) pa (.deferred none)
  have h2 := qe2 pa Ds (w.putObj D (.deferred none)) fun D' hD' => h D' (List.mem_cons_of_mem _ hD')
  exact ⟨Nat.le_trans h1.size h2.size, fun b hb ha hf => ⟨(h2.free b (Nat.lt_of_lt_of_le hb h1.size) ha hf).1.trans (h1.free b hb ha hf).1, hf⟩, fun x b _ hx => hx, fun x b _ hx => (h2.con x b rfl hx).trans (h1.con x b rfl hx)⟩
theorem qlv {A A' : Nat → Prop} {F : Flr} (hfz : ∀ te, F.mx te = 0) {p : ql} {w0 : World} {S0 : Nat → Prop} (pa : ∀ x b, p x = some b → A' b) : ∀ (Ds : List Nat) (w : World), Bs A F w0 S0 p w → (∀ D ∈ Ds, w0.heap.size ≤ D ∧ ¬ A' D) → Bs A F w0 S0 p (q0j w Ds)
 | [], w, h, _ => h
 | D :: Ds, w, h, hD => by
  obtain ⟨h1, h2⟩ := hD D List.mem_cons_self
  refine qlv hfz pa Ds (w.putObj D (.deferred none)) ⟨h.inj, fun x b hx => by simpa using h.bd x b hx, ⟨h.but.os, h.but.tape, h.but.output, by simpa using h.but.size, fun k hk hn => (World.putObj_heap_other (by omega)).trans (h.but.block k hk hn)⟩, h.pin, h.new, h.pa, fun x b hx => (h.obj x b hx).same (World.putObj_heap_other (fun e => h2 (by rw [← e]; exact pa x b hx))), Flo.of0 hfz h.flo⟩ fun D' hD' => hD D' (List.mem_cons_of_mem _ hD')
theorem q88.chA {A A' : Nat → Prop} {p : ql} {w : World} (hA : ∀ b, b < w.heap.size → A b → A' b) : ∀ {rs : List (Ty × Bool)} {k : Nat} {vs : List Value} {ds : List D}, q88 A p w rs k vs ds → q88 A' p w rs k vs ds
  | [], _, _, _, h => h
  | (t, own) :: l, k, vs, ds, ⟨v, r, d, ds', e1, e2, ⟨cs, hp, hc⟩, h⟩ => ⟨v, r, d, ds', e1, e2, ⟨cs, hp, hc.chA hA⟩, q88.chA hA h⟩
theorem q2a.chA {A A' : Nat → Prop} {p p' : ql} {w : World} (hA : ∀ b, b < w.heap.size → A b → A' b) : ∀ {all : List (Nat × Ar)} {ds : List D}, q2a A p p' w all ds → q2a A' p p' w all ds
  | [], _, h => h
  | (i, r) :: l, ds, h => by
    cases r with
    | ref t o =>
      obtain ⟨d, ds', e, ⟨g, cs, T, h1, h2, h3, hty, hc⟩, h⟩ := h
      exact ⟨d, ds', e, ⟨g, cs, T, h1, h2, h3, hty, hc.chA hA⟩, q2a.chA hA h⟩
    | mref t =>
      obtain ⟨d, ds', e, ⟨g, h1, h2, hc⟩, h⟩ := h
      exact ⟨d, ds', e, ⟨g, h1, h2, hc.chA hA⟩, q2a.chA hA h⟩
    | _ => exact q2a.chA hA (all := l) h
def zgy : Ar → Bool
 | .mref _ => false
 | _ => true
section
theorem yz (n : Int) : (D.i n).int = n := rfl
theorem q4k (x : Bool) : (D.b x).tt = x := by cases x <;> rfl
theorem q6i (l : List D) : (D.r l).rs = l := rfl
theorem zis (l : List D) : (D.a l).fs = l := rfl
theorem q4p (x : ByteArray) : (D.s x).str = x := rfl
theorem z5i (l : List D) : (D.mp l).ms = l := rfl
theorem qqt (m n : Int) : (D.i m = D.i n) = (m = n) := by simp
theorem zce (m n : Bool) : (D.b m = D.b n) = (m = n) := by simp
theorem zd4 (m n : ByteArray) : (D.s m = D.s n) = (m = n) := by simp
theorem qa {S : Nat → List D → Option (List D)} {R : List D → Prop} {ns : List X} {t : Tree} {l : List D} {B : Nat → List D → Prop} : (Tree.need ns t).go S R l B = (qf (evl S l) ns ∧ t.go S R l B) := rfl
theorem qg {S : Nat → List D → Option (List D)} {R : List D → Prop} {x : X} {t e : Tree} {l : List D} {B : Nat → List D → Prop} : (Tree.br x t e).go S R l B = (((x.ev (evl S l)).tt = true → t.go S R l B) ∧ ((x.ev (evl S l)).tt = false → e.go S R l B)) := rfl
theorem qb {S : Nat → List D → Option (List D)} {R : List D → Prop} {xs : List X} {l : List D} {B : Nat → List D → Prop} : (Tree.leaf xs).go S R l B = R (X.evs (evl S l) xs) := rfl
theorem qd {S : Nat → List D → Option (List D)} {R : List D → Prop} {id : Nat} {xs : List X} {l : List D} {B : Nat → List D → Prop} : (Tree.back id xs).go S R l B = B id (X.evs (evl S l) xs) := rfl
theorem jm {S : Nat → List D → Option (List D)} {R : List D → Prop} {id n : Nat} {init : List X} {body : Tree} {l : List D} {B : Nat → List D → Prop} : (Tree.loop id n init body).go S R l B = ∃ (I : List D → Prop) (μ : List D → Nat), I (X.evs (evl S l) init) ∧
   ∀ st, st.length = init.length → I st → body.go S R (l.take n ++ st) (q3l B id fun st' => I st' ∧ μ st' < μ st) := rfl
theorem q4a {n : Int} : yo .i64 n = true ↔ -9223372036854775808 ≤ n ∧ n ≤ 9223372036854775807 := by simp [yo]
section
variable {α : Type} [Inhabited α]
theorem get_map (e : α → D) {l : List α} {i : Nat} (h : i < l.length) : (l.map e).getD i .u = e (l.getD i default) := by
 simp [List.getD_eq_getElem?_getD, h]
theorem qwd (e : α → D) {l : List α} {i : Int} (h0 : 0 ≤ i) (h : i < l.length) : (D.r (l.map e)).get i = e (l.getD i.toNat default) := get_map e (by omega)
theorem qba (e : α → D) {l : List α} {i : Nat} (h : i < l.length) : (D.r (l.map e)).get (i : Int) = e (l.getD i default) := get_map e (by simpa using h)
omit [Inhabited α] in
theorem qb8 {e : α → D} {P : α → Prop} {l : List D} (h : ∀ x ∈ l, ∃ a, x = e a ∧ P a) : ∃ m : List α, l = m.map e ∧ ∀ a ∈ m, P a := by
 induction l with
 | nil => exact ⟨[], rfl, fun a ha => by cases ha⟩
 | cons x l ih =>
  obtain ⟨a, rfl, ha⟩ := h x List.mem_cons_self
  obtain ⟨m, rfl, hm⟩ := ih fun y hy => h y (List.mem_cons_of_mem _ hy)
  refine ⟨a :: m, rfl, fun b hb => ?_⟩
  rcases List.mem_cons.1 hb with rfl | hb
  ·exact ha
  ·exact hm b hb
theorem q7p {l : List α} {i : Nat} (h : i < l.length) : l.getD i default ∈ l := by
 rw [List.getD_eq_getElem?_getD, List.getElem?_eq_getElem h]
 exact List.getElem_mem h
theorem qca {l : List α} {k : Nat} (h : k < l.length) : l.take (k + 1) = l.take k ++ [l.getD k default] := by
 rw [List.take_add_one, List.getElem?_eq_getElem h]
 simp [List.getD_eq_getElem?_getD, h]
end
theorem z9q {n : Nat} {P : Nat → Bool} (h : ∀ j, j < n → P j = true) : (List.range n).all P = true := by
 rw [List.all_eq_true]
 exact fun j hj => h j (List.mem_range.1 hj)
theorem z0v {n k : Nat} {P : Nat → Bool} (hk : k < n) (h : P k = false) : (List.range n).all P = false := by
 cases ha : (List.range n).all P with
 | false => rfl
 | true => rw [List.all_eq_true.1 ha k (List.mem_range.2 hk)] at h; cases h
theorem qtq {n k : Nat} {P : Nat → Bool} (h : (List.range n).all P = true) (hk : k < n) : P k = true := List.all_eq_true.1 h k (List.mem_range.2 hk)
theorem q5l {P : Nat → Prop} {k : Nat} (h : ∀ j, j < k → P j) (hk : P k) : ∀ j, j < k + 1 → P j := fun j hj => by
 rcases Nat.lt_succ_iff_lt_or_eq.1 hj with h1 | h1
 ·exact h j h1
 ·exact h1 ▸ hk
theorem qv6 {ds : List D} {t u : Ty} (h : WfL ds [t, u]) : ∃ a b, ds = [a, b] ∧ Wf a t ∧ Wf b u := by
 match ds, h with
 | [], h => cases h
 | [a], h => obtain ⟨t, ts, e, h1, h2⟩ := h; rw [h2] at e; cases e
 | [a, b], h =>
  obtain ⟨t, ts, e, h1, t2, ts2, e2, h2, -⟩ := h
  injection e with e e'
  subst e e'
  injection e2 with e2 e2'
  subst e2
  exact ⟨a, b, rfl, h1, h2⟩
 | a :: b :: c :: l, h => obtain ⟨t, ts, e, h1, t2, ts2, e2, h2, t3, ts3, e3, -⟩ := h; subst e2 e3; cases e
theorem q7f {ds : List D} {t : Ty} {ts : List Ty} (h : WfL ds (t :: ts)) : ∃ a r, ds = a :: r ∧ Wf a t ∧ WfL r ts := by
 match ds, h with
 | [], h => cases h
 | a :: r, h =>
  obtain ⟨t, ts, e, h1, h2⟩ := h
  injection e with e e'
  subst e e'
  exact ⟨a, r, rfl, h1, h2⟩
theorem Wf.st_of {d : D} {S : TypeId} {fs : List Ty} (h : Wf d (.st S)) (hf : flds S = some fs) : ∃ ds, d = .a ds ∧ WfL ds fs := by
 obtain ⟨ds, fs', rfl, hf', hl⟩ := h.st
 rw [hf] at hf'
 injection hf' with hf'
 subst hf'
 exact ⟨ds, rfl, hl⟩
theorem Wf.row_of {d : D} {E : TypeId} {te : Ty} (h : Wf d (.row E)) (hE : qp E = some te) : ∃ l, d = .r l ∧ l.length ≤ LM te ∧ ∀ x ∈ l, Wf x te := by
 obtain ⟨l, te', rfl, hE', h1, h2⟩ := h.row
 rw [hE] at hE'
 injection hE' with hE'
 subst hE'
 exact ⟨l, rfl, h1, h2⟩
end
section
def zjq (o : Oper) : Bool := match o.op with
 | .defer _ => true
 | _ => false
def qcs : Code → Option (List Code × Nat × List Oper × Code)
 | .seq (.region id ops false) y => if ops.toList.any zjq then some ([], id, ops.toList, y) else (qcs y).map fun r => (.region id ops false :: r.1, r.2)
 | .seq x y => (qcs y).map fun r => (x :: r.1, r.2)
 | _ => none
def z3h (P : Program) (Q : Exit → Act → World → Prop) : List Code → (Act → World → Prop) → Act → World → Prop
 | [], K => K
 | x :: xs, K => fun a w => x.wp P (Exit.then (z3h P Q xs K) Q) a w
theorem qrp {P : Program} {Q : Exit → Act → World → Prop} : ∀ {cd : Code} {xs : List Code} {id : Nat} {ops : List Oper} {post : Code}, qcs cd = some (xs, id, ops, post) → ∀ {a : Act} {w : World}, z3h P Q xs (fun a w => (Code.seq (.region id ops.toArray false) post).wp P Q a w) a w → cd.wp P Q a w
 | .seq x y, xs, id, ops, post, h, a, w, hw => by
  unfold qcs at h
  split at h
  ·rename_i id' ops' y' e
   injection e with e1 e2
   subst e1 e2
   split at h
   ·simp only [Option.some.injEq, Prod.mk.injEq] at h
    obtain ⟨rfl, rfl, rfl, rfl⟩ := h
    exact hw
   ·obtain ⟨⟨xs1, r1⟩, h1, h2⟩ := Option.map_eq_some_iff.1 h
    simp only [Prod.mk.injEq] at h2
    obtain ⟨rfl, rfl⟩ := h2
    refine wp_seq (wp_mono hw fun e a w hq => ?_)
    cases e with
    | normal => exact qrp h1 hq
    | _ => exact hq
  ·rename_i x' y' hne e
   injection e with e1 e2
   subst e1 e2
   obtain ⟨⟨xs1, r1⟩, h1, h2⟩ := Option.map_eq_some_iff.1 h
   simp only [Prod.mk.injEq] at h2
   obtain ⟨rfl, rfl⟩ := h2
   refine wp_seq (wp_mono hw fun e a w hq => ?_)
   cases e with
   | normal => exact qrp h1 hq
   | _ => exact hq
  ·cases h
 | .skip, _, _, _, _, h, _, _, _ => by simp [qcs] at h
 | .region _ _ _, _, _, _, _, h, _, _, _ => by simp [qcs] at h
 | .cond _ _ _, _, _, _, _, h, _, _, _ => by simp [qcs] at h
 | .block _ _, _, _, _, _, h, _, _, _ => by simp [qcs] at h
 | .exit _, _, _, _, _, h, _, _, _ => by simp [qcs] at h
 | .ret, _, _, _, _, h, _, _, _ => by simp [qcs] at h
 | .loop _, _, _, _, _, h, _, _, _ => by simp [qcs] at h
 | .label _, _, _, _, _, h, _, _, _ => by simp [qcs] at h
 | .scope _, _, _, _, _, h, _, _, _ => by simp [qcs] at h
 | .goto _, _, _, _, _, h, _, _, _ => by simp [qcs] at h
 | .rangeFunc _ _ _ _, _, _, _, _, h, _, _, _ => by simp [qcs] at h
def zc4 (o : Oper) : Option Nat := match o.op, o.dst, o.guard with
 | .defer c, none, none => (match c.callee, c.args.toList with
  | .value (.tmp t), [] => some t
  | _, _ => none)
 | _, _, _ => none
mutual
def q6q : AV → Bool
 | .sn _ _ => false
 | .tup l => qwf l
 | .gd _ a => q6q a
 | .fn _ l => qwf l
 | .bx _ _ a => q6q a
 | .ax _ _ _ a => q6q a
 | .fr _ a => q6q a
 | .pt _ _ _ a => q6q a
 | _ => true
def qwf : List AV → Bool
 | [] => true
 | a :: l => q6q a && qwf l
end
section
variable {c : Cx} {s : Nat → Value} {p : ql} {w : World}
mutual
theorem q8f : ∀ (a : AV) (v : Value), q6q a = true → AV.pd c p w a v → AV.pd { c with snap := s } p w a v
 | .sn _ _, v, h, _ => by simp [q6q] at h
 | .tup l, v, h, hp => by
  obtain ⟨vs, e, hl⟩ := hp
  exact ⟨vs, e, qla l vs (by simpa [q6q] using h) hl⟩
 | .gd cs a, v, h, hp => ⟨fun hh => q8f a v (by simpa [q6q] using h) (hp.1 hh), hp.2⟩
 | .fn f l, v, h, hp => by
  obtain ⟨vs, e, hl⟩ := hp
  exact ⟨vs, e, qla l vs (by simpa [q6q] using h) hl⟩
 | .bx k T a, v, h, hp => by
  obtain ⟨g, u, h1, h2, h3, h4⟩ := hp
  exact ⟨g, u, h1, h2, h3, q8f a u (by simpa [q6q] using h) h4⟩
 | .ax k T n a, v, h, hp => by
  obtain ⟨g, cs, h1, h2, h3, h4, h5⟩ := hp
  exact ⟨g, cs, h1, h2, h3, h4, q8f a _ (by simpa [q6q] using h) h5⟩
 | .fr T a, v, h, hp => by
  obtain ⟨g, u, h1, h2, h3, h4, h5⟩ := hp
  exact ⟨g, u, h1, h2, h3, h4, q8f a u (by simpa [q6q] using h) h5⟩
 | .ff _ _ _ _ _ _ _ _, v, _, hp => hp
 | .pt pin i E a, v, h, hp => ⟨hp.1, q8f a v (by simpa [q6q] using h) hp.2⟩
 | .any, v, _, hp => hp
 | .undef, v, _, hp => hp
 | .v _ _ _ _, v, _, hp => hp
 | .nilS, v, _, hp => hp
 | .nilP, v, _, hp => hp
 | .ref _ _ _ _, v, _, hp => hp
 | .rd _ _ _ _, v, _, hp => hp
 | .nb _ _, v, _, hp => hp
 | .ar _ _ _, v, _, hp => hp
 | .lv _ _, v, _, hp => hp
theorem qla : ∀ (l : List AV) (vs : List Value), qwf l = true → pds c p w l vs → pds { c with snap := s } p w l vs
 | [], vs, _, hp => hp
 | a :: l, vs, h, hp => by
  simp only [qwf, Bool.and_eq_true] at h
  obtain ⟨v, r, e, h1, h2⟩ := hp
  exact ⟨v, r, e, q8f a v h.1 h1, qla l r h.2 h2⟩
end
end
def q3w (P : Program) (tbl : Tbl) (ann : Ann) (lo z : Nat) : List Code → Nat → St → (Nat → ResD → St → Tree) → Tree
 | [], n, σ, k => k n .normal σ
 | x :: xs, n, σ, k => toT P tbl ann lo z x [] n σ fun n' r σ' => match r with
  | .normal => q3w P tbl ann lo z xs n' σ' k
  | .ret => k n' .ret σ'
  | .exit i => k n' (.exit i) σ'
section
variable {c : Cx} {p : ql} {w w0 : World} {S0 : Nat → Prop} {a : Act} {σ σ' : St} {d : List Deferred} {z : Nat} {tbl : Tbl}
theorem z0o (htb : jr tbl) (hfm : ∀ te, c.F.mx te ≤ flM tbl te) {ann : Ann} {R : List D → Prop} (hnp : q6o tbl = true) {Q : Exit → Act → World → Prop} {K : Act → World → Prop} : ∀ (xs : List Code) {n : Nat} {σ : St} {k : Nat → ResD → St → Tree} {l : List D} {B : Nat → List D → Prop} {p : ql} {w : World} {a : Act},
  (q3w Try.prog tbl ann c.lo z xs n σ k).go (qe tbl) R l B → l.length = n → Bs c.A c.F w0 S0 p w → SF (c.at (qe tbl) l) σ p w a → a.defers = d → a.tmps.size = z →
  (∀ n' r σ' l' B' p' w' a', l'.length = n' → (k n' r σ').go (qe tbl) R l' B' → Bs c.A c.F w0 S0 p' w' → SF (c.at (qe tbl) l') σ' p' w' a' → a'.defers = d → a'.tmps.size = z → Exit.then K Q r.exit' a' w') → z3h Try.prog Q xs K a w
 | [], n, σ, k, l, B, p, w, a, h, hl, hb, hf, hd, hz, hk => hk n .normal σ l B p w a hl h hb hf hd hz
 | x :: xs, n, σ, k, l, B, p, w, a, h, hl, hb, hf, hd, hz, hk => by
  refine (wpIn_wide (n := 0)).1 ?_
  refine qhm none 0 htb hfm x h hl hb hf hd hz (q3e hnp) (qej hnp) fun n' r σ' l' B' p' w' a' hl' _ _ hgo hb' hf' hd' hz' => ?_
  cases r with
  | normal => exact z0o htb hfm hnp xs hgo hl' hb' hf' hd' hz' hk
  | ret => exact hk n' .ret σ' l' B' p' w' a' hl' hgo hb' hf' hd' hz'
  | exit i => exact hk n' (.exit i) σ' l' B' p' w' a' hl' hgo hb' hf' hd' hz'
theorem z0w {o : Oper} {t : Nat} (h : zc4 o = some t) {f : FuncId} {caps : Array Value} (hv : a.eval (.tmp t) = .func (.func f) #[] caps) {K : Act → World → Prop} {Q : Exit → Act → World → Prop} (hk : K { a with defers := { target := .fn (.func f) caps, args := #[] } :: a.defers } w) :
  o.guard = none ∧ o.wp Try.prog a w K Q := by
 unfold zc4 at h
 split at h
 ·rename_i cl ho hdst hg
  split at h
  ·rename_i t' hcal hargs
   injection h with h
   subst h
   refine ⟨hg, ?_⟩
   obtain ⟨callee, ⟨args⟩, tys⟩ := cl
   simp only at hcal hargs
   subst hcal hargs
   have hrun : (execOp a.eval o).run Try.prog w = .ok (.defer { target := .fn (.func f) caps, args := #[] }) w := by
    generalize a.eval = r at *
    simp [execOp, ho, resolve, Deferred.ofValue, hv]
   unfold Oper.wp
   rw [hrun]
   show K ({ a with defers := _ :: a.defers }.put o.dst undef) w
   rw [hdst]
   exact hk
  ·cases h
 ·cases h
end
end
abbrev zj : Ty := .row 33
abbrev qhz : Ty := .row 58
abbrev qs3 : Ty := .row 69
abbrev q2s : Ty := .row 65
abbrev qj : Ty := .st 26
abbrev qn : Ty := .st 32
abbrev zu : Ty := .int .i64
abbrev qer : Ty := .row 46
abbrev qhh : Ty := .st 45
abbrev j4 : Ty := .st 57
abbrev zs : Ty := .st 64
abbrev q17 : Ty := .st 68
abbrev qxc : Ty := .row 98
abbrev qgp : Ty := .st 97
abbrev GfZ := List D → Option (List D)
def EnZ (ct : Ct) : Prop := ∀ (args : Array Value) (w : World), (callFunc ct.f args).run Try.prog w = .ok (.enter ct.f args) w
def CdZ (T : Tbl) (a : Ann) (ct : Ct) (f : Func) (t : Tree) : Prop := ∀ cd, f.body = some cd → qa9 Try.prog T a ct f cd = t
def HgZ (t : Tree) (ct : Ct) (T : Tbl) (g : GfZ) : Prop := ∀ ds outs, WfA ct.ars ds → g ds = some outs → t.go (qe T) (fun o => o = outs) ds fun _ _ => False
theorem jc {ct : Ct} {g : GfZ} {T : Tbl} {a : Ann} {f : Func} {t : Tree} {cd : Code} (hc : CdZ T a ct f t) (htb : jr T) (hf : Try.prog.funcs[ct.f]? = some f) (hb : f.body = some cd) (he : EnZ ct) (hd : ct.ar.length ≤ f.ntmps) (h : HgZ t ct T g) (hnp : q6o T = true := by rfl) (hkp : ct.kp = [] := by rfl) (hfl : ct.fl = [] := by rfl) : FOk ct g :=
 z51 a f cd htb hf hb he hd (fun ds outs hw hg => by rw [hc cd hb]; exact h ds outs hw hg) hnp hkp hfl
def q0l : Ct := ⟨58, [.val (.int .i64)], [(.st 26, true), (.int .i64, false)], [], none, [], []⟩
theorem qjj : EnZ q0l := fun _ _ => by kernel_rfl
def qp2 : Ann := ⟨[0, 2, 3, 9], []⟩
def q7o : Tree := (.br (.or (.lt (.tok 0) (.lit (.i 1))) (.lt (.lit (.i 1048576)) (.tok 0))) (.leaf [(.lit (.a [(.r []), (.r []), (.r []), (.r []), (.i 0), (.i 0)])), (.lit (.i 1))]) (.leaf [(.set (.lit (.a [(.r []), (.r []), (.r []), (.r []), (.i 0), (.i 0)])) 5 (.tok 0)), (.lit (.i 0))]))
theorem qog : CdZ [] qp2 q0l Try.f58 q7o := fun cd h => by injection h with h; subst h; kernel_rfl
theorem qpg {g : GfZ} (h : HgZ q7o q0l [] g) : FOk q0l g := jc (qog) .nil rfl rfl qjj (by decide) h
def qy : Ct := ⟨10, [.ref (.st 26) true], [(.st 32, false), (.int .i64, false)], [], none, [], [(0, 0, .st 32), (0, 1, .st 57), (0, 2, .st 68), (0, 3, .st 64)]⟩
theorem q1h : EnZ qy := fun _ _ => by kernel_rfl
def qan : Ann := ⟨[0, 2, 3, 5, 16], []⟩
def q5h : Tree := (.br (.le (.fld (.tok 0) 5) (.len (.fld (.tok 0) 0))) (.leaf [(.lit (.a [(.i 0), (.i 0)])), (.lit (.i 13)), (.tok 0)]) (.need [(.le (.add (.len (.fld (.tok 0) 0)) (.lit (.i 1))) (.lit (.i 8796093021952))), (.le (.call 0 0 []) (.len (.fld (.tok 0) 0)))] (.leaf [(.mk [(.lit (.i 0)), (.len (.fld (.tok 0) 0))]), (.lit (.i 0)), (.set (.tok 0) 0 (.app (.fld (.tok 0) 0) (.row [(.mk [(.lit (.i 0)), (.len (.fld (.tok 0) 0))])])))])))
theorem qgx (m0 m1 m2 m3 : Int) : CdZ [(j5 qy.f (.st 32), fun _ => some [.i m0]), (j5 qy.f (.st 57), fun _ => some [.i m1]), (j5 qy.f (.st 68), fun _ => some [.i m2]), (j5 qy.f (.st 64), fun _ => some [.i m3])] qan qy Try.f10 q5h := fun cd h => by injection h with h; subst h; kernel_rfl
theorem qjh {g : List D → Option (List D)}  (h : ∀ ds outs, WfA qy.ars ds → g ds = some outs → q5h.go (qe [(j5 qy.f (.st 32), fun _ => some [.i (((ds.getD 0 .u).fld 0).rs.length : Nat)]), (j5 qy.f (.st 57), fun _ => some [.i (((ds.getD 0 .u).fld 1).rs.length : Nat)]), (j5 qy.f (.st 68), fun _ => some [.i (((ds.getD 0 .u).fld 2).rs.length : Nat)]), (j5 qy.f (.st 64), fun _ => some [.i (((ds.getD 0 .u).fld 3).rs.length : Nat)])]) (fun o => o = outs) ds fun _ _ => False) : FOk qy g :=
 FOk.of_at q1h fun ds outs hw hg => qua qan Try.f10 _ (.cons (q0n _ q1h _ _) (.cons (q0n _ q1h _ _) (.cons (q0n _ q1h _ _) (.cons (q0n _ q1h _ _) .nil)))) rfl rfl (by decide) (by rw [qgx _ _ _ _  _ rfl]; exact h ds outs hw hg) rfl (FlF.of fun k j te hm => by
  rw [show qy.fl = [(0, 0, .st 32), (0, 1, .st 57), (0, 2, .st 68), (0, 3, .st 64)] from rfl] at hm
  simp only [List.mem_cons, Prod.mk.injEq, List.not_mem_nil, or_false] at hm
  rcases hm with ⟨rfl, rfl, rfl⟩ | ⟨rfl, rfl, rfl⟩ | ⟨rfl, rfl, rfl⟩ | ⟨rfl, rfl, rfl⟩ <;> exact ⟨by decide, Nat.le_refl _⟩)
def jq : Ct := ⟨12, [.val (.int .i64)], [(.st 32, false)], [], none, [], []⟩
theorem qat : EnZ jq := fun _ _ => by kernel_rfl
def qpe : Ann := ⟨[0, 2], []⟩
def q7n : Tree := (.leaf [(.mk [(.lit (.i 1)), (.tok 0)])])
theorem qni : CdZ [] qpe jq Try.f12 q7n := fun cd h => by injection h with h; subst h; kernel_rfl
theorem qp6 {g : GfZ} (h : HgZ q7n jq [] g) : FOk jq g := jc (qni) .nil rfl rfl qat (by decide) h
def yv : Ct := ⟨53, [.val (.st 26), .val (.int .i64)], [(.int .i64, false)], [], none, [], []⟩
theorem qey : EnZ yv := fun _ _ => by kernel_rfl
def qju : Ann := ⟨[0, 1, 2, 4, 13], []⟩
def q59 : Tree := (.br (.or (.lt (.tok 1) (.lit (.i 0))) (.le (.len (.fld (.tok 0) 1)) (.tok 1))) (.leaf [(.lit (.i (-1)))]) (.need [(.le (.lit (.i 0)) (.tok 1)), (.lt (.tok 1) (.len (.fld (.tok 0) 1)))] (.leaf [(.fld (.get (.fld (.tok 0) 1) (.tok 1)) 1)])))
theorem qhw : CdZ [] qju yv Try.f53 q59 := fun cd h => by injection h with h; subst h; kernel_rfl
theorem qiv {g : GfZ} (h : HgZ q59 yv [] g) : FOk yv g := jc (qhw) .nil rfl rfl qey (by decide) h
def yi : Ct := ⟨54, [.val (.st 26), .val (.int .i64)], [(.int .i64, false)], [], none, [], []⟩
theorem qj5 : EnZ yi := fun _ _ => by kernel_rfl
def qpw : Ann := ⟨[0, 1, 2, 4, 13], []⟩
def q7u : Tree := (.br (.or (.lt (.tok 1) (.lit (.i 0))) (.le (.len (.fld (.tok 0) 0)) (.tok 1))) (.leaf [(.lit (.i (-1)))]) (.need [(.le (.lit (.i 0)) (.tok 1)), (.lt (.tok 1) (.len (.fld (.tok 0) 0)))] (.leaf [(.fld (.get (.fld (.tok 0) 0) (.tok 1)) 0)])))
theorem qm4 : CdZ [] qpw yi Try.f54 q7u := fun cd h => by injection h with h; subst h; kernel_rfl
theorem qpk {g : GfZ} (h : HgZ q7u yi [] g) : FOk yi g := jc (qm4) .nil rfl rfl qj5 (by decide) h
def qm : Ct := ⟨30, [.val (.st 26), .val (.st 32)], [(.bool, false)], [], none, [], []⟩
theorem qax : EnZ qm := fun _ _ => by kernel_rfl
def qd3 : Ann := ⟨[0, 1, 2, 3, 4, 5, 7, 8, 10, 17, 29, 36], []⟩
def q2h : Tree := (.br (.eq (.fld (.tok 1) 0) (.lit (.i 1))) (.leaf [(.lit (.b .true))]) (.br (.eq (.fld (.tok 1) 0) (.lit (.i 2))) (.need [(.ok 0 [(.tok 0), (.fld (.tok 1) 1)])] (.leaf [(.eq (.call 0 0 [(.tok 0), (.fld (.tok 1) 1)]) (.lit (.i 0)))])) (.br (.eq (.fld (.tok 1) 0) (.lit (.i 0))) (.need [(.ok 1 [(.tok 0), (.fld (.tok 1) 1)])] (.leaf [(.and (.le (.lit (.i 0)) (.call 1 0 [(.tok 0), (.fld (.tok 1) 1)])) (.not (.eq (.call 1 0 [(.tok 0), (.fld (.tok 1) 1)]) (.lit (.i 4)))))])) (.br (.eq (.fld (.tok 1) 0) (.lit (.i 3))) (.need [(.ok 1 [(.tok 0), (.fld (.tok 1) 1)])] (.leaf [(.eq (.call 1 0 [(.tok 0), (.fld (.tok 1) 1)]) (.lit (.i 4)))])) (.br (.eq (.fld (.tok 1) 0) (.lit (.i 5))) (.need [(.ok 1 [(.tok 0), (.fld (.tok 1) 1)])] (.leaf [(.eq (.call 1 0 [(.tok 0), (.fld (.tok 1) 1)]) (.lit (.i 5)))])) (.leaf [(.lit (.b .false))]))))))
theorem qbu (g0 g1 : GfZ) : CdZ [(yv, g0), (yi, g1)] qd3 qm Try.f30 q2h := fun cd h => by injection h with h; subst h; kernel_rfl
theorem qcu {g0 g1 g : GfZ} (h0 : FOk yv g0) (h1 : FOk yi g1) (h : HgZ q2h qm [(yv, g0), (yi, g1)] g) : FOk qm g := jc (qbu g0 g1) (.cons h0 (.cons h1 .nil)) rfl rfl qax (by decide) h
def zg : Ct := ⟨42, [.val (.st 26), .val (.st 32)], [(.st 32, false)], [], none, [], []⟩
theorem qf8 : EnZ zg := fun _ _ => by kernel_rfl
def qjq : Ann := ⟨[0, 1, 2, 3, 4, 8, 12, 13, 14, 34], [(4, ⟨[(13, .int .i64, false)], [3], [14, 15, 16, 17, 18, 19, 20, 21, 22, 23, 24, 25, 26, 27, 28, 29, 30, 31, 32, 33, 34, 35, 36, 37, 38, 39, 40, 41], []⟩)]⟩
def q2n : Tree :=
 let b : X := .fld (.tok 3) 1
 let c : X := .fld (.tok 0) 0
 let d : X := .lit (.i 0)
 let f : X := .add (.tok 2) (.lit (.i 1))
 let a : X := .or (.not (.eq (.fld (.tok 3) 0) d)) (.lt (.call 1 0 [(.tok 0), b]) d)
 let e : X := .lt b (.len c)
 (.need [(.ok 0 [(.tok 0), (.tok 1)])] (.br (.not (.call 0 0 [(.tok 0), (.tok 1)])) (.leaf [(.lit (.a [(.i 0), (.i 0)]))]) (.loop 4 2 [d, (.tok 1)] (.br (.lt (.tok 2) (.len c)) (.need [(.imp (.not a) (.le d b)), (.imp (.not a) e), (.imp (.not a) (.le d b)), (.imp (.not a) e), (.imp (.not (.not (.eq (.fld (.tok 3) 0) d))) (.ok 1 [(.tok 0), b]))] (.br (.or a (.eq (.get c b) (.tok 3))) (.leaf [(.tok 3)]) (.need [(.le d b), e] (.need [(.rng .i64 f)] (.back 4 [f, (.get c b)]))))) (.leaf [(.tok 3)])))))
theorem qhy (g0 g1 : GfZ) : CdZ [(qm, g0), (yi, g1)] qjq zg Try.f42 q2n := fun cd h => by injection h with h; subst h; kernel_rfl
theorem qar {g0 g1 g : GfZ} (h0 : FOk qm g0) (h1 : FOk yi g1) (h : HgZ q2n zg [(qm, g0), (yi, g1)] g) : FOk zg g := jc (qhy g0 g1) (.cons h0 (.cons h1 .nil)) rfl rfl qf8 (by decide) h
def jp : Ct := ⟨44, [.val (.st 26), .val (.int .i64)], [(.bool, false)], [], none, [], []⟩
theorem qoo : EnZ jp := fun _ _ => by kernel_rfl
def qvi : Ann := ⟨[0, 1, 2, 4], []⟩
def qa4 : Tree := (.leaf [(.and (.le (.lit (.i 0)) (.tok 1)) (.lt (.tok 1) (.len (.fld (.tok 0) 0))))])
theorem qso : CdZ [] qvi jp Try.f44 qa4 := fun cd h => by injection h with h; subst h; kernel_rfl
theorem qw7 {g : GfZ} (h : HgZ qa4 jp [] g) : FOk jp g := jc (qso) .nil rfl rfl qoo (by decide) h
def qw : Ct := ⟨35, [.val (.st 26), .val (.st 32)], [(.st 32, false), (.bool, false)], [], none, [], []⟩
theorem qd1 : EnZ qw := fun _ _ => by kernel_rfl
def qfc : Ann := ⟨[0, 1, 2, 3, 4, 5, 9, 15, 16, 23], []⟩
def q3m : Tree := (.need [(.ok 0 [(.tok 0), (.tok 1)])] (.br (.not (.call 0 0 [(.tok 0), (.tok 1)])) (.leaf [(.lit (.a [(.i 0), (.i 0)])), (.lit (.b .false))]) (.need [(.ok 1 [(.tok 0), (.tok 1)])] (.br (.eq (.fld (.call 1 0 [(.tok 0), (.tok 1)]) 0) (.lit (.i 0))) (.need [(.ok 2 [(.tok 0), (.fld (.call 1 0 [(.tok 0), (.tok 1)]) 1)])] (.leaf [(.call 1 0 [(.tok 0), (.tok 1)]), (.call 2 0 [(.tok 0), (.fld (.call 1 0 [(.tok 0), (.tok 1)]) 1)])])) (.br (.eq (.fld (.call 1 0 [(.tok 0), (.tok 1)]) 0) (.lit (.i 5))) (.need [(.imp (.call 2 0 [(.tok 0), (.fld (.call 1 0 [(.tok 0), (.tok 1)]) 1)]) (.ok 2 [(.tok 0), (.add (.fld (.call 1 0 [(.tok 0), (.tok 1)]) 1) (.lit (.i 2)))])), (.imp (.call 2 0 [(.tok 0), (.fld (.call 1 0 [(.tok 0), (.tok 1)]) 1)]) (.rng .i64 (.add (.fld (.call 1 0 [(.tok 0), (.tok 1)]) 1) (.lit (.i 2))))), (.ok 2 [(.tok 0), (.fld (.call 1 0 [(.tok 0), (.tok 1)]) 1)])] (.leaf [(.call 1 0 [(.tok 0), (.tok 1)]), (.and (.call 2 0 [(.tok 0), (.fld (.call 1 0 [(.tok 0), (.tok 1)]) 1)]) (.call 2 0 [(.tok 0), (.add (.fld (.call 1 0 [(.tok 0), (.tok 1)]) 1) (.lit (.i 2)))]))])) (.leaf [(.lit (.a [(.i 0), (.i 0)])), (.lit (.b .false))]))))))
theorem qdr (g0 g1 g2 : GfZ) : CdZ [(qm, g0), (zg, g1), (jp, g2)] qfc qw Try.f35 q3m := fun cd h => by injection h with h; subst h; kernel_rfl
theorem qg7 {g0 g1 g2 g : GfZ} (h0 : FOk qm g0) (h1 : FOk zg g1) (h2 : FOk jp g2) (h : HgZ q3m qw [(qm, g0), (zg, g1), (jp, g2)] g) : FOk qw g := jc (qdr g0 g1 g2) (.cons h0 (.cons h1 (.cons h2 .nil))) rfl rfl qd1 (by decide) h
def y7 : Ct := ⟨36, [.val (.st 26), .val (.st 32)], [(.bool, false)], [], none, [], []⟩
theorem qd7 : EnZ y7 := fun _ _ => by kernel_rfl
def qel : Ann := ⟨[0, 1, 2, 3, 4, 5, 14, 15], []⟩
def q3h : Tree :=
 let a : X := .add (.fld (.tok 1) 1) (.lit (.i 2))
 let f : X := .lit (.b .true)
 let b : X := .get (.fld (.tok 0) 0) a
 let d : X := .rng .i64 a
 let c : X := .eq b (.mk [(.lit (.i 0)), a])
 let e : X := .fld b 0
 (.need [d, (.le (.lit (.i 0)) a), (.lt a (.len (.fld (.tok 0) 0)))] (.br (.eq e (.lit (.i 1))) (.br (.eq e (.lit (.i 1))) (.leaf [f]) (.need [d] (.leaf [c]))) (.br (.eq e (.lit (.i 2))) (.br (.eq e (.lit (.i 2))) (.leaf [f]) (.need [d] (.leaf [c]))) (.br (.eq e (.lit (.i 3))) (.leaf [f]) (.need [d] (.leaf [c]))))))
theorem qeh : CdZ [] qel y7 Try.f36 q3h := fun cd h => by injection h with h; subst h; kernel_rfl
theorem qem {g : GfZ} (h : HgZ q3h y7 [] g) : FOk y7 g := jc (qeh) .nil rfl rfl qd7 (by decide) h
def yw : Ct := ⟨100, [.val (.st 45), .ref (.int .i64) true, .cell 137 3], [], [(.cell 2, .fn 100 [1, 2])], none, [], []⟩
theorem q8a : EnZ yw := fun _ _ => by kernel_rfl
def qk8 : Ann := ⟨[0, 1, 2, 3, 4, 15], [(3, ⟨[(4, .int .i64, false)], [1], [7, 8, 9, 10, 11, 12, 13, 14, 15, 18, 19, 20, 21, 22, 23, 24, 16, 17], []⟩)]⟩
def q5k : Tree := (.need [(.rng .i64 (.sub (.tok 1) (.lit (.i 1))))] (.loop 3 2 [(.lit (.i 0)), (.sub (.tok 1) (.lit (.i 1)))] (.br (.and (.lt (.tok 2) (.len (.fld (.tok 0) 3))) (.lt (.lit (.i 0)) (.tok 3))) (.need [(.ok 0 [(.get (.fld (.tok 0) 3) (.tok 2)), (.tok 3)]), (.le (.lit (.i 0)) (.tok 2)), (.lt (.tok 2) (.len (.fld (.tok 0) 3)))] (.need [(.rng .i64 (.add (.tok 2) (.lit (.i 1))))] (.back 3 [(.add (.tok 2) (.lit (.i 1))), (.call 0 0 [(.get (.fld (.tok 0) 3) (.tok 2)), (.tok 3)])]))) (.leaf [(.tok 3)]))))
theorem qhn (g0 : GfZ) : CdZ [(yw, g0)] qk8 yw Try.f100 q5k := fun cd h => by injection h with h; subst h; kernel_rfl
theorem qj6 {g0 g : GfZ} (h0 : FOk yw g0) (h : HgZ q5k yw [(yw, g0)] g) : FOk yw g := jc (qhn g0) (.cons h0 .nil) rfl rfl q8a (by decide) h
def jo : Ct := ⟨90, [.val (.st 45)], [(.int .i64, false)], [], none, [], []⟩
theorem qjp : EnZ jo := fun _ _ => by kernel_rfl
def qpd : Ann := ⟨[0, 1, 2, 3, 4], []⟩
def q7k : Tree := (.need [(.ok 0 [(.tok 0), (.lit (.i 2001))])] (.need [(.rng .i64 (.sub (.lit (.i 2001)) (.call 0 0 [(.tok 0), (.lit (.i 2001))])))] (.leaf [(.sub (.lit (.i 2001)) (.call 0 0 [(.tok 0), (.lit (.i 2001))]))])))
theorem qmm (g0 : GfZ) : CdZ [(yw, g0)] qpd jo Try.f90 q7k := fun cd h => by injection h with h; subst h; kernel_rfl
theorem qox {g0 g : GfZ} (h0 : FOk yw g0) (h : HgZ q7k jo [(yw, g0)] g) : FOk jo g := jc (qmm g0) (.cons h0 .nil) rfl rfl qjp (by decide) h
def zt : Ct := ⟨91, [.val (.st 45)], [(.bool, false)], [], none, [], []⟩
theorem qap : EnZ zt := fun _ _ => by kernel_rfl
def qom : Ann := ⟨[0, 1, 2, 3, 4, 6, 7, 28, 39, 56, 86], [(12, ⟨[(3, .bool, false), (4, .int .i64, false)], [], [79, 80, 81, 82, 83, 84, 85, 86, 89, 90, 91, 92, 93, 94, 87, 88], []⟩)]⟩
def q7r : Tree :=
 let b : X := .add (.tok 2) (.lit (.i 1))
 let c : X := .lit (.i 0)
 let j : X := .tok 0
 let o : X := .tok 1
 let a : X := .fld j 3
 let f : X := .and (.eq (.fld j 1) c) (.le (.slen (.fld j 2)) (.lit (.i 100)))
 let h : X := .le c (.tok 2)
 let k : X := .rng .i64 b
 let m : X := .eq (.fld j 2) (.lit (.s ⟨#[]⟩))
 let p : X := .fld j 0
 let d : X := .lt (.tok 2) (.len a)
 let e : X := .get a (.tok 2)
 let n : X := .eq (.len a) c
 let g : X := .and d o
 let i : X := .call 0 0 [e]
 let l : X := .ok 0 [e]
 (.br (.eq p c) (.loop 12 1 [(.and (.and (.and (.le c (.fld j 1)) (.le (.fld j 1) (.lit (.i 1099511627776)))) m) n), c] (.br g (.need [h, d, l] (.need [k] (.back 12 [i, b]))) (.leaf [o]))) (.br (.eq p (.lit (.i 1))) (.loop 12 1 [(.and m n), c] (.br g (.need [h, d, l] (.need [k] (.back 12 [i, b]))) (.leaf [o]))) (.br (.eq p (.lit (.i 2))) (.loop 12 1 [(.and f n), c] (.br g (.need [h, d, l] (.need [k] (.back 12 [i, b]))) (.leaf [o]))) (.br (.eq p (.lit (.i 3))) (.loop 12 1 [(.and (.and f (.lt c (.len a))) (.le (.len a) (.lit (.i 8)))), c] (.br g (.need [h, d, l] (.need [k] (.back 12 [i, b]))) (.leaf [o]))) (.loop 12 1 [(.lit (.b .false)), c] (.br g (.need [h, d, l] (.need [k] (.back 12 [i, b]))) (.leaf [o])))))))
theorem qn7 (g0 : GfZ) : CdZ [(zt, g0)] qom zt Try.f91 q7r := fun cd h => by injection h with h; subst h; kernel_rfl
theorem qp4 {g0 g : GfZ} (h0 : FOk zt g0) (h : HgZ q7r zt [(zt, g0)] g) : FOk zt g := jc (qn7 g0) (.cons h0 .nil) rfl rfl qap (by decide) h
def y8 : Ct := ⟨76, [.val (.st 45)], [(.bool, false)], [], none, [], []⟩
theorem qhu : EnZ y8 := fun _ _ => by kernel_rfl
def qlk : Ann := ⟨[0, 1, 2], []⟩
def q6e : Tree := (.need [(.ok 0 [(.tok 0)]), (.imp (.le (.call 0 0 [(.tok 0)]) (.lit (.i 2000))) (.ok 1 [(.tok 0)]))] (.leaf [(.and (.le (.call 0 0 [(.tok 0)]) (.lit (.i 2000))) (.call 1 0 [(.tok 0)]))]))
theorem qje (g0 g1 : GfZ) : CdZ [(jo, g0), (zt, g1)] qlk y8 Try.f76 q6e := fun cd h => by injection h with h; subst h; kernel_rfl
theorem qn3 {g0 g1 g : GfZ} (h0 : FOk jo g0) (h1 : FOk zt g1) (h : HgZ q6e y8 [(jo, g0), (zt, g1)] g) : FOk y8 g := jc (qje g0 g1) (.cons h0 (.cons h1 .nil)) rfl rfl qhu (by decide) h
def jt : Ct := ⟨89, [.val (.st 45)], [(.st 45, false)], [], none, [], []⟩
theorem qdj : EnZ jt := fun _ _ => by kernel_rfl
def qgj : Ann := ⟨[0, 1, 2], []⟩
def q4g : Tree := (.leaf [(.tok 0)])
theorem qf5 : CdZ [] qgj jt Try.f89 q4g := fun cd h => by injection h with h; subst h; kernel_rfl
theorem qh8 {g : GfZ} (h : HgZ q4g jt [] g) : FOk jt g := jc (qf5) .nil rfl rfl qdj (by decide) h
def jd : Ct := ⟨88, [.val (.st 45), .fn 89 []], [(.st 45, false)], [], none, [], []⟩
theorem q9n : EnZ jd := fun _ _ => by kernel_rfl
def qms : Ann := ⟨[0, 1, 2, 4, 5, 7, 10, 22, 23, 24, 25], [(5, ⟨[(24, .int .i64, false)], [5], [25, 26, 27, 7, 28, 29, 30, 31, 32, 33, 34, 35, 36], []⟩)]⟩
def q6h : Tree := (.br (.eq (.fld (.tok 0) 0) (.lit (.i 0))) (.need [(.ok 0 [(.tok 0)])] (.leaf [(.call 0 0 [(.tok 0)])])) (.loop 5 1 [(.lit (.i 0)), (.set (.set (.set (.lit (.a [(.i 0), (.i 0), (.s ⟨#[]⟩), (.r [])])) 0 (.fld (.tok 0) 0)) 1 (.fld (.tok 0) 1)) 2 (.fld (.tok 0) 2))] (.br (.lt (.tok 1) (.len (.fld (.tok 0) 3))) (.need [(.le (.lit (.i 0)) (.tok 1)), (.lt (.tok 1) (.len (.fld (.tok 0) 3)))] (.need [(.le (.add (.len (.fld (.tok 2) 3)) (.lit (.i 1))) (.lit (.i 2513169434843))), (.ok 1 [(.get (.fld (.tok 0) 3) (.tok 1))])] (.need [(.rng .i64 (.add (.tok 1) (.lit (.i 1))))] (.back 5 [(.add (.tok 1) (.lit (.i 1))), (.set (.tok 2) 3 (.app (.fld (.tok 2) 3) (.row [(.call 1 0 [(.get (.fld (.tok 0) 3) (.tok 1))])])))])))) (.leaf [(.tok 2)]))))
theorem qjs (g0 g1 : GfZ) : CdZ [(jt, g0), (jd, g1)] qms jd Try.f88 q6h := fun cd h => by injection h with h; subst h; kernel_rfl
theorem qoa {g0 g1 g : GfZ} (h0 : FOk jt g0) (h1 : FOk jd g1) (h : HgZ q6h jd [(jt, g0), (jd, g1)] g) : FOk jd g := jc (qjs g0 g1) (.cons h0 (.cons h1 .nil)) rfl rfl q9n (by decide) h
def zx : Ct := ⟨57, [.val (.st 45)], [(.st 45, false)], [], none, [], []⟩
theorem qhv : EnZ zx := fun _ _ => by kernel_rfl
def qnp : Ann := ⟨[0, 1, 2, 5], []⟩
def q6g : Tree := (.need [(.ok 0 [(.tok 0)])] (.br (.not (.call 0 0 [(.tok 0)])) (.leaf [(.lit (.a [(.i 0), (.i 0), (.s ⟨#[]⟩), (.r [])]))]) (.need [(.ok 1 [(.tok 0)])] (.leaf [(.call 1 0 [(.tok 0)])]))))
theorem qiu (g0 g1 : GfZ) : CdZ [(y8, g0), (jd, g1)] qnp zx Try.f57 q6g := fun cd h => by injection h with h; subst h; kernel_rfl
theorem ql7 {g0 g1 g : GfZ} (h0 : FOk y8 g0) (h1 : FOk jd g1) (h : HgZ q6g zx [(y8, g0), (jd, g1)] g) : FOk zx g := jc (qiu g0 g1) (.cons h0 (.cons h1 .nil)) rfl rfl qhv (by decide) h
def zz : Ct := ⟨18, [.val (.str)], [(.st 45, false)], [], none, [], []⟩
theorem qit : EnZ zz := fun _ _ => by kernel_rfl
def qpx : Ann := ⟨[0, 2], []⟩
def q7w : Tree := (.need [(.ok 0 [(.set (.set (.lit (.a [(.i 0), (.i 0), (.s ⟨#[]⟩), (.r [])])) 0 (.lit (.i 2))) 2 (.tok 0))])] (.leaf [(.call 0 0 [(.set (.set (.lit (.a [(.i 0), (.i 0), (.s ⟨#[]⟩), (.r [])])) 0 (.lit (.i 2))) 2 (.tok 0))])]))
theorem qkx (g0 : GfZ) : CdZ [(zx, g0)] qpx zz Try.f18 q7w := fun cd h => by injection h with h; subst h; kernel_rfl
theorem qp3 {g0 g : GfZ} (h0 : FOk zx g0) (h : HgZ q7w zz [(zx, g0)] g) : FOk zz g := jc (qkx g0) (.cons h0 .nil) rfl rfl qit (by decide) h
def q06 : Ct := ⟨75, [.val (.int .i64)], [(.bool, false)], [], none, [], []⟩
theorem qg3 : EnZ q06 := fun _ _ => by kernel_rfl
def qix : Ann := ⟨[0, 2], []⟩
def q5j : Tree := (.leaf [(.and (.le (.lit (.i 0)) (.tok 0)) (.le (.tok 0) (.lit (.i 1099511627776))))])
theorem qhk : CdZ [] qix q06 Try.f75 q5j := fun cd h => by injection h with h; subst h; kernel_rfl
theorem qiq {g : GfZ} (h : HgZ q5j q06 [] g) : FOk q06 g := jc (qhk) .nil rfl rfl qg3 (by decide) h
def q1i : Ct := ⟨50, [.val (.int .i64)], [(.st 45, false)], [], none, [], []⟩
theorem qn6 : EnZ q1i := fun _ _ => by kernel_rfl
def qtf : Ann := ⟨[0, 2, 5], []⟩
def q9e : Tree := (.need [(.ok 0 [(.tok 0)])] (.br (.not (.call 0 0 [(.tok 0)])) (.leaf [(.lit (.a [(.i 0), (.i 0), (.s ⟨#[]⟩), (.r [])]))]) (.leaf [(.set (.lit (.a [(.i 0), (.i 0), (.s ⟨#[]⟩), (.r [])])) 1 (.tok 0))])))
theorem qpl (g0 : GfZ) : CdZ [(q06, g0)] qtf q1i Try.f50 q9e := fun cd h => by injection h with h; subst h; kernel_rfl
theorem qsa {g0 g : GfZ} (h0 : FOk q06 g0) (h : HgZ q9e q1i [(q06, g0)] g) : FOk q1i g := jc (qpl g0) (.cons h0 .nil) rfl rfl qn6 (by decide) h
def jb : Ct := ⟨17, [.val (.str), .val (.row 46)], [(.st 45, false)], [], none, [], []⟩
theorem qfa : EnZ jb := fun _ _ => by kernel_rfl
def qjt : Ann := ⟨[0, 1, 4, 7], []⟩
def q52 : Tree := (.br (.eq (.len (.tok 1)) (.lit (.i 0))) (.need [(.ok 0 [(.tok 0)])] (.leaf [(.call 0 0 [(.tok 0)])])) (.need [(.ok 1 [(.set (.set (.set (.lit (.a [(.i 0), (.i 0), (.s ⟨#[]⟩), (.r [])])) 0 (.lit (.i 3))) 2 (.tok 0)) 3 (.tok 1))])] (.leaf [(.call 1 0 [(.set (.set (.set (.lit (.a [(.i 0), (.i 0), (.s ⟨#[]⟩), (.r [])])) 0 (.lit (.i 3))) 2 (.tok 0)) 3 (.tok 1))])])))
theorem qi5 (g0 g1 : GfZ) : CdZ [(zz, g0), (zx, g1)] qjt jb Try.f17 q52 := fun cd h => by injection h with h; subst h; kernel_rfl
theorem qj0 {g0 g1 g : GfZ} (h0 : FOk zz g0) (h1 : FOk zx g1) (h : HgZ q52 jb [(zz, g0), (zx, g1)] g) : FOk jb g := jc (qi5 g0 g1) (.cons h0 (.cons h1 .nil)) rfl rfl qfa (by decide) h
def q1j : Ct := ⟨64, [.val (.row 46), .val (.st 45)], [(.st 45, false)], [], none, [], []⟩
theorem qja : EnZ q1j := fun _ _ => by kernel_rfl
def qon : Ann := ⟨[0, 1, 3, 4, 5, 7, 8, 9, 17, 21, 22, 23, 24, 38, 47], [(5, ⟨[(5, .int .i64, false), (23, .int .i64, false)], [4], [24, 25, 26, 7, 27, 28, 29, 30, 31, 32, 33, 34, 35, 36, 37, 38, 39, 40], []⟩),
 (13, ⟨[(9, .int .i64, false)], [8], [46, 47, 50, 51, 52, 53, 54, 55, 56, 57, 48, 49], []⟩)]⟩
def q80 : Tree :=
 let b : X := .lit (.a [(.i 0), (.i 0), (.s ⟨#[]⟩), (.r [])])
 let c : X := .len (.tok 0)
 let d : X := .lit (.i 1)
 let e : X := .tok 3
 let g : X := .lit (.i 2000)
 let h : X := .tok 5
 let i : X := .lit (.i 0)
 let j : X := .tok 1
 let k : X := .get (.tok 0) e
 let a : X := .add d (.call 1 0 [k])
 let f : X := .add (.tok 2) a
 (.need [(.imp (.not (.lt g c)) (.ok 0 [j]))] (.br (.or (.lt g c) (.not (.call 0 0 [j]))) (.leaf [b]) (.need [(.ok 1 [j])] (.loop 5 2 [(.call 1 0 [j]), i, b] (.br (.lt e c) (.need [(.le i e), (.lt e c)] (.need [(.ok 1 [k]), (.rng .i64 a), (.rng .i64 f)] (.need [(.imp (.not (.lt g f)) (.ok 2 [k]))] (.br (.or (.lt g f) (.not (.call 2 0 [k]))) (.leaf [b]) (.need [(.rng .i64 (.add e d))] (.back 5 [f, (.add e d), (.tok 4)])))))) (.need [(.ok 3 [j])] (.need [(.rng .i64 (.sub c d))] (.loop 13 5 [(.sub c d), (.call 3 0 [j])] (.br (.le i h) (.need [(.ok 3 [(.get (.tok 0) h)]), (.le i h), (.lt h c)] (.need [(.rng .i64 (.sub h d))] (.back 13 [(.sub h d), (.set (.set (.set b 0 (.lit (.i 3))) 2 (.lit (.s ⟨#[46]⟩))) 3 (.row [(.call 3 0 [(.get (.tok 0) h)]), (.tok 6)]))]))) (.leaf [(.tok 6)]))))))))))
theorem qnn (g0 g1 g2 g3 : GfZ) : CdZ [(y8, g0), (jo, g1), (zt, g2), (zx, g3)] qon q1j Try.f64 q80 := fun cd h => by injection h with h; subst h; kernel_rfl
theorem qok {g0 g1 g2 g3 g : GfZ} (h0 : FOk y8 g0) (h1 : FOk jo g1) (h2 : FOk zt g2) (h3 : FOk zx g3) (h : HgZ q80 q1j [(y8, g0), (jo, g1), (zt, g2), (zx, g3)] g) : FOk q1j g := jc (qnn g0 g1 g2 g3) (.cons h0 (.cons h1 (.cons h2 (.cons h3 .nil)))) rfl rfl qja (by decide) h
def zq : Ct := ⟨95, [.rref (.st 26), .val (.st 57)], [(.int .i64, false)], [], none, [], []⟩
theorem qhl : EnZ zq := fun _ _ => by kernel_rfl
def qn2 : Ann := ⟨[0, 1, 3, 4, 5, 10, 11, 12, 22], [(2, ⟨[(4, .int .i64, false), (11, .int .i64, false)], [], [12, 13, 5, 14, 15, 16, 17, 18, 19, 20, 21, 22, 23, 24], []⟩)]⟩
def q62 : Tree := (.loop 2 2 [(.lit (.i 0)), (.lit (.i 0))] (.br (.lt (.tok 3) (.len (.fld (.tok 0) 1))) (.need [(.le (.lit (.i 0)) (.tok 3)), (.lt (.tok 3) (.len (.fld (.tok 0) 1)))] (.br (.eq (.get (.fld (.tok 0) 1) (.tok 3)) (.tok 1)) (.leaf [(.tok 3)]) (.need [(.rng .i64 (.add (.tok 3) (.lit (.i 1))))] (.back 2 [(.tok 2), (.add (.tok 3) (.lit (.i 1)))])))) (.leaf [(.lit (.i (-1)))])))
theorem qjd : CdZ [] qn2 zq Try.f95 q62 := fun cd h => by injection h with h; subst h; kernel_rfl
theorem qoe {g : GfZ} (h : HgZ q62 zq [] g) : FOk zq g := jc (qjd) .nil rfl rfl qhl (by decide) h
def z6 : Ct := ⟨81, [.ref (.st 26) true, .val (.str), .val (.int .i64)], [(.int .i64, false), (.int .i64, false)], [], none, [], [(0, 0, .st 32), (0, 1, .st 57), (0, 2, .st 68), (0, 3, .st 64)]⟩
theorem q0y : EnZ z6 := fun _ _ => by kernel_rfl
def q9g : Ann := ⟨[0, 1, 2, 6, 7, 8, 9, 24, 32, 39], []⟩
def q4j : Tree := (.br (.or (.or (.lt (.lit (.i 100)) (.slen (.tok 1))) (.lt (.tok 2) (.lit (.i 0)))) (.lt (.lit (.i 8)) (.tok 2))) (.leaf [(.lit (.i 0)), (.lit (.i 1)), (.tok 0)]) (.need [(.ok 4 [(.tok 0), (.mk [(.tok 1), (.tok 2)])])] (.br (.le (.lit (.i 0)) (.call 4 0 [(.tok 0), (.mk [(.tok 1), (.tok 2)])])) (.leaf [(.call 4 0 [(.tok 0), (.mk [(.tok 1), (.tok 2)])]), (.lit (.i 0)), (.tok 0)]) (.br (.le (.lit (.i 1048576)) (.len (.fld (.tok 0) 1))) (.leaf [(.lit (.i 0)), (.lit (.i 13)), (.tok 0)]) (.need [(.le (.add (.len (.fld (.tok 0) 1)) (.lit (.i 1))) (.lit (.i 5864062014634))), (.le (.call 1 0 []) (.len (.fld (.tok 0) 1)))] (.need [(.rng .i64 (.sub (.len (.fld (.set (.tok 0) 1 (.app (.fld (.tok 0) 1) (.row [(.mk [(.tok 1), (.tok 2)])]))) 1)) (.lit (.i 1))))] (.leaf [(.sub (.len (.fld (.set (.tok 0) 1 (.app (.fld (.tok 0) 1) (.row [(.mk [(.tok 1), (.tok 2)])]))) 1)) (.lit (.i 1))), (.lit (.i 0)), (.set (.tok 0) 1 (.app (.fld (.tok 0) 1) (.row [(.mk [(.tok 1), (.tok 2)])])))])))))))
theorem qet (m0 m1 m2 m3 : Int) (g0 : GfZ) : CdZ [(j5 z6.f (.st 32), fun _ => some [.i m0]), (j5 z6.f (.st 57), fun _ => some [.i m1]), (j5 z6.f (.st 68), fun _ => some [.i m2]), (j5 z6.f (.st 64), fun _ => some [.i m3]), (zq, g0)] q9g z6 Try.f81 q4j := fun cd h => by injection h with h; subst h; kernel_rfl
theorem qhg {g0 : List D → Option (List D)} {g : List D → Option (List D)} (h0 : FOk zq g0) (h : ∀ ds outs, WfA z6.ars ds → g ds = some outs → q4j.go (qe [(j5 z6.f (.st 32), fun _ => some [.i (((ds.getD 0 .u).fld 0).rs.length : Nat)]), (j5 z6.f (.st 57), fun _ => some [.i (((ds.getD 0 .u).fld 1).rs.length : Nat)]), (j5 z6.f (.st 68), fun _ => some [.i (((ds.getD 0 .u).fld 2).rs.length : Nat)]), (j5 z6.f (.st 64), fun _ => some [.i (((ds.getD 0 .u).fld 3).rs.length : Nat)]), (zq, g0)]) (fun o => o = outs) ds fun _ _ => False) : FOk z6 g :=
 FOk.of_at q0y fun ds outs hw hg => qua q9g Try.f81 _ (.cons (q0n _ q0y _ _) (.cons (q0n _ q0y _ _) (.cons (q0n _ q0y _ _) (.cons (q0n _ q0y _ _) (.cons h0 .nil))))) rfl rfl (by decide) (by rw [qet _ _ _ _ g0 _ rfl]; exact h ds outs hw hg) rfl (FlF.of fun k j te hm => by
  rw [show z6.fl = [(0, 0, .st 32), (0, 1, .st 57), (0, 2, .st 68), (0, 3, .st 64)] from rfl] at hm
  simp only [List.mem_cons, Prod.mk.injEq, List.not_mem_nil, or_false] at hm
  rcases hm with ⟨rfl, rfl, rfl⟩ | ⟨rfl, rfl, rfl⟩ | ⟨rfl, rfl, rfl⟩ | ⟨rfl, rfl, rfl⟩ <;> exact ⟨by decide, Nat.le_refl _⟩)
def yx : Ct := ⟨70, [.val (.int .i64)], [(.bool, false)], [], none, [], []⟩
theorem qav : EnZ yx := fun _ _ => by kernel_rfl
def qcx : Ann := ⟨[0, 2], []⟩
def q2d : Tree := (.leaf [(.not (.eq (.tok 0) (.tok 0)))])
theorem qc1 : CdZ [] qcx yx Try.f70 q2d := fun cd h => by injection h with h; subst h; kernel_rfl
theorem qd0 {g : GfZ} (h : HgZ q2d yx [] g) : FOk yx g := jc (qc1) .nil rfl rfl qav (by decide) h
def zd : Ct := ⟨46, [.val (.int .i64), .val (.int .i64)], [(.int .i64, false)], [], none, [], []⟩
theorem q9s : EnZ zd := fun _ _ => by kernel_rfl
def qaz : Ann := ⟨[0, 1, 4, 5, 6, 11, 12, 13, 16, 19], []⟩
def q1v : Tree := (.need [(.ok 0 [(.tok 0)])] (.need [(.ok 0 [(.tok 1)])] (.br (.call 0 0 [(.tok 0)]) (.br (.call 0 0 [(.tok 1)]) (.leaf [(.lit (.i 0))]) (.leaf [(.lit (.i (-1)))])) (.br (.call 0 0 [(.tok 1)]) (.leaf [(.lit (.i 1))]) (.br (.lt (.tok 0) (.tok 1)) (.leaf [(.lit (.i (-1)))]) (.br (.lt (.tok 1) (.tok 0)) (.leaf [(.lit (.i 1))]) (.leaf [(.lit (.i 0))])))))))
theorem qad (g0 : GfZ) : CdZ [(yx, g0)] qaz zd Try.f46 q1v := fun cd h => by injection h with h; subst h; kernel_rfl
theorem qb0 {g0 g : GfZ} (h0 : FOk yx g0) (h : HgZ q1v zd [(yx, g0)] g) : FOk zd g := jc (qad g0) (.cons h0 .nil) rfl rfl q9s (by decide) h
def q09 : Ct := ⟨83, [.val (.st 97), .val (.int .i64)], [(.int .i64, false)], [], none, [], []⟩
theorem qfl : EnZ q09 := fun _ _ => by kernel_rfl
def qjn : Ann := ⟨[0, 1, 2, 4], []⟩
def q4w : Tree := (.need [(.ok 0 [(.fld (.tok 0) 0), (.tok 1)])] (.leaf [(.call 0 0 [(.fld (.tok 0) 0), (.tok 1)])]))
theorem qh6 (g0 : GfZ) : CdZ [(zd, g0)] qjn q09 Try.f83 q4w := fun cd h => by injection h with h; subst h; kernel_rfl
theorem qjv {g0 g : GfZ} (h0 : FOk zd g0) (h : HgZ q4w q09 [(zd, g0)] g) : FOk q09 g := jc (qh6 g0) (.cons h0 .nil) rfl rfl qfl (by decide) h
def qo : Ct := ⟨82, [.val (.row 98), .val (.int .i64), .fn 83 []], [(.int .i64, false), (.bool, false)], [], none, [], []⟩
theorem q2t : EnZ qo := fun _ _ => by kernel_rfl
def q37 : Ann := ⟨[0, 1, 2, 6, 7, 8, 9, 10, 11, 17, 31], [(3, ⟨[(9, .int .i64, false), (10, .int .i64, false)], [], [15, 16, 17, 18, 19, 20, 21, 22, 23, 11, 24, 25, 26, 27, 28, 29, 30, 31, 32, 33, 34], []⟩)]⟩
def j6 : Tree :=
 let c : X := .tok 2
 let d : X := .lit (.i 0)
 let e : X := .tok 0
 let a : X := .fn 8 [(.add c (.tok 3)), (.lit (.i 1))]
 let b : X := .lt c (.len e)
 (.loop 3 2 [d, (.len e)] (.br (.lt c (.tok 3)) (.need [(.rng .i64 (.add c (.tok 3))), (.rng .u64 (.add c (.tok 3))), (.rng .u64 a), (.rng .i64 a)] (.need [(.le d a), (.lt a (.len e)), (.ok 0 [(.get e a), (.tok 1)])] (.br (.lt (.call 0 0 [(.get e a), (.tok 1)]) d) (.need [(.rng .i64 (.add a (.lit (.i 1))))] (.back 3 [(.add a (.lit (.i 1))), (.tok 3)])) (.back 3 [c, a])))) (.need [(.imp b (.le d c)), (.imp b b), (.imp b (.ok 0 [(.get e c), (.tok 1)]))] (.leaf [c, (.and b (.eq (.call 0 0 [(.get e c), (.tok 1)]) d))]))))
theorem q30 (g0 : GfZ) : CdZ [(q09, g0)] q37 qo Try.f82 j6 := fun cd h => by injection h with h; subst h; kernel_rfl
theorem q38 {g0 g : GfZ} (h0 : FOk q09 g0) (h : HgZ j6 qo [(q09, g0)] g) : FOk qo g := jc (q30 g0) (.cons h0 .nil) rfl rfl q2t (by decide) h
def q0u : Ct := ⟨84, [.val (.st 32)], [(.st 32, false)], [], none, [], []⟩
theorem qgb : EnZ q0u := fun _ _ => by kernel_rfl
def qnh : Ann := ⟨[0, 1, 2, 5], []⟩
def q6b : Tree := (.br (.eq (.fld (.tok 0) 0) (.lit (.i 5))) (.leaf [(.set (.tok 0) 0 (.lit (.i 0)))]) (.leaf [(.tok 0)]))
theorem qj1 : CdZ [] qnh q0u Try.f84 q6b := fun cd h => by injection h with h; subst h; kernel_rfl
theorem qlq {g : GfZ} (h : HgZ q6b q0u [] g) : FOk q0u g := jc (qj1) .nil rfl rfl qgb (by decide) h
def qk : Ct := ⟨85, [.own (.row 98), .val (.int .i64), .own (.row 98)], [(.row 98, true)], [], none, [], [(999, 0, .st 32), (999, 1, .st 57), (999, 2, .st 68), (999, 3, .st 64)]⟩
theorem yh : EnZ qk := fun _ _ => by kernel_rfl
def q2z : Ann := ⟨[0, 1, 2, 6, 7, 8, 9, 16, 22, 31, 68], []⟩
def q2e : Tree := (.need [(.le (.lit (.i 0)) (.tok 1)), (.le (.tok 1) (.len (.tok 0)))] (.br (.eq (.len (.tok 2)) (.lit (.i 0))) (.leaf [(.tok 0)]) (.br (.eq (.tok 1) (.len (.tok 0))) (.need [(.le (.add (.len (.tok 0)) (.len (.tok 2))) (.lit (.i 5864062014634)))] (.leaf [(.app (.tok 0) (.tok 2))])) (.bad 8004))))
theorem q7a (m0 m1 m2 m3 : Int) : CdZ [(j5 qk.f (.st 32), fun _ => some [.i m0]), (j5 qk.f (.st 57), fun _ => some [.i m1]), (j5 qk.f (.st 68), fun _ => some [.i m2]), (j5 qk.f (.st 64), fun _ => some [.i m3])] q2z qk Try.f85 q2e := fun cd h => by injection h with h; subst h; kernel_rfl
def z3 : Ct := ⟨80, [.val (.st 45), .val (.int .i64), .cell 37 5, .ref (.row 98) true, .cell 126 6], [(.st 32, false)], [(.cell 2, .ref (.st 26) true), (.cell 4, .fn 80 [2, 3, 4])], none, [], [(3, 0, .st 32), (3, 1, .st 57), (3, 2, .st 68), (3, 3, .st 64)]⟩
theorem q0f : EnZ z3 := fun _ _ => by kernel_rfl
def qam : Ann := ⟨[0, 1, 2, 3, 4, 5, 7, 8, 10, 11, 12, 13, 15, 16, 17, 18, 19, 21, 22, 27, 38, 47, 57, 110, 111, 112, 113], [(21, ⟨[(112, .int .i64, false)], [3, 100000], [113, 114, 115, 116, 17, 16, 117, 118, 119, 120, 18, 121, 122, 123, 124, 19, 125, 126, 127, 128, 129, 130, 131, 132], []⟩)]⟩
def q0x : Tree :=
 let e : X := .fld (.tok 0) 3
 let f : X := .tok 3
 let g : X := .lit (.i 0)
 let h : X := .lit (.b .true)
 let j : X := .fld (.tok 0) 1
 let k : X := .tok 2
 let l : X := .call 0 0 []
 let p : X := .lit (.i 1)
 let q : X := .tok 4
 let r : X := .tok 6
 let s : X := .fld (.tok 0) 2
 let y : X := .fld (.tok 0) 0
 let z : X := .lit (.i 8796093021952)
 let d : X := .call 6 0 [k, j]
 let m : X := .le (.call 1 0 []) (.len (.fld f 1))
 let n : X := .le (.call 2 0 []) (.len (.fld f 2))
 let o : X := .le (.call 3 0 []) (.len (.fld f 3))
 let t : X := .le l (.len (.fld f 0))
 let v : X := .len e
 let w : X := .row [(.mk [j, (.mk [g, (.tok 1)])])]
 let x : X := .row [(.mk [j, (.call 8 0 [f])])]
 let a : X := .call 5 2 [f, s, v]
 let c : X := .set a 0 (.app (.fld a 0) (.row [(.mk [(.lit (.i 4)), (.call 5 0 [f, s, v])])]))
 let u : X := .len (.fld a 0)
 let b : X := .add (.add u p) q
 let i : X := .call 4 2 [(.get e q), b, (.tok 5), r]
 (.br (.eq y p) (.leaf [(.mk [p, j]), k, f]) (.br (.eq y (.lit (.i 2))) (.need [(.ok 5 [f, s, g]), t, m, n, o] (.leaf [(.mk [(.lit (.i 2)), (.call 5 0 [f, s, g])]), k, (.call 5 2 [f, s, g])])) (.br (.eq y g) (.need [(.ok 6 [k, j])] (.br (.call 6 1 [k, j]) (.need [(.le g d), (.lt d (.len k)), (.ok 7 [(.fld (.get k d) 1)])] (.leaf [(.call 7 0 [(.fld (.get k d) 1)]), k, f])) (.br (.lt (.tok 1) g) (.need [(.ok 8 [f]), t, m, n, o] (.need [(.ok 9 [k, d, x]), h, h, h, h] (.leaf [(.call 8 0 [f]), (.call 9 0 [k, d, x]), (.call 8 2 [f])]))) (.need [(.ok 9 [k, d, w]), h, h, h, h] (.leaf [(.mk [g, (.tok 1)]), (.call 9 0 [k, d, w]), f]))))) (.need [(.ok 5 [f, s, v]), t, m, n, o] (.need [(.le (.add u p) z), (.le l u)] (.need [(.le g v), (.le v (.lit (.i 16777216))), (.le (.add (.len (.fld c 0)) v) z), (.le l (.len (.fld c 0)))] (.loop 21 4 [g, k, (.set c 0 (.app (.fld c 0) (.rep v (.lit (.a [(.i 0), (.i 0)])))))] (.br (.lt q v) (.need [(.le g q), (.lt q v)] (.need [(.rng .i64 (.add u p)), (.rng .i64 b)] (.need [(.ok 4 [(.get e q), b, (.tok 5), r]), (.le l (.len (.fld r 0))), (.le (.call 1 0 []) (.len (.fld r 1))), (.le (.call 2 0 []) (.len (.fld r 2))), (.le (.call 3 0 []) (.len (.fld r 3)))] (.need [(.le l b), (.le g b), (.lt b (.len (.fld i 0)))] (.need [(.rng .i64 (.add q p))] (.back 21 [(.add q p), (.call 4 1 [(.get e q), b, (.tok 5), r]), (.set i 0 (.put (.fld i 0) b (.call 4 0 [(.get e q), b, (.tok 5), r])))])))))) (.leaf [(.mk [(.lit (.i 3)), u]), (.tok 5), r])))))))))
theorem qgd (m0 m1 m2 m3 : Int) (g0 g1 g2 g3 g4 g5 : GfZ) : CdZ [(j5 z3.f (.st 32), fun _ => some [.i m0]), (j5 z3.f (.st 57), fun _ => some [.i m1]), (j5 z3.f (.st 68), fun _ => some [.i m2]), (j5 z3.f (.st 64), fun _ => some [.i m3]), (z3, g0), (z6, g1), (qo, g2), (q0u, g3), (qy, g4), (qk, g5)] qam z3 Try.f80 q0x := fun cd h => by injection h with h; subst h; kernel_rfl
theorem qiw {g0 g1 g2 g3 g4 g5 : List D → Option (List D)} {g : List D → Option (List D)} (h0 : FOk z3 g0) (h1 : FOk z6 g1) (h2 : FOk qo g2) (h3 : FOk q0u g3) (h4 : FOk qy g4) (h5 : FOk qk g5) (h : ∀ ds outs, WfA z3.ars ds → g ds = some outs → q0x.go (qe [(j5 z3.f (.st 32), fun _ => some [.i (((ds.getD 3 .u).fld 0).rs.length : Nat)]), (j5 z3.f (.st 57), fun _ => some [.i (((ds.getD 3 .u).fld 1).rs.length : Nat)]), (j5 z3.f (.st 68), fun _ => some [.i (((ds.getD 3 .u).fld 2).rs.length : Nat)]), (j5 z3.f (.st 64), fun _ => some [.i (((ds.getD 3 .u).fld 3).rs.length : Nat)]), (z3, g0), (z6, g1), (qo, g2), (q0u, g3), (qy, g4), (qk, g5)]) (fun o => o = outs) ds fun _ _ => False) : FOk z3 g :=
 FOk.of_at q0f fun ds outs hw hg => qua qam Try.f80 _ (.cons (q0n _ q0f _ _) (.cons (q0n _ q0f _ _) (.cons (q0n _ q0f _ _) (.cons (q0n _ q0f _ _) (.cons h0 (.cons h1 (.cons h2 (.cons h3 (.cons h4 (.cons h5 .nil)))))))))) rfl rfl (by decide) (by rw [qgd _ _ _ _ g0 g1 g2 g3 g4 g5 _ rfl]; exact h ds outs hw hg) rfl (FlF.of fun k j te hm => by
  rw [show z3.fl = [(3, 0, .st 32), (3, 1, .st 57), (3, 2, .st 68), (3, 3, .st 64)] from rfl] at hm
  simp only [List.mem_cons, Prod.mk.injEq, List.not_mem_nil, or_false] at hm
  rcases hm with ⟨rfl, rfl, rfl⟩ | ⟨rfl, rfl, rfl⟩ | ⟨rfl, rfl, rfl⟩ | ⟨rfl, rfl, rfl⟩ <;> exact ⟨by decide, Nat.le_refl _⟩)
def yr : Ct := ⟨77, [.val (.st 26), .val (.row 98)], [(.bool, false)], [], none, [], []⟩
theorem qay : EnZ yr := fun _ _ => by kernel_rfl
def qcr : Ann := ⟨[0, 1, 2, 4, 5, 6, 7, 8, 9, 10, 43], [(2, ⟨[(4, .bool, false), (9, .int .i64, false)], [], [10, 11, 12, 13, 6, 5, 14, 15, 16, 17, 18, 19, 20, 21, 22, 23, 24, 25, 26, 27, 28, 29, 30, 31, 32, 33, 34, 35, 36, 37, 38, 39, 40, 41, 42, 43, 44], []⟩)]⟩
def q2i : Tree :=
 let d : X := .tok 3
 let e : X := .len (.tok 1)
 let f : X := .lit (.i 0)
 let a : X := .and (.not (.or (.lt (.fld (.get (.tok 1) d) 0) f) (.lt (.lit (.i 1099511627776)) (.fld (.get (.tok 1) d) 0)))) (.lt f d)
 let c : X := .sub d (.lit (.i 1))
 let g : X := .fld (.get (.tok 1) d) 1
 let b : X := .or (.or (.lt (.fld (.get (.tok 1) d) 0) f) (.lt (.lit (.i 1099511627776)) (.fld (.get (.tok 1) d) 0))) (.and (.lt f d) (.le (.fld (.get (.tok 1) d) 0) (.fld (.get (.tok 1) c) 0)))
 let h : X := .rng .i64 c
 (.loop 2 2 [(.lit (.b .false)), f] (.br (.lt d e) (.need [(.le f d), (.lt d e)] (.need [(.imp (.not b) (.ok 0 [(.tok 0), g])), (.imp a (.le f c)), (.imp a (.lt c e)), (.imp a (.le f c)), (.imp a (.lt c e)), (.imp a h), (.imp a h), (.imp a h)] (.br (.or b (.not (.call 0 0 [(.tok 0), g]))) (.leaf [(.lit (.b .false))]) (.need [(.rng .i64 (.add d (.lit (.i 1))))] (.back 2 [(.tok 2), (.add d (.lit (.i 1)))]))))) (.leaf [(.lit (.b .true))])))
theorem qc4 (g0 : GfZ) : CdZ [(qm, g0)] qcr yr Try.f77 q2i := fun cd h => by injection h with h; subst h; kernel_rfl
theorem qcz {g0 g : GfZ} (h0 : FOk qm g0) (h : HgZ q2i yr [(qm, g0)] g) : FOk yr g := jc (qc4 g0) (.cons h0 .nil) rfl rfl qay (by decide) h
def z9 : Ct := ⟨94, [.val (.st 45), .ref (.map 58 4) true, .cell 37 5, .ref (.int .i64) true, .cell 137 6], [], [(.cell 2, .rref (.st 26)), (.cell 4, .fn 94 [1, 2, 3, 4])], none, [], []⟩
theorem q7s : EnZ z9 := fun _ _ => by kernel_rfl
def qg9 : Ann := ⟨[0, 1, 2, 3, 4, 5, 6, 8, 16, 32, 37, 45, 46, 47, 48], [(8, ⟨[(47, .int .i64, false)], [1, 3], [48, 49, 50, 8, 51, 52, 53, 54], []⟩)]⟩
def q4f : Tree :=
 let a : X := .fld (.tok 0) 3
 let b : X := .tok 4
 let f : X := .lit (.i 1)
 let h : X := .lit (.i 0)
 let k : X := .eq (.fld (.tok 0) 0) (.lit (.i 3))
 let n : X := .tok 1
 let s : X := .tok 5
 let t : X := .tok 6
 let c : X := .call 0 0 [(.get a b), s, t, (.tok 3)]
 let d : X := .call 0 1 [(.get a b), s, t, (.tok 3)]
 let e : X := .ok 0 [(.get a b), s, t, (.tok 3)]
 let g : X := .len a
 let o : X := .add b f
 let r : X := .le h b
 let i : X := .mk [(.fld (.tok 0) 2), g]
 let j : X := .add (.tok 2) (.add g f)
 let l : X := .rng .i64 o
 let m : X := .lt b g
 let p : X := .rng .i64 (.add g f)
 let q : X := .not (.fn 0 [n, i, (.lit (.b .false))])
 let u : X := .fn 2 [n, i, (.lit (.b .true))]
 let v : X := .rng .i64 j
 (.br (.or (.eq (.fld (.tok 0) 0) (.lit (.i 2))) k) (.need [(.imp q (.ok 1 [(.tok 3), i]))] (.br (.and q (.lt (.call 1 0 [(.tok 3), i]) h)) (.br k (.need [p, v] (.loop 8 4 [h, u, j] (.br m (.need [r, m] (.need [e] (.need [l] (.back 8 [o, c, d])))) (.leaf [s, t])))) (.loop 8 4 [h, u, (.tok 2)] (.br m (.need [r, m] (.need [e] (.need [l] (.back 8 [o, c, d])))) (.leaf [s, t])))) (.br k (.need [p, v] (.loop 8 4 [h, n, j] (.br m (.need [r, m] (.need [e] (.need [l] (.back 8 [o, c, d])))) (.leaf [s, t])))) (.loop 8 4 [h, n, (.tok 2)] (.br m (.need [r, m] (.need [e] (.need [l] (.back 8 [o, c, d])))) (.leaf [s, t])))))) (.br k (.need [p, v] (.loop 8 4 [h, n, j] (.br m (.need [r, m] (.need [e] (.need [l] (.back 8 [o, c, d])))) (.leaf [s, t])))) (.loop 8 4 [h, n, (.tok 2)] (.br m (.need [r, m] (.need [e] (.need [l] (.back 8 [o, c, d])))) (.leaf [s, t])))))
theorem qf6 (g0 g1 : GfZ) : CdZ [(z9, g0), (zq, g1)] qg9 z9 Try.f94 q4f := fun cd h => by injection h with h; subst h; kernel_rfl
theorem qgy {g0 g1 g : GfZ} (h0 : FOk z9 g0) (h1 : FOk zq g1) (h : HgZ q4f z9 [(z9, g0), (zq, g1)] g) : FOk z9 g := jc (qf6 g0 g1) (.cons h0 (.cons h1 .nil)) rfl rfl q7s (by decide) h
def q0t : Ct := ⟨78, [.rref (.st 26), .val (.st 45), .val (.row 98)], [(.bool, false)], [], none, [], []⟩
theorem qhd : EnZ q0t := fun _ _ => by kernel_rfl
def qmg : Ann := ⟨[0, 1, 2, 3, 4, 6, 7, 9, 10, 11, 14, 23], []⟩
def q65 : Tree :=
 let a : X := .le (.call 0 1 [(.tok 1), (.lit (.mp [])), (.lit (.i 0)), (.tok 0)]) (.sub (.fld (.tok 0) 5) (.len (.fld (.tok 0) 0)))
 let b : X := .fn 3 [(.call 0 0 [(.tok 1), (.lit (.mp [])), (.lit (.i 0)), (.tok 0)])]
 let c : X := .le (.call 0 1 [(.tok 1), (.lit (.mp [])), (.lit (.i 1)), (.tok 0)]) (.sub (.fld (.tok 0) 5) (.len (.fld (.tok 0) 0)))
 let d : X := .fn 3 [(.call 0 0 [(.tok 1), (.lit (.mp [])), (.lit (.i 1)), (.tok 0)])]
 let e : X := .sub (.lit (.i 1048576)) (.len (.fld (.tok 0) 1))
 let f : X := .rng .i64 (.sub (.fld (.tok 0) 5) (.len (.fld (.tok 0) 0)))
 let h : X := .ok 0 [(.tok 1), (.lit (.mp [])), (.lit (.i 0)), (.tok 0)]
 let g : X := .rng .i64 b
 let i : X := .rng .i64 d
 let j : X := .rng .i64 e
 (.br (.eq (.fld (.tok 1) 0) (.lit (.i 0))) (.need [(.ok 1 [(.tok 2), (.fld (.tok 1) 1)])] (.br (.not (.call 1 1 [(.tok 2), (.fld (.tok 1) 1)])) (.need [(.rng .i64 (.lit (.i 1)))] (.need [(.ok 0 [(.tok 1), (.lit (.mp [])), (.lit (.i 1)), (.tok 0)])] (.need [(.imp c i), (.imp c i), (.imp c j), (.imp c i), (.imp c i), f] (.leaf [(.and c (.le d e))])))) (.need [h] (.need [(.imp a g), (.imp a g), (.imp a j), (.imp a g), (.imp a g), f] (.leaf [(.and a (.le b e))]))))) (.need [h] (.need [(.imp a g), (.imp a g), (.imp a j), (.imp a g), (.imp a g), f] (.leaf [(.and a (.le b e))]))))
theorem qj7 (g0 g1 : GfZ) : CdZ [(z9, g0), (qo, g1)] qmg q0t Try.f78 q65 := fun cd h => by injection h with h; subst h; kernel_rfl
theorem qm9 {g0 g1 g : GfZ} (h0 : FOk z9 g0) (h1 : FOk qo g1) (h : HgZ q65 q0t [(z9, g0), (qo, g1)] g) : FOk q0t g := jc (qj7 g0 g1) (.cons h0 (.cons h1 .nil)) rfl rfl qhd (by decide) h
def zo : Ct := ⟨79, [.val (.row 98)], [(.row 98, true)], [], none, [], []⟩
theorem q7d : EnZ zo := fun _ _ => by kernel_rfl
def q94 : Ann := ⟨[0, 2, 4], []⟩
def q2x : Tree := (.amb (.tok 0) .false (.leaf [(.lit (.r []))]) (.need [(.le (.add (.lit (.i 0)) (.len (.tok 0))) (.lit (.i 5864062014634)))] (.leaf [(.app (.row []) (.tok 0))])))
theorem q87 : CdZ [] q94 zo Try.f79 q2x := fun cd h => by injection h with h; subst h; kernel_rfl
theorem q8z {g : GfZ} (h : HgZ q2x zo [] g) : FOk zo g := jc (q87) .nil rfl rfl q7d (by decide) h
def zl : Ct := ⟨51, [.ref (.st 26) true, .val (.st 45), .val (.row 98)], [(.st 32, false), (.row 98, true), (.int .i64, false)], [], none, [], [(0, 0, .st 32), (0, 1, .st 57), (0, 2, .st 68), (0, 3, .st 64)]⟩
theorem q1z : EnZ zl := fun _ _ => by kernel_rfl
def qdg : Ann := ⟨[0, 1, 2, 3, 4, 6, 7, 8, 9, 24, 30], []⟩
def q79 : Tree := (.need [(.ok 5 [(.tok 1)]), (.imp (.not (.not (.call 5 0 [(.tok 1)]))) (.ok 6 [(.tok 0), (.tok 2)]))] (.br (.or (.not (.call 5 0 [(.tok 1)])) (.not (.call 6 0 [(.tok 0), (.tok 2)]))) (.leaf [(.lit (.a [(.i 0), (.i 0)])), (.lit (.r [])), (.lit (.i 1)), (.tok 0)]) (.need [(.ok 7 [(.tok 0), (.tok 1), (.tok 2)])] (.br (.not (.call 7 0 [(.tok 0), (.tok 1), (.tok 2)])) (.leaf [(.lit (.a [(.i 0), (.i 0)])), (.lit (.r [])), (.lit (.i 13)), (.tok 0)]) (.need [(.ok 8 [(.tok 2)])] (.need [(.ok 4 [(.tok 1), (.lit (.i (-1))), (.call 8 0 [(.tok 2)]), (.tok 0)]), (.le (.call 0 0 []) (.len (.fld (.tok 0) 0))), (.le (.call 1 0 []) (.len (.fld (.tok 0) 1))), (.le (.call 2 0 []) (.len (.fld (.tok 0) 2))), (.le (.call 3 0 []) (.len (.fld (.tok 0) 3)))] (.leaf [(.call 4 0 [(.tok 1), (.lit (.i (-1))), (.call 8 0 [(.tok 2)]), (.tok 0)]), (.call 4 1 [(.tok 1), (.lit (.i (-1))), (.call 8 0 [(.tok 2)]), (.tok 0)]), (.lit (.i 0)), (.call 4 2 [(.tok 1), (.lit (.i (-1))), (.call 8 0 [(.tok 2)]), (.tok 0)])])))))))
theorem qly (m0 m1 m2 m3 : Int) (g0 g1 g2 g3 g4 : GfZ) : CdZ [(j5 zl.f (.st 32), fun _ => some [.i m0]), (j5 zl.f (.st 57), fun _ => some [.i m1]), (j5 zl.f (.st 68), fun _ => some [.i m2]), (j5 zl.f (.st 64), fun _ => some [.i m3]), (z3, g0), (y8, g1), (yr, g2), (q0t, g3), (zo, g4)] qdg zl Try.f51 q79 := fun cd h => by injection h with h; subst h; kernel_rfl
theorem qpj {g0 g1 g2 g3 g4 : List D → Option (List D)} {g : List D → Option (List D)} (h0 : FOk z3 g0) (h1 : FOk y8 g1) (h2 : FOk yr g2) (h3 : FOk q0t g3) (h4 : FOk zo g4) (h : ∀ ds outs, WfA zl.ars ds → g ds = some outs → q79.go (qe [(j5 zl.f (.st 32), fun _ => some [.i (((ds.getD 0 .u).fld 0).rs.length : Nat)]), (j5 zl.f (.st 57), fun _ => some [.i (((ds.getD 0 .u).fld 1).rs.length : Nat)]), (j5 zl.f (.st 68), fun _ => some [.i (((ds.getD 0 .u).fld 2).rs.length : Nat)]), (j5 zl.f (.st 64), fun _ => some [.i (((ds.getD 0 .u).fld 3).rs.length : Nat)]), (z3, g0), (y8, g1), (yr, g2), (q0t, g3), (zo, g4)]) (fun o => o = outs) ds fun _ _ => False) : FOk zl g :=
 FOk.of_at q1z fun ds outs hw hg => qua qdg Try.f51 _ (.cons (q0n _ q1z _ _) (.cons (q0n _ q1z _ _) (.cons (q0n _ q1z _ _) (.cons (q0n _ q1z _ _) (.cons h0 (.cons h1 (.cons h2 (.cons h3 (.cons h4 .nil))))))))) rfl rfl (by decide) (by rw [qly _ _ _ _ g0 g1 g2 g3 g4 _ rfl]; exact h ds outs hw hg) rfl (FlF.of fun k j te hm => by
  rw [show zl.fl = [(0, 0, .st 32), (0, 1, .st 57), (0, 2, .st 68), (0, 3, .st 64)] from rfl] at hm
  simp only [List.mem_cons, Prod.mk.injEq, List.not_mem_nil, or_false] at hm
  rcases hm with ⟨rfl, rfl, rfl⟩ | ⟨rfl, rfl, rfl⟩ | ⟨rfl, rfl, rfl⟩ | ⟨rfl, rfl, rfl⟩ <;> exact ⟨by decide, Nat.le_refl _⟩)
def q08 : Ct := ⟨62, [.val (.st 80), .rref (.str)], [(.bool, false)], [], none, [], []⟩
theorem qfy : EnZ q08 := fun _ _ => by kernel_rfl
def qis : Ann := ⟨[0, 1, 2, 3], []⟩
def q5c : Tree := (.leaf [(.eq (.fld (.tok 0) 0) (.tok 1))])
theorem qgh : CdZ [] qis q08 Try.f62 q5c := fun cd h => by injection h with h; subst h; kernel_rfl
theorem qio {g : GfZ} (h : HgZ q5c q08 [] g) : FOk q08 g := jc (qgh) .nil rfl rfl qfy (by decide) h
def z4 : Ct := ⟨61, [.val (.row 81), .fn 62 [2]], [(.int .i64, false)], [(.cap 1 0, .rref (.str))], none, [], []⟩
theorem q3x : EnZ z4 := fun _ _ => by kernel_rfl
def q4y : Ann := ⟨[0, 1, 4, 5, 7, 8, 9, 16], [(2, ⟨[(4, .int .i64, false), (8, .int .i64, false)], [], [9, 10, 5, 11, 12, 13, 14, 15, 16, 17, 18], []⟩)]⟩
def jv : Tree := (.loop 2 2 [(.lit (.i 0)), (.lit (.i 0))] (.br (.lt (.tok 3) (.len (.tok 0))) (.need [(.le (.lit (.i 0)) (.tok 3)), (.lt (.tok 3) (.len (.tok 0))), (.ok 0 [(.get (.tok 0) (.tok 3)), (.tok 1)])] (.br (.call 0 0 [(.get (.tok 0) (.tok 3)), (.tok 1)]) (.leaf [(.tok 3)]) (.need [(.rng .i64 (.add (.tok 3) (.lit (.i 1))))] (.back 2 [(.tok 2), (.add (.tok 3) (.lit (.i 1)))])))) (.leaf [(.lit (.i (-1)))])))
theorem q4o (g0 : GfZ) : CdZ [(q08, g0)] q4y z4 Try.f61 jv := fun cd h => by injection h with h; subst h; kernel_rfl
theorem q5a {g0 g : GfZ} (h0 : FOk q08 g0) (h : HgZ jv z4 [(q08, g0)] g) : FOk z4 g := jc (q4o g0) (.cons h0 .nil) rfl rfl q3x (by decide) h
def yg : Ct := ⟨38, [.val (.row 81), .val (.str)], [(.int .i64, false)], [], none, [], []⟩
theorem qk9 : EnZ yg := fun _ _ => by kernel_rfl
def qpo : Ann := ⟨[0, 1, 3, 4], []⟩
def q76 : Tree := (.need [(.ok 0 [(.tok 0), (.tok 1)])] (.leaf [(.call 0 0 [(.tok 0), (.tok 1)])]))
theorem qnr (g0 : GfZ) : CdZ [(z4, g0)] qpo yg Try.f38 q76 := fun cd h => by injection h with h; subst h; kernel_rfl
theorem qp0 {g0 g : GfZ} (h0 : FOk z4 g0) (h : HgZ q76 yg [(z4, g0)] g) : FOk yg g := jc (qnr g0) (.cons h0 .nil) rfl rfl qk9 (by decide) h
def j9 : Ct := ⟨40, [.ref (.st 26) true, .val (.row 81)], [(.st 32, false), (.int .i64, false)], [], none, [], []⟩
theorem qhb : EnZ j9 := fun _ _ => by kernel_rfl
def qm7 : Ann := ⟨[0, 1, 4, 5, 6, 7, 8, 9, 10, 11, 12, 13], [(4, ⟨[(6, .row 46, false), (7, .row 98, false), (12, .int .i64, false)], [], [13, 14, 15, 16, 9, 8, 17, 18, 19, 20, 21, 22, 23, 24, 25, 26, 27, 28, 29, 30, 31, 32, 33, 34], []⟩)]⟩
def q67 : Tree :=
 let b : X := .tok 4
 let d : X := .lit (.i 1)
 let e : X := .tok 3
 let f : X := .lit (.s ⟨#[91, 93]⟩)
 let h : X := .lit (.s ⟨#[45]⟩)
 let a : X := .call 3 0 [(.tok 2), (.call 0 0 [f])]
 let c : X := .row [(.call 0 0 [(.fld (.get (.tok 1) b) 0)]), (.call 1 0 [b])]
 let g : X := .lt b (.len (.tok 1))
 (.loop 4 2 [(.lit (.r [])), (.lit (.r [])), (.lit (.i 0))] (.br g (.need [(.le (.lit (.i 0)) b), g] (.need [(.ok 0 [(.fld (.get (.tok 1) b) 0)]), (.ok 1 [b]), (.ok 2 [h, c]), (.le (.add (.len (.tok 2)) d) (.lit (.i 2513169434843)))] (.need [(.le (.add (.len e) d) (.lit (.i 5864062014634)))] (.need [(.rng .i64 (.add b d))] (.back 4 [(.app (.tok 2) (.row [(.call 2 0 [h, c])])), (.app e (.row [(.mk [b, (.fld (.get (.tok 1) b) 1)])])), (.add b d)]))))) (.need [(.ok 0 [f]), (.ok 3 [(.tok 2), (.call 0 0 [f])]), (.ok 4 [(.tok 0), a, e])] (.leaf [(.call 4 0 [(.tok 0), a, e]), (.call 4 2 [(.tok 0), a, e]), (.call 4 3 [(.tok 0), a, e])]))))
theorem qjz (g0 g1 g2 g3 g4 : GfZ) : CdZ [(zz, g0), (q1i, g1), (jb, g2), (q1j, g3), (zl, g4)] qm7 j9 Try.f40 q67 := fun cd h => by injection h with h; subst h; kernel_rfl
theorem qo4 {g0 g1 g2 g3 g4 g : GfZ} (h0 : FOk zz g0) (h1 : FOk q1i g1) (h2 : FOk jb g2) (h3 : FOk q1j g3) (h4 : FOk zl g4) (h : HgZ q67 j9 [(zz, g0), (q1i, g1), (jb, g2), (q1j, g3), (zl, g4)] g) : FOk j9 g := jc (qjz g0 g1 g2 g3 g4) (.cons h0 (.cons h1 (.cons h2 (.cons h3 (.cons h4 .nil))))) rfl rfl qhb (by decide) h
def q07 : Ct := ⟨65, [.rref (.st 26), .val (.int .i64)], [(.bool, false)], [], none, [], []⟩
theorem qoh : EnZ q07 := fun _ _ => by kernel_rfl
def qs0 : Ann := ⟨[0, 1, 4], []⟩
def q97 : Tree := (.leaf [(.and (.le (.lit (.i 0)) (.tok 1)) (.lt (.tok 1) (.len (.fld (.tok 0) 0))))])
theorem qpm : CdZ [] qs0 q07 Try.f65 q97 := fun cd h => by injection h with h; subst h; kernel_rfl
theorem qt9 {g : GfZ} (h : HgZ q97 q07 [] g) : FOk q07 g := jc (qpm) .nil rfl rfl qoh (by decide) h
def j8 : Ct := ⟨66, [.rref (.st 26), .val (.int .i64)], [(.bool, false)], [], none, [], []⟩
theorem qbh : EnZ j8 := fun _ _ => by kernel_rfl
def qec : Ann := ⟨[0, 1, 4, 5, 14, 15, 21, 23], []⟩
def q35 : Tree :=
 let a : X := .sub (.tok 1) (.lit (.i 2))
 let b : X := .le (.lit (.i 2)) (.tok 1)
 let c : X := .fld (.get (.fld (.tok 0) 0) (.tok 1)) 0
 let e : X := .len (.fld (.tok 0) 0)
 let f : X := .lit (.i 0)
 let g : X := .lit (.b .false)
 let d : X := .and b (.eq (.fld (.get (.fld (.tok 0) 0) a) 0) (.lit (.i 5)))
 let h : X := .rng .i64 a
 (.need [(.le f (.tok 1)), (.lt (.tok 1) e)] (.br (.eq c f) (.leaf [(.eq (.get (.fld (.tok 0) 0) (.tok 1)) (.mk [f, (.tok 1)]))]) (.br (.eq c (.lit (.i 5))) (.leaf [(.lit (.b .true))]) (.br (.eq c (.lit (.i 1))) (.br (.eq c (.lit (.i 1))) (.need [(.imp b h), (.imp b (.le f a)), (.imp b (.lt a e))] (.leaf [d])) (.leaf [g])) (.br (.eq c (.lit (.i 2))) (.br (.eq c (.lit (.i 2))) (.need [(.imp b h), (.imp b (.le f a)), (.imp b (.lt a e))] (.leaf [d])) (.leaf [g])) (.br (.eq c (.lit (.i 3))) (.need [(.imp b h), (.imp b (.le f a)), (.imp b (.lt a e))] (.leaf [d])) (.leaf [g])))))))
theorem qct : CdZ [] qec j8 Try.f66 q35 := fun cd h => by injection h with h; subst h; kernel_rfl
theorem qdi {g : GfZ} (h : HgZ q35 j8 [] g) : FOk j8 g := jc (qct) .nil rfl rfl qbh (by decide) h
def q0r : Ct := ⟨68, [.val (.st 32)], [(.st 32, false)], [], none, [], []⟩
theorem qhe : EnZ q0r := fun _ _ => by kernel_rfl
def qnk : Ann := ⟨[0, 1, 2, 5], []⟩
def q63 : Tree := (.br (.eq (.fld (.tok 0) 0) (.lit (.i 5))) (.leaf [(.set (.tok 0) 0 (.lit (.i 0)))]) (.leaf [(.tok 0)]))
theorem qj9 : CdZ [] qnk q0r Try.f68 q63 := fun cd h => by injection h with h; subst h; kernel_rfl
theorem qnq {g : GfZ} (h : HgZ q63 q0r [] g) : FOk q0r g := jc (qj9) .nil rfl rfl qhe (by decide) h
def q0c : Ct := ⟨67, [.rref (.st 26), .val (.st 32), .val (.int .i64)], [(.bool, false)], [], none, [], []⟩
theorem qfv : EnZ q0c := fun _ _ => by kernel_rfl
def qj8 : Ann := ⟨[0, 1, 2, 4, 6, 7, 13, 14, 15, 25, 29, 40], [(2, ⟨[(6, .bool, false), (14, .int .i64, false)], [4], [15, 16, 17, 18, 19, 20, 21, 22, 23, 24, 25, 26, 27, 28, 29, 30, 31, 32, 33, 34, 35, 36, 37, 7, 38, 39, 40, 41, 42], []⟩)]⟩
def q58 : Tree := (.need [(.rng .i64 (.add (.len (.fld (.tok 0) 0)) (.lit (.i 1))))] (.loop 2 3 [(.lit (.b .false)), (.lit (.i 0)), (.tok 1)] (.br (.lt (.tok 4) (.add (.len (.fld (.tok 0) 0)) (.lit (.i 1)))) (.need [(.imp (.not (.not (.eq (.fld (.tok 5) 0) (.lit (.i 0))))) (.ok 0 [(.tok 0), (.fld (.tok 5) 1)]))] (.br (.or (.not (.eq (.fld (.tok 5) 0) (.lit (.i 0)))) (.not (.call 0 0 [(.tok 0), (.fld (.tok 5) 1)]))) (.leaf [(.lit (.b .false))]) (.br (.eq (.fld (.tok 5) 1) (.tok 2)) (.leaf [(.lit (.b .true))]) (.need [(.le (.lit (.i 0)) (.fld (.tok 5) 1)), (.lt (.fld (.tok 5) 1) (.len (.fld (.tok 0) 0)))] (.br (.eq (.get (.fld (.tok 0) 0) (.fld (.tok 5) 1)) (.tok 5)) (.leaf [(.lit (.b .false))]) (.need [(.rng .i64 (.add (.tok 4) (.lit (.i 1))))] (.back 2 [(.tok 3), (.add (.tok 4) (.lit (.i 1))), (.get (.fld (.tok 0) 0) (.fld (.tok 5) 1))]))))))) (.leaf [(.lit (.b .false))]))))
theorem qhq (g0 : GfZ) : CdZ [(q07, g0)] qj8 q0c Try.f67 q58 := fun cd h => by injection h with h; subst h; kernel_rfl
theorem qiy {g0 g : GfZ} (h0 : FOk q07 g0) (h : HgZ q58 q0c [(q07, g0)] g) : FOk q0c g := jc (qhq g0) (.cons h0 .nil) rfl rfl qfv (by decide) h
def zw : Ct := ⟨41, [.ref (.st 26) true, .val (.int .i64), .val (.st 32)], [(.int .i64, false)], [], none, [], []⟩
theorem qjk : EnZ zw := fun _ _ => by kernel_rfl
def qpt : Ann := ⟨[0, 1, 2, 5, 6, 35], []⟩
def q7l : Tree :=
 let c : X := .tok 0
 let d : X := .tok 1
 let e : X := .tok 2
 let h : X := .lit (.i 0)
 let b : X := .set c 2 (.app (.fld c 2) (.row [(.mk [d, (.get (.fld c 0) d)])]))
 let f : X := .call 3 0 [e]
 let g : X := .not (.call 0 0 [c, d])
 let a : X := .or (.or g (.not (.call 1 0 [c, e]))) (.not (.call 2 0 [c, d]))
 (.need [(.imp (.not a) (.ok 4 [c, f, d])), (.imp (.not a) (.ok 3 [e])), (.imp (.not a) (.ok 3 [e])), (.imp (.not (.or g (.not (.call 1 0 [c, e])))) (.ok 2 [c, d])), (.imp (.not g) (.ok 1 [c, e])), (.ok 0 [c, d])] (.br (.or a (.call 4 0 [c, f, d])) (.leaf [(.lit (.i 1)), c]) (.need [(.le h d), (.lt d (.len (.fld c 0))), (.le (.add (.len (.fld c 2)) (.lit (.i 1))) (.lit (.i 5864062014634)))] (.need [(.ok 3 [e]), (.le h d), (.lt d (.len (.fld b 0)))] (.leaf [h, (.set b 0 (.put (.fld b 0) d f))])))))
theorem qlm (g0 g1 g2 g3 g4 : GfZ) : CdZ [(q07, g0), (qm, g1), (j8, g2), (q0r, g3), (q0c, g4)] qpt zw Try.f41 q7l := fun cd h => by injection h with h; subst h; kernel_rfl
theorem qpc {g0 g1 g2 g3 g4 g : GfZ} (h0 : FOk q07 g0) (h1 : FOk qm g1) (h2 : FOk j8 g2) (h3 : FOk q0r g3) (h4 : FOk q0c g4) (h : HgZ q7l zw [(q07, g0), (qm, g1), (j8, g2), (q0r, g3), (q0c, g4)] g) : FOk zw g := jc (qlm g0 g1 g2 g3 g4) (.cons h0 (.cons h1 (.cons h2 (.cons h3 (.cons h4 .nil))))) rfl rfl qjk (by decide) h
def q1o : Ct := ⟨23, [.val (.row 9), .val (.row 9)], [(.bool, false)], [], none, [], []⟩
theorem qfs : EnZ q1o := fun _ _ => by kernel_rfl
def qjy : Ann := ⟨[0, 1, 4, 5, 10, 14, 25], [(4, ⟨[(4, .bool, false), (5, .int .i64, false)], [], [11, 12, 13, 14, 17, 18, 19, 20, 21, 22, 23, 24, 25, 15, 16], []⟩)]⟩
def q5g : Tree := (.br (.not (.eq (.len (.tok 0)) (.len (.tok 1)))) (.leaf [(.lit (.b .false))]) (.loop 4 2 [(.lit (.b .false)), (.lit (.i 0))] (.br (.lt (.tok 3) (.len (.tok 0))) (.need [(.le (.lit (.i 0)) (.tok 3)), (.lt (.tok 3) (.len (.tok 1))), (.le (.lit (.i 0)) (.tok 3)), (.lt (.tok 3) (.len (.tok 0)))] (.br (.not (.eq (.get (.tok 0) (.tok 3)) (.get (.tok 1) (.tok 3)))) (.leaf [(.lit (.b .false))]) (.need [(.rng .i64 (.add (.tok 3) (.lit (.i 1))))] (.back 4 [(.tok 2), (.add (.tok 3) (.lit (.i 1)))])))) (.leaf [(.lit (.b .true))]))))
theorem qgo : CdZ [] qjy q1o Try.f23 q5g := fun cd h => by injection h with h; subst h; kernel_rfl
theorem qk2 {g : GfZ} (h : HgZ q5g q1o [] g) : FOk q1o g := jc (qgo) .nil rfl rfl qfs (by decide) h
def q0m : Ct := ⟨69, [.val (.st 32)], [(.st 32, false)], [], none, [], []⟩
theorem qk0 : EnZ q0m := fun _ _ => by kernel_rfl
def qpa : Ann := ⟨[0, 1, 2, 5], []⟩
def q7z : Tree := (.br (.eq (.fld (.tok 0) 0) (.lit (.i 5))) (.leaf [(.set (.tok 0) 0 (.lit (.i 0)))]) (.leaf [(.tok 0)]))
theorem qmv : CdZ [] qpa q0m Try.f69 q7z := fun cd h => by injection h with h; subst h; kernel_rfl
theorem qpq {g : GfZ} (h : HgZ q7z q0m [] g) : FOk q0m g := jc (qmv) .nil rfl rfl qk0 (by decide) h
def q1d : Ct := ⟨43, [.ref (.st 26) true, .val (.st 32), .val (.st 32)], [(.int .i64, false)], [], none, [], []⟩
theorem qk3 : EnZ q1d := fun _ _ => by kernel_rfl
def qoz : Ann := ⟨[0, 1, 2, 4, 5, 6, 7, 8, 37], []⟩
def q7h : Tree := (.need [(.ok 0 [(.tok 2)]), (.ok 0 [(.tok 2)]), (.le (.lit (.i 0)) (.add (.fld (.tok 1) 1) (.lit (.i 2)))), (.lt (.add (.fld (.tok 1) 1) (.lit (.i 2))) (.len (.fld (.tok 0) 0))), (.rng .i64 (.add (.fld (.tok 1) 1) (.lit (.i 2)))), (.le (.lit (.i 0)) (.add (.fld (.tok 1) 1) (.lit (.i 1)))), (.lt (.add (.fld (.tok 1) 1) (.lit (.i 1))) (.len (.fld (.tok 0) 0))), (.rng .i64 (.add (.fld (.tok 1) 1) (.lit (.i 1))))] (.need [(.ok 1 [(.tok 0), (.fld (.tok 1) 1), (.tok 2)])] (.br (.not (.eq (.call 1 0 [(.tok 0), (.fld (.tok 1) 1), (.tok 2)]) (.lit (.i 0)))) (.leaf [(.call 1 0 [(.tok 0), (.fld (.tok 1) 1), (.tok 2)]), (.call 1 1 [(.tok 0), (.fld (.tok 1) 1), (.tok 2)])]) (.need [(.le (.add (.len (.fld (.call 1 1 [(.tok 0), (.fld (.tok 1) 1), (.tok 2)]) 3)) (.lit (.i 1))) (.lit (.i 3518437208780)))] (.leaf [(.lit (.i 0)), (.set (.call 1 1 [(.tok 0), (.fld (.tok 1) 1), (.tok 2)]) 3 (.app (.fld (.call 1 1 [(.tok 0), (.fld (.tok 1) 1), (.tok 2)]) 3) (.row [(.mk [(.fld (.get (.fld (.tok 0) 0) (.add (.fld (.tok 1) 1) (.lit (.i 1)))) 1), (.get (.fld (.tok 0) 0) (.add (.fld (.tok 1) 1) (.lit (.i 2)))), (.call 0 0 [(.tok 2)])])])))])))))
theorem qn5 (g0 g1 : GfZ) : CdZ [(q0m, g0), (zw, g1)] qoz q1d Try.f43 q7h := fun cd h => by injection h with h; subst h; kernel_rfl
theorem qpi {g0 g1 g : GfZ} (h0 : FOk q0m g0) (h1 : FOk zw g1) (h : HgZ q7h q1d [(q0m, g0), (zw, g1)] g) : FOk q1d g := jc (qn5 g0 g1) (.cons h0 (.cons h1 .nil)) rfl rfl qk3 (by decide) h
def q0o : Ct := ⟨45, [.val (.row 3)], [(.int .i64, false)], [], none, [], []⟩
theorem qgv : EnZ q0o := fun _ _ => by kernel_rfl
def qo3 : Ann := ⟨[0, 2, 3, 5, 6, 7, 8, 9, 14], [(3, ⟨[(2, .int .i64, false), (8, .int .i64, false)], [], [9, 10, 11, 5, 12, 13, 14, 15, 16], []⟩)]⟩
def q6k : Tree := (.loop 3 1 [(.lit (.i 0)), (.lit (.i 0))] (.br (.lt (.tok 2) (.len (.tok 0))) (.need [(.le (.lit (.i 0)) (.tok 2)), (.lt (.tok 2) (.len (.tok 0)))] (.br (.not (.eq (.get (.tok 0) (.tok 2)) (.lit (.i 0)))) (.leaf [(.get (.tok 0) (.tok 2))]) (.need [(.rng .i64 (.add (.tok 2) (.lit (.i 1))))] (.back 3 [(.tok 1), (.add (.tok 2) (.lit (.i 1)))])))) (.leaf [(.lit (.i 0))])))
theorem qip : CdZ [] qo3 q0o Try.f45 q6k := fun cd h => by injection h with h; subst h; kernel_rfl
theorem qma {g : GfZ} (h : HgZ q6k q0o [] g) : FOk q0o g := jc (qip) .nil rfl rfl qgv (by decide) h
def q1y : Ct := ⟨13, [.ref (.st 26) true, .val (.st 32), .val (.st 32)], [(.int .i64, false)], [], none, [], []⟩
theorem qjb : EnZ q1y := fun _ _ => by kernel_rfl
def qop : Ann := ⟨[0, 1, 2, 4, 5, 6, 7, 8, 9, 11, 34, 40, 44, 53, 61, 107], []⟩
def q78 : Tree :=
 let c : X := .tok 0
 let f : X := .lit (.i 1)
 let k : X := .lit (.i 0)
 let a : X := .call 2 0 [c, (.tok 2)]
 let b : X := .call 0 0 [c, (.tok 1)]
 let l : X := .fld c 0
 let d : X := .fld a 1
 let g : X := .or (.not (.call 0 1 [c, (.tok 1)])) (.not (.eq (.fld b 0) (.lit (.i 5))))
 let j : X := .add (.fld b 1) f
 let h : X := .not (.call 5 0 [c, d])
 let i : X := .add d (.lit (.i 2))
 let m : X := .add d f
 let e : X := .row [(.call 6 0 [(.fld (.get l j) 1), (.fld (.get l m) 1)]), (.call 6 0 [(.fld b 1), d])]
 (.need [(.ok 0 [c, (.tok 1)]), (.ok 0 [c, (.tok 1)])] (.need [(.imp (.not g) (.ok 1 [c, (.tok 2)]))] (.br (.or g (.not (.call 1 0 [c, (.tok 2)]))) (.leaf [f, c]) (.need [(.ok 2 [c, (.tok 2)]), (.ok 2 [c, (.tok 2)])] (.br (.eq a b) (.leaf [k, c]) (.br (.eq (.fld a 0) k) (.need [(.ok 3 [c, d, b])] (.leaf [(.call 3 0 [c, d, b]), (.call 3 1 [c, d, b])])) (.br (.not (.eq (.fld a 0) (.lit (.i 5)))) (.need [(.ok 4 [c, b, a])] (.leaf [(.call 4 0 [c, b, a]), (.call 4 1 [c, b, a])])) (.need [(.imp (.not h) (.ok 5 [c, i])), (.imp (.not h) (.rng .i64 i)), (.imp (.not h) (.rng .i64 i)), (.ok 5 [c, d])] (.br (.or h (.not (.call 5 0 [c, i]))) (.leaf [f, c]) (.need [(.ok 7 [e]), (.ok 6 [(.fld b 1), d]), (.ok 6 [(.fld (.get l j) 1), (.fld (.get l m) 1)]), (.le k m), (.lt m (.len l)), (.rng .i64 m), (.le k j), (.lt j (.len l)), (.rng .i64 j)] (.br (.lt k (.call 7 0 [e])) (.need [(.ok 4 [c, b, a])] (.leaf [(.call 4 0 [c, b, a]), (.call 4 1 [c, b, a])])) (.need [(.ok 4 [c, a, b])] (.leaf [(.call 4 0 [c, a, b]), (.call 4 1 [c, a, b])])))))))))))))
theorem qle (g0 g1 g2 g3 g4 g5 g6 g7 : GfZ) : CdZ [(qw, g0), (qm, g1), (zg, g2), (zw, g3), (q1d, g4), (jp, g5), (zd, g6), (q0o, g7)] qop q1y Try.f13 q78 := fun cd h => by injection h with h; subst h; kernel_rfl
theorem qow {g0 g1 g2 g3 g4 g5 g6 g7 g : GfZ} (h0 : FOk qw g0) (h1 : FOk qm g1) (h2 : FOk zg g2) (h3 : FOk zw g3) (h4 : FOk q1d g4) (h5 : FOk jp g5) (h6 : FOk zd g6) (h7 : FOk q0o g7) (h : HgZ q78 q1y [(qw, g0), (qm, g1), (zg, g2), (zw, g3), (q1d, g4), (jp, g5), (zd, g6), (q0o, g7)] g) : FOk q1y g := jc (qle g0 g1 g2 g3 g4 g5 g6 g7) (.cons h0 (.cons h1 (.cons h2 (.cons h3 (.cons h4 (.cons h5 (.cons h6 (.cons h7 .nil)))))))) rfl rfl qjb (by decide) h
def jl : Ct := ⟨34, [.val (.row 65)], [(.row 65, true)], [], none, [], []⟩
theorem q9p : EnZ jl := fun _ _ => by kernel_rfl
def qau : Ann := ⟨[0, 2, 4], []⟩
def q42 : Tree := (.amb (.tok 0) .false (.leaf [(.lit (.r []))]) (.need [(.le (.add (.lit (.i 0)) (.len (.tok 0))) (.lit (.i 3518437208780)))] (.leaf [(.app (.row []) (.tok 0))])))
theorem q9y : CdZ [] qau jl Try.f34 q42 := fun cd h => by injection h with h; subst h; kernel_rfl
theorem qaw {g : GfZ} (h : HgZ q42 jl [] g) : FOk jl g := jc (q9y) .nil rfl rfl q9p (by decide) h
def q1a : Ct := ⟨19, [.val (.int .i64)], [(.st 45, false)], [], none, [], []⟩
theorem qnt : EnZ q1a := fun _ _ => by kernel_rfl
def qug : Ann := ⟨[0, 2], []⟩
def q95 : Tree := (.leaf [(.set (.set (.lit (.a [(.i 0), (.i 0), (.s ⟨#[]⟩), (.r [])])) 0 (.lit (.i 1))) 1 (.tok 0))])
theorem qpu : CdZ [] qug q1a Try.f19 q95 := fun cd h => by injection h with h; subst h; kernel_rfl
theorem qto {g : GfZ} (h : HgZ q95 q1a [] g) : FOk q1a g := jc (qpu) .nil rfl rfl qnt (by decide) h
def yt : Ct := ⟨52, [.val (.st 32), .ref (.int .i64) true, .rref (.st 26), .cell 99 4], [(.st 45, false)], [(.cell 3, .fn 52 [1, 2, 3])], none, [], []⟩
theorem q8l : EnZ yt := fun _ _ => by kernel_rfl
def qjo : Ann := ⟨[0, 1, 2, 3, 4, 5, 6, 7, 8, 12, 17, 24, 43, 99], [(13, ⟨[(8, .int .i64, false)], [1, 7], [83, 84, 85, 86, 87, 88, 89, 90, 91, 92, 93, 94, 95, 96, 97, 98, 99, 102, 103, 104, 105, 106, 107, 108, 109, 110, 111, 112, 113, 100, 101], []⟩)]⟩
def q5i : Tree :=
 let c : X := .tok 2
 let f : X := .lit (.i 0)
 let g : X := .lit (.a [(.i 0), (.i 0), (.s ⟨#[]⟩), (.r [])])
 let j : X := .tok 3
 let k : X := .lit (.i 1)
 let n : X := .tok 4
 let a : X := .fld (.call 1 0 [c, (.tok 0)]) 1
 let e : X := .sub (.tok 1) k
 let h : X := .fld (.call 1 0 [c, (.tok 0)]) 0
 let l : X := .fld c 0
 let m : X := .fld c 1
 let b : X := .and (.eq h (.lit (.i 3))) (.eq (.call 5 0 [c, a]) (.lit (.i 4)))
 let d : X := .fld (.get l a) 1
 let i : X := .add a (.fld (.get m d) 1)
 (.need [(.rng .i64 e)] (.br (.lt e f) (.leaf [g, e]) (.need [(.ok 1 [c, (.tok 0)])] (.br (.eq h k) (.need [(.ok 2 [a])] (.leaf [(.call 2 0 [a]), e])) (.need [(.imp (.eq h (.lit (.i 2))) (.ok 3 [c, a]))] (.br (.and (.eq h (.lit (.i 2))) (.le f (.call 3 0 [c, a]))) (.need [(.le f a), (.lt a (.len m)), (.ok 4 [(.fld (.get m a) 0)])] (.leaf [(.call 4 0 [(.fld (.get m a) 0)]), e])) (.need [(.imp b (.ok 3 [c, d])), (.imp b (.le f a)), (.imp b (.lt a (.len l))), (.imp (.eq h (.lit (.i 3))) (.ok 5 [c, a]))] (.br (.and b (.le f (.call 3 0 [c, d]))) (.need [(.le f d), (.lt d (.len m)), (.le f a), (.lt a (.len l))] (.need [(.rng .i64 (.add a k))] (.loop 13 3 [(.add a k), e, (.set (.set g 0 (.lit (.i 3))) 2 (.fld (.get m d) 0))] (.need [(.rng .i64 i), (.imp (.le j i) (.ok 5 [c, j]))] (.br (.and (.and (.le j i) (.le f (.call 5 0 [c, j]))) (.le f n)) (.need [(.le (.add (.len (.fld (.tok 5) 3)) k) (.lit (.i 2513169434843))), (.ok 0 [(.get l j), n, c]), (.le f j), (.lt j (.len l))] (.need [(.rng .i64 (.add j k))] (.back 13 [(.add j k), (.call 0 1 [(.get l j), n, c]), (.set (.tok 5) 3 (.app (.fld (.tok 5) 3) (.row [(.call 0 0 [(.get l j), n, c])])))]))) (.leaf [(.tok 5), n])))))) (.leaf [(.set (.set g 0 f) 1 a), e])))))))))
theorem qi3 (g0 g1 g2 g3 g4 g5 : GfZ) : CdZ [(yt, g0), (zg, g1), (q1a, g2), (yv, g3), (zz, g4), (yi, g5)] qjo yt Try.f52 q5i := fun cd h => by injection h with h; subst h; kernel_rfl
theorem qjf {g0 g1 g2 g3 g4 g5 g : GfZ} (h0 : FOk yt g0) (h1 : FOk zg g1) (h2 : FOk q1a g2) (h3 : FOk yv g3) (h4 : FOk zz g4) (h5 : FOk yi g5) (h : HgZ q5i yt [(yt, g0), (zg, g1), (q1a, g2), (yv, g3), (zz, g4), (yi, g5)] g) : FOk yt g := jc (qi3 g0 g1 g2 g3 g4 g5) (.cons h0 (.cons h1 (.cons h2 (.cons h3 (.cons h4 (.cons h5 .nil)))))) rfl rfl q8l (by decide) h
def q2u : Ct := ⟨15, [.val (.st 26), .val (.st 32)], [(.st 45, false), (.int .i64, false)], [], none, [], []⟩
theorem qjg : EnZ q2u := fun _ _ => by kernel_rfl
def qp7 : Ann := ⟨[0, 1, 2, 3, 4, 5, 6, 7, 11, 18], []⟩
def q7y : Tree := (.need [(.ok 1 [(.tok 0), (.tok 1)])] (.br (.not (.call 1 0 [(.tok 0), (.tok 1)])) (.leaf [(.lit (.a [(.i 0), (.i 0), (.s ⟨#[]⟩), (.r [])])), (.lit (.i 1))]) (.need [(.ok 0 [(.tok 1), (.lit (.i 2000)), (.tok 0)])] (.br (.lt (.call 0 1 [(.tok 1), (.lit (.i 2000)), (.tok 0)]) (.lit (.i 0))) (.leaf [(.lit (.a [(.i 0), (.i 0), (.s ⟨#[]⟩), (.r [])])), (.lit (.i 2))]) (.leaf [(.call 0 0 [(.tok 1), (.lit (.i 2000)), (.tok 0)]), (.lit (.i 0))])))))
theorem qn4 (g0 g1 : GfZ) : CdZ [(yt, g0), (qm, g1)] qp7 q2u Try.f15 q7y := fun cd h => by injection h with h; subst h; kernel_rfl
theorem qp5 {g0 g1 g : GfZ} (h0 : FOk yt g0) (h1 : FOk qm g1) (h : HgZ q7y q2u [(yt, g0), (qm, g1)] g) : FOk q2u g := jc (qn4 g0 g1) (.cons h0 (.cons h1 .nil)) rfl rfl qjg (by decide) h
def yq : Ct := ⟨98, [.val (.st 45), .val (.int .i64)], [(.int .i64, false)], [], none, [], []⟩
theorem q8v : EnZ yq := fun _ _ => by kernel_rfl
def qjw : Ann := ⟨[0, 1, 2, 4, 5, 6, 16], [(3, ⟨[(5, .int .i64, false), (6, .int .i64, false)], [], [7, 8, 9, 10, 11, 12, 13, 14, 15, 16, 19, 20, 21, 22, 23, 24, 25, 26, 27, 28, 29, 17, 18], []⟩)]⟩
def q53 : Tree := (.loop 3 2 [(.lit (.i 1)), (.lit (.i 0))] (.br (.and (.lt (.tok 3) (.len (.fld (.tok 0) 3))) (.lt (.tok 2) (.tok 1))) (.need [(.le (.lit (.i 0)) (.tok 3)), (.lt (.tok 3) (.len (.fld (.tok 0) 3))), (.rng .i64 (.sub (.tok 1) (.tok 2))), (.ok 0 [(.get (.fld (.tok 0) 3) (.tok 3)), (.sub (.tok 1) (.tok 2))]), (.rng .i64 (.add (.tok 2) (.call 0 0 [(.get (.fld (.tok 0) 3) (.tok 3)), (.sub (.tok 1) (.tok 2))])))] (.need [(.rng .i64 (.add (.tok 3) (.lit (.i 1))))] (.back 3 [(.add (.tok 2) (.call 0 0 [(.get (.fld (.tok 0) 3) (.tok 3)), (.sub (.tok 1) (.tok 2))])), (.add (.tok 3) (.lit (.i 1)))]))) (.leaf [(.tok 2)])))
theorem qgu (g0 : GfZ) : CdZ [(yq, g0)] qjw yq Try.f98 q53 := fun cd h => by injection h with h; subst h; kernel_rfl
theorem qiz {g0 g : GfZ} (h0 : FOk yq g0) (h : HgZ q53 yq [(yq, g0)] g) : FOk yq g := jc (qgu g0) (.cons h0 .nil) rfl rfl q8v (by decide) h
def q0q : Ct := ⟨86, [.val (.st 45)], [(.int .i64, false)], [], none, [], []⟩
theorem qh0 : EnZ q0q := fun _ _ => by kernel_rfl
def qlp : Ann := ⟨[0, 1, 2], []⟩
def q6c : Tree := (.need [(.ok 0 [(.tok 0), (.lit (.i 2001))])] (.leaf [(.call 0 0 [(.tok 0), (.lit (.i 2001))])]))
theorem qjm (g0 : GfZ) : CdZ [(yq, g0)] qlp q0q Try.f86 q6c := fun cd h => by injection h with h; subst h; kernel_rfl
theorem qmh {g0 g : GfZ} (h0 : FOk yq g0) (h : HgZ q6c q0q [(yq, g0)] g) : FOk q0q g := jc (qjm g0) (.cons h0 .nil) rfl rfl qh0 (by decide) h
def q0p : Ct := ⟨99, [.val (.st 45)], [(.bool, false)], [], none, [], []⟩
theorem qgw : EnZ q0p := fun _ _ => by kernel_rfl
def qn0 : Ann := ⟨[0, 1, 2, 4, 5, 26, 37, 54], []⟩
def q6f : Tree := (.br (.eq (.fld (.tok 0) 0) (.lit (.i 0))) (.leaf [(.and (.and (.and (.le (.lit (.i 0)) (.fld (.tok 0) 1)) (.le (.fld (.tok 0) 1) (.lit (.i 1099511627776)))) (.eq (.fld (.tok 0) 2) (.lit (.s ⟨#[]⟩)))) (.eq (.len (.fld (.tok 0) 3)) (.lit (.i 0))))]) (.br (.eq (.fld (.tok 0) 0) (.lit (.i 1))) (.leaf [(.and (.eq (.fld (.tok 0) 2) (.lit (.s ⟨#[]⟩))) (.eq (.len (.fld (.tok 0) 3)) (.lit (.i 0))))]) (.br (.eq (.fld (.tok 0) 0) (.lit (.i 2))) (.leaf [(.and (.and (.eq (.fld (.tok 0) 1) (.lit (.i 0))) (.le (.slen (.fld (.tok 0) 2)) (.lit (.i 100)))) (.eq (.len (.fld (.tok 0) 3)) (.lit (.i 0))))]) (.br (.eq (.fld (.tok 0) 0) (.lit (.i 3))) (.leaf [(.and (.and (.and (.eq (.fld (.tok 0) 1) (.lit (.i 0))) (.le (.slen (.fld (.tok 0) 2)) (.lit (.i 100)))) (.le (.lit (.i 1)) (.len (.fld (.tok 0) 3)))) (.le (.len (.fld (.tok 0) 3)) (.lit (.i 8))))]) (.leaf [(.lit (.b .false))])))))
theorem qin : CdZ [] qn0 q0p Try.f99 q6f := fun cd h => by injection h with h; subst h; kernel_rfl
theorem qo9 {g : GfZ} (h : HgZ q6f q0p [] g) : FOk q0p g := jc (qin) .nil rfl rfl qgw (by decide) h
def yp : Ct := ⟨87, [.val (.st 45)], [(.bool, false)], [], none, [], []⟩
theorem q8i : EnZ yp := fun _ _ => by kernel_rfl
def qji : Ann := ⟨[0, 1, 2, 3, 6, 11, 20], [(4, ⟨[(2, .bool, false), (3, .int .i64, false)], [], [7, 8, 9, 10, 11, 14, 15, 16, 17, 18, 19, 20, 12, 13], []⟩)]⟩
def q4t : Tree := (.need [(.ok 0 [(.tok 0)])] (.br (.not (.call 0 0 [(.tok 0)])) (.leaf [(.lit (.b .false))]) (.loop 4 1 [(.lit (.b .false)), (.lit (.i 0))] (.br (.lt (.tok 2) (.len (.fld (.tok 0) 3))) (.need [(.le (.lit (.i 0)) (.tok 2)), (.lt (.tok 2) (.len (.fld (.tok 0) 3))), (.ok 1 [(.get (.fld (.tok 0) 3) (.tok 2))])] (.br (.not (.call 1 0 [(.get (.fld (.tok 0) 3) (.tok 2))])) (.leaf [(.lit (.b .false))]) (.need [(.rng .i64 (.add (.tok 2) (.lit (.i 1))))] (.back 4 [(.tok 1), (.add (.tok 2) (.lit (.i 1)))])))) (.leaf [(.lit (.b .true))])))))
theorem qgc (g0 g1 : GfZ) : CdZ [(q0p, g0), (yp, g1)] qji yp Try.f87 q4t := fun cd h => by injection h with h; subst h; kernel_rfl
theorem qk5 {g0 g1 g : GfZ} (h0 : FOk q0p g0) (h1 : FOk yp g1) (h : HgZ q4t yp [(q0p, g0), (yp, g1)] g) : FOk yp g := jc (qgc g0 g1) (.cons h0 (.cons h1 .nil)) rfl rfl q8i (by decide) h
def q0d : Ct := ⟨55, [.val (.st 45)], [(.bool, false)], [], none, [], []⟩
theorem qen : EnZ q0d := fun _ _ => by kernel_rfl
def qjl : Ann := ⟨[0, 1, 2], []⟩
def q54 : Tree := (.need [(.ok 0 [(.tok 0)]), (.imp (.le (.call 0 0 [(.tok 0)]) (.lit (.i 2000))) (.ok 1 [(.tok 0)]))] (.leaf [(.and (.le (.call 0 0 [(.tok 0)]) (.lit (.i 2000))) (.call 1 0 [(.tok 0)]))]))
theorem qht (g0 g1 : GfZ) : CdZ [(q0q, g0), (yp, g1)] qjl q0d Try.f55 q54 := fun cd h => by injection h with h; subst h; kernel_rfl
theorem qk1 {g0 g1 g : GfZ} (h0 : FOk q0q g0) (h1 : FOk yp g1) (h : HgZ q54 q0d [(q0q, g0), (yp, g1)] g) : FOk q0d g := jc (qht g0 g1) (.cons h0 (.cons h1 .nil)) rfl rfl qen (by decide) h
def zk : Ct := ⟨56, [.val (.st 45), .val (.st 45)], [(.bool, false)], [], none, [], []⟩
theorem q4s : EnZ zk := fun _ _ => by kernel_rfl
def qd2 : Ann := ⟨[0, 1, 2, 3, 4, 5, 33, 38, 52], [(4, ⟨[(4, .bool, false), (5, .int .i64, false)], [], [34, 35, 36, 37, 38, 41, 42, 43, 44, 45, 46, 47, 48, 49, 50, 51, 52, 39, 40], []⟩)]⟩
def q2c : Tree := (.br (.or (.or (.or (.not (.eq (.fld (.tok 0) 0) (.fld (.tok 1) 0))) (.not (.eq (.fld (.tok 0) 1) (.fld (.tok 1) 1)))) (.not (.eq (.fld (.tok 0) 2) (.fld (.tok 1) 2)))) (.not (.eq (.len (.fld (.tok 0) 3)) (.len (.fld (.tok 1) 3))))) (.leaf [(.lit (.b .false))]) (.loop 4 2 [(.lit (.b .false)), (.lit (.i 0))] (.br (.lt (.tok 3) (.len (.fld (.tok 0) 3))) (.need [(.ok 0 [(.get (.fld (.tok 0) 3) (.tok 3)), (.get (.fld (.tok 1) 3) (.tok 3))]), (.le (.lit (.i 0)) (.tok 3)), (.lt (.tok 3) (.len (.fld (.tok 1) 3))), (.le (.lit (.i 0)) (.tok 3)), (.lt (.tok 3) (.len (.fld (.tok 0) 3)))] (.br (.not (.call 0 0 [(.get (.fld (.tok 0) 3) (.tok 3)), (.get (.fld (.tok 1) 3) (.tok 3))])) (.leaf [(.lit (.b .false))]) (.need [(.rng .i64 (.add (.tok 3) (.lit (.i 1))))] (.back 4 [(.tok 2), (.add (.tok 3) (.lit (.i 1)))])))) (.leaf [(.lit (.b .true))]))))
theorem qbc (g0 : GfZ) : CdZ [(zk, g0)] qd2 zk Try.f56 q2c := fun cd h => by injection h with h; subst h; kernel_rfl
theorem qd5 {g0 g : GfZ} (h0 : FOk zk g0) (h : HgZ q2c zk [(zk, g0)] g) : FOk zk g := jc (qbc g0) (.cons h0 .nil) rfl rfl q4s (by decide) h
def q22 : Ct := ⟨16, [.val (.st 45), .val (.st 45)], [(.bool, false)], [], none, [], []⟩
theorem qgn : EnZ q22 := fun _ _ => by kernel_rfl
def qnd : Ann := ⟨[0, 1, 2, 3, 4], []⟩
def q66 : Tree := (.need [(.ok 0 [(.tok 0)]), (.imp (.call 0 0 [(.tok 0)]) (.ok 0 [(.tok 1)])), (.imp (.and (.call 0 0 [(.tok 0)]) (.call 0 0 [(.tok 1)])) (.ok 1 [(.tok 0), (.tok 1)]))] (.leaf [(.and (.and (.call 0 0 [(.tok 0)]) (.call 0 0 [(.tok 1)])) (.call 1 0 [(.tok 0), (.tok 1)]))]))
theorem qjx (g0 g1 : GfZ) : CdZ [(q0d, g0), (zk, g1)] qnd q22 Try.f16 q66 := fun cd h => by injection h with h; subst h; kernel_rfl
theorem qll {g0 g1 g : GfZ} (h0 : FOk q0d g0) (h1 : FOk zk g1) (h : HgZ q66 q22 [(q0d, g0), (zk, g1)] g) : FOk q22 g := jc (qjx g0 g1) (.cons h0 (.cons h1 .nil)) rfl rfl qgn (by decide) h
end Go.Proofs.Ytdaadonfbnedaaa
