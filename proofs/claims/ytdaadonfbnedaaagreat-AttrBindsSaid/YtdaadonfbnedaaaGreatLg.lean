/-
 Lemmas of the walk and plain laws, put together. No condition.
-/
import Derived.RangeFuncSeq
import Derived.StillTailTactics
import Derived.TacticsInMore
import Derived.Test.YtdaadonfbnedaaaGreatLf
namespace Go.Proofs.YtdaadonfbnedaaaGreat
open Go.RowKit
set_option linter.unusedVariables false
set_option linter.unusedSimpArgs false
set_option maxRecDepth 100000
variable {F : Fence} {P : Program} {a : Act} {Q : Exit → Act → World → Prop} {ops : Array Oper} {ann : Ann} {R : List D → Prop} {K : Act → World → Prop} {kill : List Nat} {σ σk : St} {B : Nat → List D → Prop}
section
theorem z1i {n : Nat} {o : Oper} {next next' : Act → World → Prop} {Q' : Exit → Act → World → Prop} {r : Result Next} (hn : ∀ a w, next a w → next' a w) (hp : ∀ ch a w, Q (.panic ch) a w → Q' (.panic ch) a w) (ho : LetsOut Q → LetsOut Q') (h : o.uponIn F n P a next Q r) : o.uponIn F n P a next' Q' r := by
 cases r with
 | ok x w' =>
  cases x with
  | value v => exact hn _ _ h
  | skip => exact hn _ _ h
  | defer d => exact hn _ _ h
  | enter f args =>
   refine ⟨h.1, h.2.1, fun cs hr => ?_⟩
   obtain ⟨e, w2, fr, hR, rest⟩ := h.2.2 cs hr
   refine ⟨e, w2, fr, ?_, rest⟩
   cases e with
   | returned v => exact hn _ _ hR
   | panicked ch => exact hp _ _ _ hR
   | outgrown => exact ho hR
  | row row args => exact ⟨h.1, h.2.mono fun v w2 hR => hn _ _ hR⟩
  | round l f tmps assign body =>
   refine ⟨h.1, h.2.mono fun e w2 hR => ?_⟩
   cases e with
   | returned v => exact hn _ _ hR
   | panicked ch => exact hp _ _ _ hR
   | outgrown => exact ho hR
  | _ => exact h.elim
 | halt x w' =>
  cases x with
  | panic v => exact hp _ _ _ h
  | _ => exact h.elim
theorem qb2 {n : Nat} : ∀ (l m : List Oper) {a : Act} {w : World}, wpListIn F n P ops (Exit.then (wpListIn F n P ops Q m) Q) l a w → wpListIn F n P ops Q (l ++ m) a w
 | [], m, a, w, h => h
 | o :: l, m, a, w, h => by
  show wpListIn F n P ops Q (o :: (l ++ m)) a w
  unfold wpListIn at h ⊢
  split
  ·rename_i hw
   rw [if_pos hw] at h
   exact ⟨h.1, z1i (fun a w h => qb2 l m h) (fun ch a w h => h) (fun h => h) h.2⟩
  ·rename_i hw
   rw [if_neg hw] at h
   exact ⟨h.1, qb2 l m h.2⟩
def q9r (F : Fence) (n : Nat) (P : Program) (Q : Exit → Act → World → Prop) : List Code → (Act → World → Prop) → Act → World → Prop
 | [], K => K
 | x :: xs, K => fun a w => x.wpIn F n P (Exit.then (q9r F n P Q xs K) Q) a w
def seqs : List Code → Code → Code
 | [], y => y
 | x :: xs, y => .seq x (seqs xs y)
theorem q1j {n : Nat} : ∀ (xs : List Code) {y : Code} {a : Act} {w : World}, q9r F n P Q xs (fun a w => y.wpIn F n P Q a w) a w → (seqs xs y).wpIn F n P Q a w
 | [], y, a, w, h => h
 | x :: xs, y, a, w, h => wpIn_seq (wpIn_mono h fun e a w hq => by
   cases e with
   | normal => exact q1j xs hq
   | _ => exact hq)
theorem qah {n : Nat} : ∀ (xs ys : List Code) {K : Act → World → Prop} {a : Act} {w : World}, q9r F n P Q (xs ++ ys) K a w → q9r F n P Q xs (q9r F n P Q ys K) a w
 | [], ys, K, a, w, h => h
 | x :: xs, ys, K, a, w, h => wpIn_mono h fun e a w hq => by
   cases e with
   | normal => exact qah xs ys hq
   | _ => exact hq
theorem q5v {n : Nat} {Q' : Exit → Act → World → Prop} (hQ : ∀ e a w, e ≠ .normal → Q e a w → Q' e a w) : ∀ (xs : List Code) {K K' : Act → World → Prop} (hK : ∀ a w, K a w → K' a w) {a : Act} {w : World}, q9r F n P Q xs K a w → q9r F n P Q' xs K' a w
 | [], K, K', hK, a, w, h => hK _ _ h
 | x :: xs, K, K', hK, a, w, h => wpIn_mono h fun e a w hq => by
   cases e with
   | normal => exact q5v hQ xs hK hq
   | exit i => exact hQ _ _ _ (by simp) hq
   | ret => exact hQ _ _ _ (by simp) hq
   | goto i => exact hQ _ _ _ (by simp) hq
   | panic ch => exact hQ _ _ _ (by simp) hq
   | outgrown => exact hQ _ _ _ (by simp) hq
section
variable {c : Cx} {p : qm} {w w0 : World} {S0 : Nat → Prop} {a : Act} {σ σ' : St} {d : List Deferred} {z : Nat} {tbl : Tbl}
theorem q90 (ro : Option Nat) (nn : Nat) (htb : q02 tbl) (hfm : ∀ te, c.F.mx te ≤ flM tbl te) (hnp : q7q tbl = true) : ∀ (xs : List Code) {n : Nat} {σ : St} {k : Nat → ResD → St → Tree} {l : List D} {B : Nat → List D → Prop} {p : qm} {w : World} {a : Act},
  (q4q Tryz.prog tbl ann c.lo z xs n σ k).go (qb tbl) R l B → l.length = n → Bs c.A c.F w0 S0 p w → SF (c.at (qb tbl) l) σ p w a → a.defers = d → a.tmps.size = z →
  (∀ n' r σ' l' B' p' w' a', l'.length = n' → l'.take n = l → (k n' r σ').go (qb tbl) R l' B' → Bs c.A c.F w0 S0 p' w' → SF (c.at (qb tbl) l') σ' p' w' a' → a'.defers = d → a'.tmps.size = z → Exit.then K Q r.exit' a' w') → q9r (FR ro) nn Tryz.prog Q xs K a w
 | [], n, σ, k, l, B, p, w, a, h, hl, hb, hf, hd, hz, hk => hk n .normal σ l B p w a hl (by rw [← hl]; exact List.take_length) h hb hf hd hz
 | x :: xs, n, σ, k, l, B, p, w, a, h, hl, hb, hf, hd, hz, hk => by
  refine qkt ro nn htb hfm x h hl hb hf hd hz (q49 hnp) (qgu hnp) fun n' r σ' l' B' p' w' a' hl' hpre _ hgo hb' hf' hd' hz' => ?_
  have hnn : n ≤ n' := by
   have := congrArg List.length hpre
   simp at this
   omega
  cases r with
  | normal => exact q90 ro nn htb hfm hnp xs hgo hl' hb' hf' hd' hz' fun n2 r2 σ2 l2 B2 p2 w2 a2 h1 h2 => hk n2 r2 σ2 l2 B2 p2 w2 a2 h1 (by rw [← hpre, ← h2, List.take_take, Nat.min_eq_left hnn])
  | ret => exact hk n' .ret σ' l' B' p' w' a' hl' hpre hgo hb' hf' hd' hz'
  | exit i => exact hk n' (.exit i) σ' l' B' p' w' a' hl' hpre hgo hb' hf' hd' hz'
def qn8 (ts ms : List Item) (kill : List Nat) (σk : St) : Nat → ResD → St → Tree := fun _ r σ => match r with
 | .normal => (match conv ts ms (σ.drop kill) with
  | some (σc, va, vb) => if covers σc σk then .leaf (va ++ vb) else .bad 1
  | none => .need (z5p (σ.drop kill) ts ms) (.bad 2))
 | .ret => .leaf []
 | .exit i => .leaf [.lit (.i (Int.ofNat i))]
theorem z5o {ts ms : List Item} {σc : St} {va vb : List X} {l : List D} (h : conv ts ms (σ.drop kill) = some (σc, va, vb)) (hcov : covers σc σk = true) (hb : Bs c.A c.F w0 S0 p w) (hf : SF (c.at (qb tbl) l) σ p w a) :
  ∃ p', Bs c.A c.F w0 S0 p' w ∧ SF (c.at (qb tbl) l) σk p' w a ∧ ItT c.snap c.A p' w a ts (X.evs (evl (qb tbl) l) va) ∧ ItM c.A p' w ms (X.evs (evl (qb tbl) l) vb) := by
 have hf2 := SF.un (c := c.at (qb tbl) l) (q := qcf kill σ) hb.inj hb.pa hf
 have hb2 := hb.un (qcf kill σ)
 change SF _ (σ.drop kill) _ _ _ at hf2
 unfold conv at h
 split at h
 ·rename_i hrb
  split at h
  ·rename_i wa wb hwa hwb
   simp only [gnS] at h
   obtain ⟨rfl, rfl, rfl⟩ := h
   obtain ⟨p3, hb3, hf3⟩ := qkw (c := c.at (qb tbl) l) hrb hb2 hf2
   exact ⟨p3, hb3, q24 hcov hf3, z0d hf3 hwa, z1a hf3 hwb⟩
  ·cases h
 ·cases h
theorem z22 {ts ms : List Item} {σc : St} {va vb : List X} (h : conv ts ms σ = some (σc, va, vb)) : va.length = ts.length ∧ vb.length = ms.length := by
 unfold conv at h
 split at h
 ·split at h
  ·rename_i wa wb hwa hwb
   simp only [gnS] at h
   obtain ⟨-, rfl, rfl⟩ := h
   exact ⟨qhb hwa, qhb hwb⟩
  ·cases h
 ·cases h
theorem qq4 (ro : Option Nat) (nn : Nat) (htb : q02 tbl) (hfm : ∀ te, c.F.mx te ≤ flM tbl te) (hnp : q7q tbl = true) (xs : List Code) {n : Nat} {ts ms : List Item} {l : List D}
  (h : (q4q Tryz.prog tbl ann c.lo z xs n σ (qn8 ts ms kill σk)).go (qb tbl) R l B) (hl : l.length = n) (hb : Bs c.A c.F w0 S0 p w) (hf : SF (c.at (qb tbl) l) σ p w a) (hd : a.defers = d) (hz : a.tmps.size = z)
  (hk : ∀ st p' w' a', R st → st.length = ts.length + ms.length → Bs c.A c.F w0 S0 p' w' → SF (c.at (qb tbl) (l ++ st)) (q2a ts ms n (q1p ts ms kill n σk)) p' w' a' → a'.defers = d → a'.tmps.size = z → K a' w')
  (ho : ∀ p' w' a', R [] → Bs c.A c.F w0 S0 p' w' → a'.defers = d → a'.tmps.size = z → Q .ret a' w')
  (he : ∀ i p' w' a', R [.i (Int.ofNat i)] → Bs c.A c.F w0 S0 p' w' → a'.defers = d → a'.tmps.size = z → Q (.exit i) a' w') : q9r (FR ro) nn Tryz.prog Q xs K a w := by
 refine q90 ro nn htb hfm hnp xs h hl hb hf hd hz fun n' r σ' l' B' p' w' a' hl' hpre hgo hb' hf' hd' hz' => ?_
 cases r with
 | ret => exact ho p' w' a' hgo hb' hd' hz'
 | exit i => exact he i p' w' a' hgo hb' hd' hz'
 | normal =>
  simp only [qn8] at hgo
  split at hgo
  ·rename_i σc va vb hcv
   split at hgo
   ·rename_i hcov
    obtain ⟨p2, hb2, hf2, h1, h2⟩ := z5o (c := c) hcv hcov hb' hf'
    obtain ⟨q1, q2⟩ := z22 hcv
    have hR : R (X.evs (evl (qb tbl) l') (va ++ vb)) := hgo
    rw [qb5] at hR
    have hnl : n ≤ l'.length := by
     have := congrArg List.length hpre
     simp at this
     omega
    refine hk _ p2 w' a' hR (by simp [qe2, q1, q2]) hb2 ?_ hd' hz'
    refine qnx (c := c.at (qb tbl) l') (c' := c.at (qb tbl) (l ++ _)) rfl rfl ⟨rfl, rfl, rfl⟩ (fun k hk => ?_) (fun i hi => ?_) (qh1 hf2) h1 h2
    ·show l'.getD k .u = (l ++ _).getD k .u
     simp only [gnG]
     rw [List.getElem?_append_left (by omega), ← hpre, List.getElem?_take_of_lt hk]
    ·show (l ++ _).getD (n + i) .u = _
     simp only [gnG]
     rw [List.getElem?_append_right (by omega)]
     congr 2
     omega
   ·exact hgo.elim
  ·exact hgo.2.elim
end
end
def q42 (s : So) (c : Ce) : Option (ByteArray × Ce × Ce) :=
 if qf9 s (q1o s c) ⟨#[46]⟩ then
  (if qf9 s (q1o s (cellAt s ((q1o s c).n + 1))) ⟨#[45]⟩ then
   (if qdb s (q1o s (cellAt s ((q1o s (cellAt s ((q1o s c).n + 1))).n + 1))) then
    some ((s.ys.getD (q1o s (cellAt s ((q1o s (cellAt s ((q1o s c).n + 1))).n + 1))).n.toNat default).name, cellAt s ((q1o s c).n + 2), cellAt s ((q1o s (cellAt s ((q1o s c).n + 1))).n + 2))
    else none) else none) else none
def hasB (met : List ByteArray) (nm : ByteArray) : Bool := met.any fun x => decide (x = nm)
def q7b (s : So) : Nat → Ce → List ByteArray → List At
 | 0, _, _ => []
 | k + 1, c, met => match q42 s c with
  | none => []
  | some (nm, tl, vl) => (if hasB met nm then [] else [⟨nm, q3m (q1o s vl)⟩]) ++ q7b s k tl (nm :: met)
def yf (s : So) (c : Ce) : List At := q7b s s.cs.length c []
def sqL : Code → Code
 | .seq x _ => x
 | c => c
def sqR : Code → Code
 | .seq _ y => y
 | c => c
def bkC : Code → Code
 | .block _ c => c
 | c => c
def lpC : Code → Code
 | .loop c => c
 | c => c
noncomputable def itC : Code := match Tryz.f94.body with
 | some c => c
 | none => .skip
noncomputable def itR : Code := lpC (bkC (sqR (sqR itC)))
noncomputable def itB : Code := bkC (sqL (sqR (sqR itR)))
noncomputable def it1 : List Code := [sqL itC, sqL (sqR itC)]
noncomputable def qzk : List Code := [sqL itR, sqL (sqR itR)]
noncomputable def z3v : List Code := [sqL itB, sqL (sqR itB), sqL (sqR (sqR itB)), sqL (sqR (sqR (sqR itB))), sqL (sqR (sqR (sqR (sqR itB)))), sqL (sqR (sqR (sqR (sqR (sqR itB)))))]
noncomputable def itY : Code := sqL (sqR (sqR (sqR (sqR (sqR (sqR itB))))))
noncomputable def it3 : List Code := [sqL (sqR (sqR (sqR (sqR (sqR (sqR (sqR itB))))))), sqR (sqR (sqR (sqR (sqR (sqR (sqR (sqR itB)))))))]
noncomputable def it4 : List Code := [sqR (sqR (sqR itR))]
noncomputable def itO : List Oper := match sqL itY with
 | .region _ ops _ => ops.toList
 | _ => []
abbrev mpT : Ty := .map 9 4
abbrev q1v : Tbl := [(zb, qcq), (q3j, z51), (q3i, qwy), (q0b, q4t)]
theorem q9s : q02 q1v := .cons q47 (.cons qxb (.cons qxj (.cons qbd .nil)))
def qy3 : Ann := ⟨[0, 1, 2, 4, 5, 6, 7, 8, 9, 10, 14, 15, 16, 27, 38, 48, 62], []⟩
def sA : St := ⟨[(0, .sn 0 .any), (1, .sn 1 (.rd (.tok 0) qi [] none)), (2, .sn 2 .any)], []⟩
def sA' : St := ⟨[(0, .sn 0 .any), (1, .sn 1 (.rd (.tok 0) qi [] none)), (2, .sn 2 .any), (14, .v (.len (.fld (.tok 0) 0)) (.int .i64) [] [])], []⟩
abbrev iA : List Item := [(4, mpT, [(0, 65)], []), (15, .int .i64, [], [])]
def sH : St := ⟨[(0, .sn 0 .any), (1, .sn 1 (.rd (.tok 0) qi [] none)), (2, .ref 2 [] 0 qn), (4, .sn 4 (.v (.tok 2) mpT [(0, 65)] [])), (14, .v (.len (.fld (.tok 0) 0)) (.int .i64) [] []), (15, .v (.tok 3) (.int .i64) [] [])], [(2, ⟨.tok 1, qn, [], []⟩)]⟩
def sB : St := ⟨[(0, .sn 0 .any), (1, .sn 1 (.rd (.tok 0) qi [] none)), (2, .ref 2 [] 0 qn), (4, .sn 4 (.v (.tok 2) mpT [(0, 65)] [])), (6, .ref 6 [] 0 qn), (9, .ref 9 [] 0 qn), (14, .v (.len (.fld (.tok 0) 0)) (.int .i64) [] []), (15, .v (.tok 3) (.int .i64) [] [])], [(2, ⟨.tok 1, qn, [], []⟩)]⟩
abbrev iBt : List Item := [(10, .str, [], [])]
abbrev iBm : List Item := [(6, qn, [], []), (9, qn, [], [])]
def sY : St := ⟨[(10, .v (.tok 4) .str [] []), (0, .sn 0 .any), (1, .sn 1 (.rd (.tok 0) qi [] none)), (2, .ref 2 [] 0 qn), (4, .sn 4 (.v (.tok 2) mpT [(0, 65)] [])), (6, .ref 6 [] 0 qn), (9, .ref 9 [] 0 qn), (14, .v (.len (.fld (.tok 0) 0)) (.int .i64) [] []), (15, .v (.tok 3) (.int .i64) [] [])], [(6, ⟨.tok 5, qn, [], []⟩), (9, ⟨.tok 6, qn, [], []⟩), (2, ⟨.tok 1, qn, [], []⟩)]⟩
def sP : St := ⟨[(0, .sn 0 .any), (1, .sn 1 (.rd (.tok 0) qi [] none)), (2, .ref 2 [] 0 qn), (4, .sn 4 (.v (.tok 2) mpT [(0, 65)] [])), (6, .rd (.tok 5) qn [] none), (10, .v (.tok 4) .str [] []), (14, .v (.len (.fld (.tok 0) 0)) (.int .i64) [] []), (15, .v (.tok 3) (.int .i64) [] [])], [(2, ⟨.tok 1, qn, [], []⟩)]⟩
def sP' : St := ⟨[(0, .sn 0 .any), (1, .sn 1 (.rd (.tok 0) qi [] none)), (2, .ref 2 [] 0 qn), (14, .v (.len (.fld (.tok 0) 0)) (.int .i64) [] [])], []⟩
abbrev iPt : List Item := [(4, mpT, [(0, 65)], [SNK]), (15, .int .i64, [], [])]
abbrev iPm : List Item := [(2, qn, [], [])]
def sYt : St := ⟨(54, .sn 0 .any) :: (53, .v (.lit (.b true)) .bool [] []) :: sY.t, sY.m⟩
def sYf : St := ⟨(53, .v (.lit (.b false)) .bool [] []) :: sY.t, sY.m⟩
def sYz : St := ⟨(60, .v (.tok 6) .bool [] []) :: (53, .v (.lit (.b true)) .bool [] []) :: sP.t, sP.m⟩
def zmb : Tree := (.leaf [(.lit (.mp [])), (.lit (.i 0))])
theorem zf2 : q4q Tryz.prog q1v qy3 3 67 it1 1 sA (qn8 iA [] [] sA') = zmb := by kernel_rfl
def zkw : Tree :=
 let b : X := .tok 0
 let e : X := .lit (.s ⟨#[46]⟩)
 let f : X := .lit (.s ⟨#[45]⟩)
 let d : X := .call 0 0 [b, (.tok 1)]
 let h : X := .ok 0 [b, (.tok 1)]
 let a : X := .call 1 0 [b, d, e]
 let g : X := .call 0 0 [b, a]
 let j : X := .ok 0 [b, a]
 let c : X := .call 1 0 [b, g, f]
 let i : X := .call 0 0 [b, c]
 (.br (.lt (.tok 3) (.len (.fld b 0))) (.need [(.ok 1 [b, d, e]), (.ok 1 [b, d, e]), h, h, h] (.br (.not (.call 1 2 [b, d, e])) (.leaf []) (.need [(.ok 1 [b, g, f]), (.ok 1 [b, g, f]), j, j, j] (.br (.not (.call 1 2 [b, g, f])) (.leaf []) (.need [(.ok 2 [b, i]), (.ok 0 [b, c])] (.br (.not (.call 2 1 [b, i])) (.leaf []) (.leaf [(.call 2 0 [b, i]), (.call 1 1 [b, d, e]), (.call 1 1 [b, g, f])]))))))) (.leaf [(.lit (.i 0))]))
theorem zf9 : q4q Tryz.prog q1v qy3 3 67 (qzk ++ z3v) 4 sH (qn8 iBt iBm [] sB) = zkw := by kernel_rfl
def zic : Tree := (.need [(.rng .i64 (.add (.tok 3) (.lit (.i 1))))] (.leaf [(.fn 2 [(.tok 2), (.tok 4), (.lit (.b .true))]), (.add (.tok 3) (.lit (.i 1))), (.tok 5)]))
theorem zgp : q4q Tryz.prog q1v qy3 3 67 (it3 ++ it4) 6 sP (qn8 iPt iPm [] sP') = zic := by kernel_rfl
def zns : List X := []
def zjs : St := (.mk [(53, (.v (.not (.fn 0 [(.tok 2), (.tok 4), (.lit (.b .false))])) .bool [] [])), (52, (.v (.not (.fn 0 [(.tok 2), (.tok 4), (.lit (.b .false))])) .bool [] [])), (51, (.v (.fn 0 [(.tok 2), (.tok 4), (.lit (.b .false))]) .bool [] [])), (50, (.v (.tok 4) .str [] [])), (49, (.v (.tok 2) (.map 9 4) [(0, 65)] [])), (10, (.v (.tok 4) .str [] [])), (0, (.sn 0 .any)), (1, (.sn 1 (.rd (.tok 0) (.st 26) [] .none))), (2, (.ref 2 [] 0 (.st 28))), (4, (.sn 4 (.v (.tok 2) (.map 9 4) [(0, 65)] []))), (6, (.ref 6 [] 0 (.st 28))), (9, (.ref 9 [] 0 (.st 28))), (14, (.v (.len (.fld (.tok 0) 0)) (.int .i64) [] [])), (15, (.v (.tok 3) (.int .i64) [] []))] [(6, (.mk (.tok 5) (.st 28) [] [])), (9, (.mk (.tok 6) (.st 28) [] [])), (2, (.mk (.tok 1) (.st 28) [] []))])
theorem zdb : qou Tryz.prog q1v (dsts itO) sY (itO.take 5) = some (zns, zjs) := by kernel_rfl
def zin : List X := [(.ok 0 [(.tok 0), (.tok 6)]), (.ok 3 [(.call 0 0 [(.tok 0), (.tok 6)])])]
def z7z : St := (.mk [(59, (.v (.call 3 0 [(.call 0 0 [(.tok 0), (.tok 6)])]) (.st 28) [] [])), (58, (.v (.call 0 0 [(.tok 0), (.tok 6)]) (.st 28) [] [])), (57, (.v (.tok 6) (.st 28) [] [])), (56, (.v (.tok 0) (.st 26) [] [])), (55, (.v (.tok 4) .str [] [])), (54, (.sn 0 .any)), (53, (.v (.lit (.b .true)) .bool [] [])), (10, (.v (.tok 4) .str [] [])), (0, (.sn 0 .any)), (1, (.sn 1 (.rd (.tok 0) (.st 26) [] .none))), (2, (.ref 2 [] 0 (.st 28))), (4, (.sn 4 (.v (.tok 2) (.map 9 4) [(0, 65)] []))), (6, (.ref 6 [] 0 (.st 28))), (9, (.ref 9 [] 0 (.st 28))), (14, (.v (.len (.fld (.tok 0) 0)) (.int .i64) [] [])), (15, (.v (.tok 3) (.int .i64) [] []))] [(6, (.mk (.tok 5) (.st 28) [] [])), (9, (.mk (.tok 6) (.st 28) [] [])), (2, (.mk (.tok 1) (.st 28) [] []))])
theorem zg3 : qou Tryz.prog q1v (dsts itO) sYt ((itO.drop 6).take 5) = some (zin, z7z) := by kernel_rfl
def zo6 : List X := []
def zib : St := (.mk [(62, (.v (.lit (.b .false)) .bool [] [])), (61, .undef), (60, .undef), (59, .undef), (58, .undef), (57, .undef), (56, .undef), (55, .undef), (54, .undef), (53, (.v (.lit (.b .false)) .bool [] [])), (10, (.v (.tok 4) .str [] [])), (0, (.sn 0 .any)), (1, (.sn 1 (.rd (.tok 0) (.st 26) [] .none))), (2, (.ref 2 [] 0 (.st 28))), (4, (.sn 4 (.v (.tok 2) (.map 9 4) [(0, 65)] []))), (6, (.ref 6 [] 0 (.st 28))), (9, (.ref 9 [] 0 (.st 28))), (14, (.v (.len (.fld (.tok 0) 0)) (.int .i64) [] [])), (15, (.v (.tok 3) (.int .i64) [] []))] [(6, (.mk (.tok 5) (.st 28) [] [])), (9, (.mk (.tok 6) (.st 28) [] [])), (2, (.mk (.tok 1) (.st 28) [] []))])
theorem zfz : qou Tryz.prog q1v (dsts itO) sYf (itO.drop 5) = some (zo6, zib) := by kernel_rfl
def zo4 : List X := []
def zio : St := (.mk [(62, (.v (.not (.tok 6)) .bool [] [])), (61, (.v (.not (.tok 6)) .bool [] [])), (60, (.v (.tok 6) .bool [] [])), (53, (.v (.lit (.b .true)) .bool [] [])), (0, (.sn 0 .any)), (1, (.sn 1 (.rd (.tok 0) (.st 26) [] .none))), (2, (.ref 2 [] 0 (.st 28))), (4, (.sn 4 (.v (.tok 2) (.map 9 4) [(0, 65)] []))), (6, (.rd (.tok 5) (.st 28) [] .none)), (10, (.v (.tok 4) .str [] [])), (14, (.v (.len (.fld (.tok 0) 0)) (.int .i64) [] [])), (15, (.v (.tok 3) (.int .i64) [] []))] [(2, (.mk (.tok 1) (.st 28) [] []))])
theorem zg1 : qou Tryz.prog q1v (dsts itO) sYz (itO.drop 12) = some (zo4, zio) := by kernel_rfl
def zmi (s : So) (c : Ce) (i : Int) (o : List D) : Prop := (o = [] ∧ q42 s c = none) ∨ (o = [.i 0] ∧ (s.cs.length : Int) ≤ i) ∨ ∃ nm tl vl, i < s.cs.length ∧ q42 s c = some (nm, tl, vl) ∧ o = [.s nm, eC tl, eC vl]
variable {c : Ce}
theorem znz {s : So} {M : D} {i : Int} (B : Nat → List D → Prop) : zkw.go (qb q1v) (zmi s c i) [eS s, eC c, M, .i i] B := by
 unfold zkw
 rw [qj]
 refine ⟨fun h => ?_, fun h => ?_⟩
 ·have hi : i < s.cs.length := by simpa [X.ev, evl, qer, D.int, D.rs, D.tt] using h
  simp only [gnZ, qcq, z51, q2s]
  by_cases h1 : qf9 s (q1o s c) ⟨#[46]⟩ = true
  ·simp only [h1, if_true, Option.isSome_some, Option.getD_some, List.getD_cons_zero, List.getD_cons_succ, q5i, yw]
   by_cases h2 : qf9 s (q1o s (cellAt s ((q1o s c).n + 1))) ⟨#[45]⟩ = true
   ·simp only [h2, if_true, Option.isSome_some, Option.getD_some, List.getD_cons_zero, List.getD_cons_succ, q5i, yw, qwy, zk]
    by_cases h3 : qdb s (q1o s (cellAt s ((q1o s (cellAt s ((q1o s c).n + 1))).n + 1))) = true
    ·simp only [h3, if_true, Option.isSome_some, Option.getD_some, List.getD_cons_zero, List.getD_cons_succ, q5i, Bool.not_true, gnF, false_implies, true_and, true_implies, and_true]
     exact .inr (.inr ⟨_, _, _, hi, by rw [q42, if_pos h1, if_pos h2, if_pos h3], rfl⟩)
    ·have hn : q42 s c = none := by rw [q42, if_pos h1, if_pos h2, if_neg h3]
     simp only [if_neg h3, Option.isSome_some, Option.getD_some, List.getD_cons_zero, List.getD_cons_succ, q5i, Bool.not_true, Bool.not_false, gnF, Bool.true_eq_false, false_implies, true_and, true_implies, and_true]
     exact .inl ⟨rfl, hn⟩
   ·have hn : q42 s c = none := by rw [q42, if_pos h1, if_neg h2]
    simp only [if_neg h2, Option.isSome_some, Option.getD_some, List.getD_cons_zero, List.getD_cons_succ, q5i, Bool.not_true, Bool.not_false, gnF, Bool.true_eq_false, false_implies, true_and, true_implies, and_true]
    exact .inl ⟨rfl, hn⟩
  ·have hn : q42 s c = none := by rw [q42, if_neg h1]
   simp only [if_neg h1, Option.isSome_some, Option.getD_some, List.getD_cons_zero, List.getD_cons_succ, q5i, Bool.not_true, Bool.not_false, gnF, Bool.true_eq_false, false_implies, true_and, true_implies, and_true]
   exact .inl ⟨rfl, hn⟩
 ·have hi : (s.cs.length : Int) ≤ i := by simpa [X.ev, evl, qer, D.int, D.rs, D.tt] using h
  exact .inr (.inl ⟨rfl, hi⟩)
def zmn (c : Ce) (M nm : D) (i : Int) (o : List D) : Prop := o = [.mp (mset nm (.b true) M.ms), .i (i + 1), eC c]
theorem znv {s : So} {tl : Ce} {M nm : D} {i : Int} (hi : i64 (i + 1)) (B : Nat → List D → Prop) : zic.go (qb q1v) (zmn tl M nm i) [eS s, eC c, M, .i i, nm, eC tl] B := by
 unfold zic
 rw [qa]
 refine ⟨⟨?_, trivial⟩, ?_⟩
 ·show (D.b (yz .i64 (i + 1))).tt = true
  rw [q52.2 hi]
  rfl
 ·rfl
theorem zon {s : So} (B : Nat → List D → Prop) : zmb.go (qb q1v) (fun o => o = [.mp [], .i 0]) [eS s] B := rfl
variable {cs : List Value} {p : qm} {cx : Cx} {x : X} {v : Value}
section
open Go.RowKit Go.Shelf
abbrev yvV (l : Nat) : Value := .func (.yield l) #[] #[]
abbrev ptV (b : Nat) : Value := .pointer (some ⟨b, 0, none⟩)
def ceL (c : Ce) : List Value := [.int .i64 c.t, .int .i64 c.n]
theorem quu {w : World} {F : Nat → Prop} (h : Rd w F (eC c) qn cs) : cs = ceL c := by
 obtain ⟨l, e, hF⟩ := Ins.of_rdS Ins.flC h
 injection e with e
 subst e
 obtain ⟨d, l', c1, c2, e1, rfl, h1, hG⟩ := Ins.of_rdF hF
 obtain ⟨d2, l2, c3, c4, e2, rfl, h2, hH⟩ := Ins.of_rdF hG
 obtain ⟨rfl, rfl⟩ := Ins.of_rdN hH
 injection e1 with e1 e1'
 subst e1 e1'
 injection e2 with e2 _
 subst e2
 obtain ⟨n1, -, q1, rfl⟩ := Ins.of_rdI h1
 obtain ⟨n2, -, q2, rfl⟩ := Ins.of_rdI h2
 injection q1 with q1
 injection q2 with q2
 subst q1 q2
 rfl
theorem qvt {w : World} {F : Nat → Prop} (h : c.ok) : Rd w F (eC c) qn (ceL c) :=
 ⟨_, _, rfl, Ins.flC, .int .i64, [.int .i64], [.int .i64 c.t], [.int .i64 c.n], rfl, rfl, ⟨.i64, rfl, rfl, q52.2 h.1⟩, .int .i64, [], [.int .i64 c.n], [], rfl, rfl, ⟨.i64, rfl, rfl, q52.2 h.2⟩, rfl, rfl⟩
theorem z4t {w : World} {F : Nat → Prop} (h : Rd w F (eC c) qn cs) : c.ok := by
 obtain ⟨c', e, hc⟩ := wfC ⟨w, F, cs, h⟩
 rw [z2d e]
 exact hc
def itP (bc m : Nat) : qm := fun x => if x = 32 then some bc else if x = 65 then some m else none
theorem q6r {bc m x b : Nat} (h : itP bc m x = some b) : (x = 32 ∧ b = bc) ∨ (x = 65 ∧ b = m) := by
 unfold itP at h
 split at h
 ·rename_i e
  exact .inl ⟨e, (gnI h).symm⟩
 ·split at h
  ·rename_i e
   exact .inr ⟨e, (gnI h).symm⟩
  ·cases h
theorem z5a {bc m b : Nat} : pinned (itP bc m) b ↔ b = bc ∨ b = m := by
 constructor
 ·rintro ⟨x, hx⟩
  exact (q6r hx).imp (·.2) (·.2)
 ·rintro (rfl | rfl)
  ·exact ⟨32, rfl⟩
  ·exact ⟨65, rfl⟩
def itX (l bs bc m : Nat) : Cx := ⟨evl (qb q1v) [], fun _ => True, .no, 3, fun k g => (k < 3 ∨ VB ≤ k) → itP bc m (k * 16) = some g, fun k g hk h2 h => absurd h (by omega), fun t => if t = 0 then yvV l else if t = 1 then ptV bs else if t = 4 then .map (some m) else ptV bc⟩
theorem qpi (l bs bc m : Nat) : ∀ te, (itX l bs bc m).F.mx te ≤ flM q1v te := fun _ => Nat.zero_le _
structure HdOk (NB l bs bc m : Nat) (css : List Value) (s : So) (c : Ce) (M : List D) (i : Int) (a : Act) (W : World) : Prop where
 z : a.tmps.size = 67
 d : a.defers = []
 t0 : a.tmps[0]? = some (yvV l)
 t1 : a.tmps[1]? = some (ptV bs)
 t2 : a.tmps[2]? = some (ptV bc)
 t4 : a.tmps[4]? = some (.map (some m))
 t14 : a.tmps[14]? = some (.int .i64 (s.cs.length : Nat))
 t15 : a.tmps[15]? = some (.int .i64 i)
 hs : ∃ T, W.heap[bs]? = some (.cells css.toArray T (0, 0))
 rd : Rd W (fun b => b < NB ∧ b ≠ bc) (eS s) qi css
 hc : ∃ T, qo T = some qn ∧ W.heap[bc]? = some (.cells (ceL c).toArray T (0, 0))
 hm : ∃ es clock, W.heap[m]? = some (.map es clock) ∧ q6a .str .bool M es.toList
 so : s.ok
 co : c.ok
 ir : i64 i
section
variable {NB l bs bc m : Nat} {css : List Value} {s : So} {c : Ce} {M : List D} {i : Int} {a : Act} {W : World}
theorem zbt (h1 : bc < NB) (h2 : NB ≤ m) (hc : ∃ T, qo T = some qn ∧ W.heap[bc]? = some (.cells (ceL c).toArray T (0, 0))) (hm : ∃ es clock, W.heap[m]? = some (.map es clock)) : Bs (itX l bs bc m).A (itX l bs bc m).F W (pinned (itP bc m)) (itP bc m) W := by
 obtain ⟨T, -, hc⟩ := hc
 obtain ⟨es, clock, hm⟩ := hm
 refine ⟨fun x y b hx hy => ?_, fun x b hx => ?_, But.refl _ _, fun x b hx => .inl ⟨x, hx⟩, fun _ _ => ⟨trivial, trivial⟩, fun _ _ _ => trivial, fun x b hx => ?_, Flo.no⟩
 ·rcases q6r hx with ⟨rfl, rfl⟩ | ⟨rfl, rfl⟩ <;> rcases q6r hy with ⟨rfl, e⟩ | ⟨rfl, e⟩ <;> first | rfl | omega
 ·rcases q6r hx with ⟨rfl, rfl⟩ | ⟨rfl, rfl⟩
  ·exact qu hc
  ·exact (Array.getElem?_eq_some_iff.1 hm).1
 ·rcases q6r hx with ⟨rfl, rfl⟩ | ⟨rfl, rfl⟩
  ·exact .inl ⟨_, _, hc⟩
  ·exact .inr ⟨_, _, hm⟩
theorem zku {w : World} {F : Nat → Prop} {n : Int} (h : i64 n) : Rd w F (.i n) (.int .i64) [.int .i64 n] := ⟨.i64, rfl, rfl, q52.2 h⟩
theorem qx6 (h : s.ok) : i64 (s.cs.length : Nat) := by
 have := h.cs.1
 exact ⟨by omega, by omega⟩
theorem z90 (hA : cx.A = fun _ => True) (hsn : cx.snap 1 = ptV bs) (hE : cx.v.E 0 = eS s) (hp : ∀ x b, p x = some b → b = bc ∨ NB ≤ b) (hbs : bs < NB) (hbc : bs ≠ bc) (hs : ∃ T, W.heap[bs]? = some (.cells css.toArray T (0, 0))) (rd : Rd W (fun b => b < NB ∧ b ≠ bc) (eS s) qi css) : (AV.sn 1 (.rd (.tok 0) qi [] none)).pd cx p W (ptV bs) := by
 obtain ⟨T, hs⟩ := hs
 have hfr : ∀ b, b < NB ∧ b ≠ bc → FFD cx.A p [] b := fun b hb => .inl ⟨by rw [hA]; trivial, fun x hx => by
  rcases hp x b hx with h | h <;> omega⟩
 have hl := (Rd.len _ rd).1
 refine ⟨hsn.symm, bs, 0, css, rfl, hfr bs ⟨hbs, hbc⟩, fun j v hj => ?_, ?_, ?_, trivial⟩
 ·rw [cell_of_row W bs _ _ T (0, 0) hs, Nat.zero_add]
  simpa using hj
 ·rw [hl]
  show 0 < (Ty.st _).w
  exact q26 (E := 27) (by kernel_rfl)
 ·show Rd W _ (cx.v.E 0) qi css
  rw [hE]
  exact rd.mono fun b _ hb => hfr b hb
theorem zbn (hsn : cx.snap 4 = .map (some m)) (hE : x.ev cx.v = .mp M) (hp : p 65 = some m) (hm : ∃ es clock, W.heap[m]? = some (.map es clock) ∧ q6a .str .bool M es.toList) : (AV.sn 4 (.v x mpT [(0, 65)] [])).pd cx p W (.map (some m)) := by
 obtain ⟨es, clock, hm, hl⟩ := hm
 refine ⟨hsn.symm, [.map (some m)], rfl, ?_⟩
 rw [hE]
 exact .inr ⟨_, _, .str, .bool, M, m, es, clock, rfl, by kernel_rfl, by kernel_rfl, rfl, rfl, hp, hm, hl⟩
theorem qxv {n : Int} (hE : x.ev cx.v = .i n) (h : i64 n) : (AV.v x (.int .i64) [] []).pd cx p W (.int .i64 n) := ⟨[.int .i64 n], rfl, by rw [hE]; exact Con.of_rd (zku h)⟩
theorem zlp (h : HdOk NB l bs bc m css s c M i a W) (hbs : bs < NB) (hbc : bs ≠ bc) (hcb : bc < NB) (hmb : NB ≤ m) : SF ((itX l bs bc m).at (qb q1v) [eS s, eC c, .mp M, .i i]) sH (itP bc m) W a := by
 have hp : ∀ x b, itP bc m x = some b → b = bc ∨ NB ≤ b := fun x b hx => (q6r hx).imp (·.2) fun e => by omega
 refine ⟨fun t x hx => ?_, fun k e he => ?_⟩
 ·have hx := qx hx
  simp only [sH, gnM] at hx
  rcases hx with ⟨rfl, rfl⟩ | ⟨rfl, rfl⟩ | ⟨rfl, rfl⟩ | ⟨rfl, rfl⟩ | ⟨rfl, rfl⟩ | ⟨rfl, rfl⟩
  ·exact ⟨_, h.t0, rfl, trivial⟩
  ·exact ⟨_, h.t1, z90 rfl rfl rfl hp hbs hbc h.hs h.rd⟩
  ·exact ⟨_, h.t2, bc, rfl, rfl, fun _ => rfl⟩
  ·exact ⟨_, h.t4, zbn rfl rfl rfl h.hm⟩
  ·refine ⟨_, h.t14, qxv ?_ (qx6 h.so)⟩
   show D.i (((eS s).fld 0).rs.length : Nat) = _
   rw [qer, q6i, List.length_map]
  ·exact ⟨_, h.t15, qxv rfl h.ir⟩
 ·have he := qx he
  simp only [sH, gnM] at he
  obtain ⟨rfl, rfl⟩ := he
  obtain ⟨T, hT, hc⟩ := h.hc
  exact ⟨bc, _, T, rfl, hc, hT, Con.of_rd (show Rd W _ (eC c) qn (ceL c).toArray.toList from qvt h.co)⟩
theorem z3i {dep : List Nat} (h : (AV.v x mpT [(0, 65)] dep).pd cx p W v) : ∃ b, p 65 = some b ∧ v = .map (some b) ∧ ∃ l es clock, x.ev cx.v = .mp l ∧ W.heap[b]? = some (.map es clock) ∧ q6a .str .bool l es.toList := by
 obtain ⟨cs, hpk, hc⟩ := h
 rcases hc with ⟨E, te, l, v', e1, -⟩ | ⟨K, V, kt, vt, l, g, es, clock, e1, hK, hV, e2, rfl, hg, hh, hl⟩
 ·cases e1
 ·have hpk : [Value.map (some g)] = [v] := hpk
  injection hpk with hpk
  subst hpk
  injection e1 with e1 e1'
  subst e1 e1'
  have h1 : qo 9 = some .str := by kernel_rfl
  have h2 : qo 4 = some .bool := by kernel_rfl
  rw [h1] at hK
  rw [h2] at hV
  injection hK with hK
  injection hV with hV
  subst hK hV
  exact ⟨g, hg, rfl, l, es, clock, e2, hh, hl⟩
theorem qdx {n : Int} (hE : x.ev cx.v = .i n) (h : (AV.v x (.int .i64) [] []).pd cx p W v) : v = .int .i64 n ∧ i64 n := by
 obtain ⟨m, e, rfl, hr⟩ := jz h
 rw [hE] at e
 injection e with e
 subst e
 exact ⟨rfl, q52.1 hr⟩
theorem z46 {k : Nat} (hE : x.ev cx.v = eC c) (h : q0p cx p W k ⟨x, qn, [], []⟩) : ∃ g, p (k * 16) = some g ∧ c.ok ∧ ∃ T, qo T = some qn ∧ W.heap[g]? = some (.cells (ceL c).toArray T (0, 0)) := by
 obtain ⟨g, cs, T, hg, hh, hT, hc⟩ := h
 rw [hE] at hc
 obtain ⟨cs⟩ := cs
 have hr : Rd W (FFD cx.A p []) (eC c) qn cs := Con.rd hc (fun _ h => h) (fun _ h => h)
 obtain rfl := quu hr
 exact ⟨g, hg, z4t hr, T, hT, hh⟩
end
end
section
open Go.RowKit Go.Shelf
structure KOk (l n bs bc m NB : Nat) (css : List Value) (s : So) (c0 : Ce) (K : Nat → Nat → World → Prop) (J : World → Prop) : Prop where
 rd : ∀ k N W, K k N W → N ≤ W.heap.size ∧ (∃ T, W.heap[bs]? = some (.cells css.toArray T (0, 0))) ∧ Rd W (fun b => b < NB ∧ b ≠ bc) (eS s) qi css
 step : ∀ k N W W', K k N W → But (fun b => b = bc ∨ b = m) W W' → K k N W'
 yield : ∀ k N W a, K k N W → (yf s c0)[k]? = some a → a.ok → YieldAt (FR none) (n - 1) Tryz.prog l #[.string a.name, .agg (ceL a.val).toArray] W fun e W' =>
  W.heap.size ≤ W'.heap.size ∧ (∀ b, b < W.heap.size → N ≤ b ∨ b = bc ∨ b = m → W'.heap[b]? = W.heap[b]?) ∧ (e = .returned (.bool true) ∧ K (k + 1) W'.heap.size W' ∨ e = .returned (.bool false) ∧ J W')
 stop : ∀ W W', J W → But Nil W W' → J W'
structure MidOk (l bs bc m : Nat) (s : So) (c : Ce) (M : List D) (i : Int) (nm : ByteArray) (tl : Ce) (b6 : Nat) (a : Act) (W : World) : Prop where
 z : a.tmps.size = 67
 d : a.defers = []
 t0 : a.tmps[0]? = some (yvV l)
 t1 : a.tmps[1]? = some (ptV bs)
 t2 : a.tmps[2]? = some (ptV bc)
 t4 : a.tmps[4]? = some (.map (some m))
 t6 : a.tmps[6]? = some (ptV b6)
 t10 : a.tmps[10]? = some (.string nm)
 t14 : a.tmps[14]? = some (.int .i64 (s.cs.length : Nat))
 t15 : a.tmps[15]? = some (.int .i64 i)
 hc : ∃ T, qo T = some qn ∧ W.heap[bc]? = some (.cells (ceL c).toArray T (0, 0))
 hm : ∃ es clock, W.heap[m]? = some (.map es clock) ∧ q6a .str .bool M es.toList
 h6 : ∃ T, W.heap[b6]? = some (.cells (ceL tl).toArray T (0, 0))
 co : c.ok
 tlo : tl.ok
 ir : i64 i
 nml : nm.size ≤ LIM
def sYm : St := ⟨[(10, .v (.tok 4) .str [] []), (0, .sn 0 .any), (1, .sn 1 (.rd (.tok 0) qi [] none)), (2, .ref 2 [] 0 qn), (4, .sn 4 (.v (.tok 2) mpT [(0, 65)] [])), (6, .ref 6 [] 0 qn), (14, .v (.len (.fld (.tok 0) 0)) (.int .i64) [] []), (15, .v (.tok 3) (.int .i64) [] [])], [(6, ⟨.tok 5, qn, [], []⟩), (2, ⟨.tok 1, qn, [], []⟩)]⟩
section
variable {NB n l bs bc m : Nat} {css : List Value} {s : So} {c tl vl : Ce} {M : List D} {i : Int} {nm : ByteArray} {a : Act} {W W0 : World} {p : qm} {r : List D} {b6 : Nat}
abbrev qh0 (s : So) (c : Ce) (M : List D) (i : Int) (nm : ByteArray) (tl : Ce) (r : List D) : List D := eS s :: eC c :: .mp M :: .i i :: .s nm :: eC tl :: r
theorem zbq (hm : bc ≠ m) (hb : Bs (itX l bs bc m).A (itX l bs bc m).F W0 (pinned (itP bc m)) p W) (hf : SF ((itX l bs bc m).at (qb q1v) (qh0 s c M i nm tl r)) sYm p W a) (hd : a.defers = []) (hz : a.tmps.size = 67) : ∃ b6, W0.heap.size ≤ b6 ∧ b6 < W.heap.size ∧ b6 ≠ bc ∧ b6 ≠ m ∧ MidOk l bs bc m s c M i nm tl b6 a W := by
 obtain ⟨v0, t0, e0, -⟩ := hf.t 0 _ (by kernel_rfl : lkA sYm.t 0 = some (.sn 0 .any))
 obtain ⟨v1, t1, e1, -⟩ := hf.t 1 _ (by kernel_rfl : lkA sYm.t 1 = some (.sn 1 (.rd (.tok 0) qi [] none)))
 obtain ⟨v2, t2, g2, q2, e2, hat⟩ := hf.t 2 _ (by kernel_rfl : lkA sYm.t 2 = some (.ref 2 [] 0 qn))
 obtain ⟨v4, t4, e4, h4⟩ := hf.t 4 _ (by kernel_rfl : lkA sYm.t 4 = some (.sn 4 (.v (.tok 2) mpT [(0, 65)] [])))
 obtain ⟨v6, t6, g6, q6, e6, -⟩ := hf.t 6 _ (by kernel_rfl : lkA sYm.t 6 = some (.ref 6 [] 0 qn))
 obtain ⟨v10, t10, h10⟩ := hf.t 10 _ (by kernel_rfl : lkA sYm.t 10 = some (.v (.tok 4) .str [] []))
 obtain ⟨v14, t14, h14⟩ := hf.t 14 _ (by kernel_rfl : lkA sYm.t 14 = some (.v (.len (.fld (.tok 0) 0)) (.int .i64) [] []))
 obtain ⟨v15, t15, h15⟩ := hf.t 15 _ (by kernel_rfl : lkA sYm.t 15 = some (.v (.tok 3) (.int .i64) [] []))
 have hat : itP bc m 32 = some g2 := hat (.inl (by omega))
 have hg2 : bc = g2 := gnI hat
 subst hg2
 subst e0 e1 e2 e6
 obtain ⟨g4, q4, e4', l4, es, clock, h4e, h4h, h4l⟩ := z3i h4
 have e4 : v4 = .map (some m) := e4
 rw [e4] at e4'
 injection e4' with e4'
 injection e4' with e4'
 subst e4' e4
 have h4e : D.mp M = D.mp l4 := h4e
 injection h4e with h4e
 subst h4e
 obtain ⟨s10, e10, rfl, hl10⟩ := qfs h10
 have e10 : D.s nm = D.s s10 := e10
 injection e10 with e10
 subst e10
 obtain ⟨rfl, -⟩ := qdx (n := (s.cs.length : Nat)) (by
  show D.i (((eS s).fld 0).rs.length : Nat) = _
  rw [qer, q6i, List.length_map]) h14
 obtain ⟨rfl, hi⟩ := qdx (n := i) rfl h15
 obtain ⟨g6', q6', tlo, T6, -, h6⟩ := z46 (c := tl) rfl (hf.m 6 _ (by kernel_rfl : lkA sYm.m 6 = some ⟨.tok 5, qn, [], []⟩))
 obtain ⟨gc, qc, co, Tc, hTc, hc⟩ := z46 (c := c) rfl (hf.m 2 _ (by kernel_rfl : lkA sYm.m 2 = some ⟨.tok 1, qn, [], []⟩))
 have q6 : p (6 * 16) = some g6 := q6
 rw [q6] at q6'
 injection q6' with q6'
 subst q6'
 have q2 : p (2 * 16) = some bc := q2
 rw [q2] at qc
 injection qc with qc
 subst qc
 have n1 : g6 ≠ bc := fun e => by
  have := hb.inj _ _ _ q6 (e ▸ q2)
  omega
 have n2 : g6 ≠ m := fun e => by
  have := hb.inj _ _ _ q6 (e ▸ q4)
  omega
 refine ⟨g6, ?_, hb.bd _ _ q6, n1, n2, ⟨hz, hd, t0, t1, t2, t4, t6, t10, t14, t15, ⟨Tc, hTc, hc⟩, ⟨es, clock, h4h, h4l⟩, ⟨T6, h6⟩, co, tlo, hi, hl10⟩⟩
 rcases hb.pin _ _ q6 with h | h
 ·rcases z5a.1 h with h | h
  ·exact absurd h n1
  ·exact absurd h n2
 ·exact h
theorem zb6 (h : MidOk l bs bc m s c M i nm tl b6 a W) (hs : ∃ T, W.heap[bs]? = some (.cells css.toArray T (0, 0))) (rd : Rd W (fun b => b < NB ∧ b ≠ bc) (eS s) qi css) (so : s.ok) (hbs : bs < NB) (hbc : bs ≠ bc) (hcb : bc < NB) (hmb : NB ≤ m) (h6c : b6 ≠ bc) (h6m : b6 ≠ m) : SF ((itX l bs bc m).at (qb q1v) (qh0 s c M i nm tl r)) sP (itP bc m) W a := by
 have hp : ∀ x b, itP bc m x = some b → b = bc ∨ NB ≤ b := fun x b hx => (q6r hx).imp (·.2) fun e => by omega
 refine ⟨fun t x hx => ?_, fun k e he => ?_⟩
 ·have hx := qx hx
  simp only [sP, gnM] at hx
  rcases hx with ⟨rfl, rfl⟩ | ⟨rfl, rfl⟩ | ⟨rfl, rfl⟩ | ⟨rfl, rfl⟩ | ⟨rfl, rfl⟩ | ⟨rfl, rfl⟩ | ⟨rfl, rfl⟩ | ⟨rfl, rfl⟩
  ·exact ⟨_, h.t0, rfl, trivial⟩
  ·exact ⟨_, h.t1, z90 rfl rfl rfl hp hbs hbc hs rd⟩
  ·exact ⟨_, h.t2, bc, rfl, rfl, fun _ => rfl⟩
  ·exact ⟨_, h.t4, zbn rfl rfl rfl h.hm⟩
  ·obtain ⟨T, h6⟩ := h.h6
   refine ⟨_, h.t6, b6, 0, ceL tl, rfl, .inl ⟨trivial, fun x hx => ?_⟩, fun j v hj => ?_, Nat.zero_lt_succ _, qvt h.tlo, trivial⟩
   ·rcases q6r hx with ⟨-, e⟩ | ⟨-, e⟩
    ·exact h6c e
    ·exact h6m e
   ·rw [cell_of_row W b6 _ _ T (0, 0) h6, Nat.zero_add]
    simpa using hj
  ·exact ⟨_, h.t10, [.string nm], rfl, Con.of_rd (show Rd W _ (.s nm) .str _ from ⟨rfl, rfl, h.nml⟩)⟩
  ·refine ⟨_, h.t14, qxv ?_ (qx6 so)⟩
   show D.i (((eS s).fld 0).rs.length : Nat) = _
   rw [qer, q6i, List.length_map]
  ·exact ⟨_, h.t15, qxv rfl h.ir⟩
 ·have he := qx he
  simp only [sP, gnM] at he
  obtain ⟨rfl, rfl⟩ := he
  obtain ⟨T, hT, hc⟩ := h.hc
  exact ⟨bc, _, T, rfl, hc, hT, Con.of_rd (show Rd W _ (eC c) qn (ceL c).toArray.toList from qvt h.co)⟩
theorem SF.cons {k : Nat} {x : AV} (hf : SF cx σ p W a) (hv : a.tmps[k]? = some v) (hx : x.pd cx p W v) : SF cx ⟨(k, x) :: σ.t, σ.m⟩ p W a := by
 refine ⟨fun t y hy => ?_, hf.m⟩
 by_cases e : k = t
 ·subst e
  have hy : lkA ((k, x) :: σ.t) k = some y := hy
  rw [qf] at hy
  injection hy with hy
  subst hy
  exact ⟨v, hv, hx⟩
 ·exact hf.t t y (by rw [← qh e]; exact hy)
theorem SF.forget {l6 r' : List D} (hr : l6.length = 6) (hf : SF (cx.at (qb q1v) (l6 ++ r')) sP p W a) : SF (cx.at (qb q1v) l6) sP p W a := by
 have e : q2a [] [] 6 (q1p [] [] [] 6 sP) = sP := by kernel_rfl
 rw [← e]
 exact qnx (c := cx.at (qb q1v) (l6 ++ r')) (c' := cx.at (qb q1v) l6) (da := []) (db := []) rfl rfl ⟨rfl, rfl, rfl⟩ (fun k hk => by
  show (l6 ++ r').getD k .u = l6.getD k .u
  simp only [gnG]
  rw [List.getElem?_append_left (by omega)]) (fun i hi => absurd hi (Nat.not_lt_zero _)) (qh1 hf) rfl rfl
end
end
variable {α : Type} {tmps : Array Value}
section
open Go.RowKit Go.Shelf
theorem qcb {n : Nat} {l : List Oper} {w : World} (k : Nat) (h : wpListIn F n P ops (Exit.then (wpListIn F n P ops Q (l.drop k)) Q) (l.take k) a w) : wpListIn F n P ops Q l a w := by
 have := qb2 (l.take k) (l.drop k) h
 rwa [List.take_append_drop] at this
noncomputable def o5 : Oper := (itO.drop 5).headD default
noncomputable def o11 : Oper := (itO.drop 11).headD default
theorem zee : itO.drop 5 = o5 :: itO.drop 6 := by kernel_rfl
theorem zhc : o5.op = .move (.tmp 0) := by kernel_rfl
theorem zia : o5.dst = some 54 := by kernel_rfl
theorem zl7 : o5.guard = some (4, true) := by kernel_rfl
theorem zcj : itO.drop 11 = o11 :: itO.drop 12 := by kernel_rfl
noncomputable def c11 : Go.Call := match o11.op with
 | .call c => c
 | _ => ⟨.value (.tmp 0), #[], #[]⟩
theorem z8a : o11.op = .call c11 := by kernel_rfl
theorem zlu : c11.callee = .value (.tmp 54) := by kernel_rfl
theorem zle : c11.args = #[.tmp 55, .tmp 59] := by kernel_rfl
theorem qx4 : o11.dst = some 60 := by kernel_rfl
theorem zi5 : o11.guard = some (4, true) := by kernel_rfl
theorem zke : itY = .seq (.region 9 itO.toArray false) (.cond (.tmp 62) .ret .skip) := by kernel_rfl
theorem zmp : ((dsts itO)[4]?).join = some 53 := by kernel_rfl
theorem qhh : itO.all (q76 3 67) = true := by kernel_rfl
theorem qzj {f : α → Bool} {l : List α} (h : l.all f = true) (k : Nat) : (l.take k).all f = true := List.all_eq_true.2 fun x hx => List.all_eq_true.1 h x (List.mem_of_mem_take hx)
theorem qi4 {f : α → Bool} {l : List α} (h : l.all f = true) (k : Nat) : (l.drop k).all f = true := List.all_eq_true.2 fun x hx => List.all_eq_true.1 h x (List.mem_of_mem_drop hx)
theorem drop_drop (l : List Oper) : (l.drop 6).drop 5 = l.drop 11 := by rw [List.drop_drop]
def sJ : St := ⟨[(60, .v (.tok 0) .bool [] []), (53, .v (.lit (.b true)) .bool [] [])], []⟩
noncomputable def zmz : St := match qou Tryz.prog q1v (dsts itO) sJ (itO.drop 12) with
 | some (_, σ) => σ
 | none => ⟨[], []⟩
theorem zf5 : qou Tryz.prog q1v (dsts itO) sJ (itO.drop 12) = some ([], zmz) := by kernel_rfl
theorem zfv : lkA zmz.t 62 = some (.v (.not (.tok 0)) .bool [] []) := by kernel_rfl
theorem q9g : q7q q1v = true := by kernel_rfl
theorem q9l {t : Nat} (h : a.tmps[t]? = some v) : a.eval (.tmp t) = v := by
 obtain ⟨h1, e⟩ := Array.getElem?_eq_some_iff.1 h
 simp [Act.eval, Array.getD, h1, e]
theorem z7j {ρ : Operand → Value} {w : World} {l : Nat} {v1 v2 : Value} {fn : FuncId} {assign body : Code} (h54 : ρ (.tmp 54) = yvV l) (h55 : ρ (.tmp 55) = v1) (h59 : ρ (.tmp 59) = v2) (hy : (Instr.yield l #[v1, v2]).run P w = .ok (.round l fn tmps assign body) w) : (execOp ρ o11).run P w = .ok (.round l fn tmps assign body) w := by
 unfold execOp
 simp only [z8a, resolve, zlu, zle, List.map_toArray, List.map_cons, List.map_nil, h54, h55, h59, yvV, Deferred.ofValue]
 simp [go_sem, invoke, hy]
theorem zae {w : World} : (execOp a.eval o5).run P w = .ok (.value (a.eval (.tmp 0))) w := by
 unfold execOp
 simp only [zhc]
 rfl
end
section
open Go.RowKit Go.Shelf
section
variable {NB n l bs bc m : Nat} {css : List Value} {s : So} {c0 c tl vl : Ce} {M : List D} {i : Int} {nm : ByteArray} {a : Act} {W W0 : World} {p : qm} {r : List D} {b6 j N : Nat} {met : List ByteArray} {K : Nat → Nat → World → Prop} {J : World → Prop}
theorem qac (hb : Bs (itX l bs bc m).A (itX l bs bc m).F W0 (pinned (itP bc m)) p W) : But (fun b => b = bc ∨ b = m) W0 W := hb.but.mono fun b h _ => z5a.1 h
theorem zje (hk : KOk l n bs bc m NB css s c0 K J) (hn : 1 ≤ n) (hbs : bs < NB) (hbc : bs ≠ bc) (hcb : bc < NB) (hmb : NB ≤ m) (so : s.ok)
  (hKW : K j N W0) (hb : Bs (itX l bs bc m).A (itX l bs bc m).F W0 (pinned (itP bc m)) p W) (hf : SF ((itX l bs bc m).at (qb q1v) (qh0 s c M i nm tl [eC vl])) sY p W a) (hd : a.defers = []) (hz : a.tmps.size = 67)
  (htr : fnD 0 [.mp M, .s nm, .b false] = .b (hasB met nm)) (hj : hasB met nm = false → (yf s c0)[j]? = some ⟨nm, q3m (q1o s vl)⟩)
  {KK : Act → World → Prop}
  (hgo : ∀ p' N' W1 W' a', K (if hasB met nm then j else j + 1) N' W1 → But (fun b => b = bc ∨ b = m) W1 W' → Bs (itX l bs bc m).A (itX l bs bc m).F W1 (pinned (itP bc m)) p' W' → SF ((itX l bs bc m).at (qb q1v) (qh0 s c M i nm tl [])) sP p' W' a' → a'.defers = [] → a'.tmps.size = 67 → KK a' W')
  (hst : ∀ W' a', J W' → a'.defers = [] → a'.tmps.size = 67 → Q .ret a' W') : itY.wpIn (FR none) n Tryz.prog (Exit.then KK Q) a W := by
 rw [zke]
 have hmc : bc ≠ m := by omega
 have hS : HS ((itX l bs bc m).at (qb q1v) (qh0 s c M i nm tl [eC vl])) q1v := ⟨rfl, qpi l bs bc m⟩
 refine wpIn_seq (wpIn_region_lit (qcb 5 (q5y none n q9s hS rfl (q49 q9g) zdb (qzj qhh 5) (fun n h => by cases h) hb hf hd hz fun a1 W1 hp => ?_)))
 obtain ⟨p1, hb1, hf1, hd1, hz1⟩ := hp
 obtain ⟨v, hv, hpd⟩ := hf1.t 53 _ (by kernel_rfl : lkA zjs.t 53 = some (.v (.not (.fn 0 [(.tok 2), (.tok 4), (.lit (.b false))])) .bool [] []))
 obtain ⟨y, ey, rfl⟩ := q1s hpd
 have ey : D.b (!(fnD 0 [.mp M, .s nm, .b false]).tt) = .b y := ey
 rw [htr] at ey
 injection ey with ey
 have hfY : SF ((itX l bs bc m).at (qb q1v) (qh0 s c M i nm tl [eC vl])) sY p1 W1 a1 := q24 (by kernel_rfl : covers zjs sY = true) hf1
 show wpListIn (FR none) n Tryz.prog itO.toArray _ (itO.drop 5) a1 W1
 cases hm : hasB met nm with
 | true =>
  rw [hm] at ey
  have ey : false = y := ey
  subst ey
  have hff := SF.cons (k := 53) (x := .v (.lit (.b false)) .bool [] []) hfY hv ⟨_, rfl, Con.of_rd (show Rd W1 _ (.b false) .bool _ from ⟨rfl, rfl⟩)⟩
  refine q5y none n q9s hS rfl (q49 q9g) (σ := sYf) zfz (qi4 qhh 5) (fun n h => by cases h) hb1 hff hd1 hz1 fun a2 W2 hp => ?_
  obtain ⟨p2, hb2, hf2, hd2, hz2⟩ := hp
  obtain ⟨v2, hv2, hpd2⟩ := hf2.t 62 _ (by kernel_rfl : lkA zib.t 62 = some (.v (.lit (.b false)) .bool [] []))
  obtain ⟨y2, ey2, rfl⟩ := q1s hpd2
  have ey2 : D.b false = .b y2 := ey2
  injection ey2 with ey2
  subst ey2
  refine wpIn_cond_false (q9l hv2) (wpIn_skip ?_)
  obtain ⟨b6, h1, h2, h3, h4, hmid⟩ := zbq hmc hb2 (q24 (by kernel_rfl : covers zib sYm = true) hf2) hd2 hz2
  have hK2 := hk.step _ _ _ _ hKW (qac (l := l) (bs := bs) hb2)
  obtain ⟨-, hs2, hrd2⟩ := hk.rd _ _ _ hK2
  have hbf : Bs (itX l bs bc m).A (itX l bs bc m).F W2 (pinned (itP bc m)) (itP bc m) W2 := zbt (c := c) hcb hmb hmid.hc (by obtain ⟨es, clock, h, -⟩ := hmid.hm; exact ⟨es, clock, h⟩)
  refine hgo (itP bc m) N W2 W2 a2 (by rw [if_pos hm]; exact hK2) (But.refl _ _) hbf ?_ hd2 hz2
  exact zb6 hmid hs2 hrd2 so hbs hbc hcb hmb h3 h4
 | false =>
  rw [hm] at ey
  have ey : true = y := ey
  subst ey
  have hsz : ∀ {t : Nat}, t < 67 → t < a1.tmps.size := fun {t} h => by omega
  have hft := SF.cons (k := 53) (x := .v (.lit (.b true)) .bool [] []) hfY hv ⟨_, rfl, Con.of_rd (show Rd W1 _ (.b true) .bool _ from ⟨rfl, rfl⟩)⟩
  obtain ⟨v0, t0, e0, -⟩ := hfY.t 0 _ (by kernel_rfl : lkA sY.t 0 = some (.sn 0 .any))
  rw [zee]
  unfold wpListIn
  have hw : Region.wanted o5 (yielded itO.toArray a1.tmps) = true := (qbi zl7).2 ((qaz (ds := dsts itO) rfl zmp hv).2 rfl)
  rw [if_pos hw]
  refine Oper.wp_round none (by rw [zhc]; simp) ?_
  unfold Oper.wp
  rw [zae, q9l t0]
  show wpListIn (FR none) n Tryz.prog itO.toArray _ (itO.drop 6) (a1.put o5.dst v0) W1
  rw [zia]
  have hfq : SF ((itX l bs bc m).at (qb q1v) (qh0 s c M i nm tl [eC vl])) sYt p1 W1 (a1.put (some 54) v0) := by
   have := hft.put (t := 54) (x := .sn 0 .any) (v := v0) (by omega) ⟨e0, trivial⟩
   exact this
  have hv2 : (a1.put (some 54) v0).tmps[53]? = some (.bool true) := by
   obtain ⟨v, hv, hpd⟩ := hfq.t 53 _ (by kernel_rfl : lkA sYt.t 53 = some (.v (.lit (.b true)) .bool [] []))
   obtain ⟨y2, ey2, rfl⟩ := q1s hpd
   have ey2 : D.b true = .b y2 := ey2
   injection ey2 with ey2
   subst ey2
   exact hv
  have hsay : ∀ x ∈ zin, x.says ((itX l bs bc m).at (qb q1v) (qh0 s c M i nm tl [eC vl])).v := by
   intro x hx
   simp only [zin, List.mem_cons, List.not_mem_nil, or_false] at hx
   rcases hx with rfl | rfl
   ·show (D.b (qcq [eS s, eC vl]).isSome).tt = true
    simp [qcq, q5i]
   ·show (D.b (q4t [_]).isSome).tt = true
    simp [q4t, q5i]
  refine qcb 5 (q5y none n q9s hS rfl (q49 q9g) zg3 (qzj (qi4 qhh 6) 5) hsay hb1 hfq hd1 (by simp [Act.put]; exact hz1) fun a2 W2 hp => ?_)
  obtain ⟨p2, hb2, hf2, hd2, hz2⟩ := hp
  show wpListIn (FR none) n Tryz.prog itO.toArray _ ((itO.drop 6).drop 5) a2 W2
  rw [drop_drop, zcj]
  obtain ⟨b6, h1, h2, h3, h4, hmid⟩ := zbq hmc hb2 (q24 (by kernel_rfl : covers z7z sYm = true) hf2) hd2 hz2
  have hK2 := hk.step _ _ _ _ hKW (qac (l := l) (bs := bs) hb2)
  obtain ⟨v54, t54, e54, -⟩ := hf2.t 54 _ (by kernel_rfl : lkA z7z.t 54 = some (.sn 0 .any))
  obtain ⟨v53, t53, h53⟩ := hf2.t 53 _ (by kernel_rfl : lkA z7z.t 53 = some (.v (.lit (.b true)) .bool [] []))
  obtain ⟨y3, ey3, rfl⟩ := q1s h53
  have ey3 : D.b true = .b y3 := ey3
  injection ey3 with ey3
  subst ey3
  obtain ⟨v55, t55, h55⟩ := hf2.t 55 _ (by kernel_rfl : lkA z7z.t 55 = some (.v (.tok 4) .str [] []))
  obtain ⟨s55, es55, rfl, -⟩ := qfs h55
  have es55 : D.s nm = .s s55 := es55
  injection es55 with es55
  subst es55
  obtain ⟨v59, t59, cs59, hp59, hc59⟩ := hf2.t 59 _ (by kernel_rfl : lkA z7z.t 59 = some (.v (.call 3 0 [(.call 0 0 [(.tok 0), (.tok 6)])]) qn [] []))
  have hr59 : Rd W2 (FFD (itX l bs bc m).A p2 []) (eC (q3m (q1o s vl))) qn cs59 := by
   have h := Con.rd hc59 (fun _ h => h) (fun _ h => h)
   have e : (X.call 3 0 [(.call 0 0 [(.tok 0), (.tok 6)])]).ev ((itX l bs bc m).at (qb q1v) (qh0 s c M i nm tl [eC vl])).v = eC (q3m (q1o s vl)) := by
    show ((q4t [((qcq [eS s, eC vl]).getD []).getD 0 .u]).getD []).getD 0 .u = _
    simp [qcq, q4t, yw, zk]
   rw [e] at h
   exact h
  have hr59' := hr59
  obtain rfl := quu hr59
  have hp59 : v59 = .agg (ceL (q3m (q1o s vl))).toArray := hp59
  subst hp59
  obtain ⟨fn, tmps, assign, body, hy, hR⟩ := hk.yield _ _ _ _ hK2 (hj hm) ⟨hmid.nml, z4t hr59'⟩
  unfold wpListIn
  have hw : Region.wanted o11 (yielded itO.toArray a2.tmps) = true := (qbi zi5).2 ((qaz (ds := dsts itO) rfl zmp t53).2 rfl)
  rw [if_pos hw]
  refine ⟨fun _ _ => trivial, ?_⟩
  have e54' : a2.eval (.tmp 54) = yvV l := (q9l t54).trans e54
  rw [show Oper.semAt (FR none).round a2.eval o11 = execOp a2.eval o11 from Oper.semAt_eq _ _ _ (by rw [z8a]; simp), z7j e54' (q9l t55) (q9l t59) hy]
  refine ⟨fun e => (by cases e), hR.mono ?_⟩
  rintro e W3 ⟨hsz3, hbl, hres⟩
  have hN2 := (hk.rd _ _ _ hKW).1
  have hput : (a2.put o11.dst (.bool true)).tmps.size = 67 := by rw [qx4]; simp [Act.put]; exact hz2
  rcases hres with ⟨rfl, hK3⟩ | ⟨rfl, hJ3⟩
  ·-- the rounds go on
   show wpListIn (FR none) n Tryz.prog itO.toArray _ (itO.drop 12) (a2.put o11.dst (.bool true)) W3
   rw [qx4]
   have hol : ∀ b, W0.heap.size ≤ b ∨ b = bc ∨ b = m → b < W2.heap.size → W3.heap[b]? = W2.heap[b]? := fun b hb hlt => hbl b hlt (by
    rcases hb with h | h | h
    ·exact .inl (by omega)
    ·exact .inr (.inl h)
    ·exact .inr (.inr h))
   have hpt : ∀ {t : Nat}, t ≠ 60 → (a2.put (some 60) (.bool true)).tmps[t]? = a2.tmps[t]? := fun {t} ht => by
    show (a2.tmps.setIfInBounds 60 _)[t]? = _
    rw [Array.getElem?_setIfInBounds_ne (fun e => ht e.symm)]
   have hmid3 : MidOk l bs bc m s c M i nm tl b6 (a2.put (some 60) (.bool true)) W3 := by
    refine ⟨by simp [Act.put]; exact hz2, hmid.d, ?_, ?_, ?_, ?_, ?_, ?_, ?_, ?_, ?_, ?_, ?_, hmid.co, hmid.tlo, hmid.ir, hmid.nml⟩
    ·rw [hpt (by omega)]; exact hmid.t0
    ·rw [hpt (by omega)]; exact hmid.t1
    ·rw [hpt (by omega)]; exact hmid.t2
    ·rw [hpt (by omega)]; exact hmid.t4
    ·rw [hpt (by omega)]; exact hmid.t6
    ·rw [hpt (by omega)]; exact hmid.t10
    ·rw [hpt (by omega)]; exact hmid.t14
    ·rw [hpt (by omega)]; exact hmid.t15
    ·obtain ⟨T, hT, h⟩ := hmid.hc
     exact ⟨T, hT, (hol bc (.inr (.inl rfl)) (qu h)).trans h⟩
    ·obtain ⟨es, clock, h, hl⟩ := hmid.hm
     exact ⟨es, clock, (hol m (.inr (.inr rfl)) (Array.getElem?_eq_some_iff.1 h).1).trans h, hl⟩
    ·obtain ⟨T, h⟩ := hmid.h6
     exact ⟨T, (hol b6 (.inl h1) h2).trans h⟩
   obtain ⟨-, hs3, hrd3⟩ := hk.rd _ _ _ hK3
   have hf3 := zb6 (r := [.b true]) hmid3 hs3 hrd3 so hbs hbc hcb hmb h3 h4
   have hbf : Bs (itX l bs bc m).A (itX l bs bc m).F W3 (pinned (itP bc m)) (itP bc m) W3 := zbt (c := c) hcb hmb hmid3.hc (by obtain ⟨es, clock, h, -⟩ := hmid3.hm; exact ⟨es, clock, h⟩)
   have t53' : (a2.put (some 60) (.bool true)).tmps[53]? = some (.bool true) := by rw [hpt (by omega)]; exact t53
   have t60' : (a2.put (some 60) (.bool true)).tmps[60]? = some (.bool true) := by
    show (a2.tmps.setIfInBounds 60 _)[60]? = _
    rw [Array.getElem?_setIfInBounds_self_of_lt (by omega)]
   have hfz := SF.cons (k := 60) (x := .v (.tok 6) .bool [] []) (SF.cons (k := 53) (x := .v (.lit (.b true)) .bool [] []) hf3 t53' ⟨_, rfl, Con.of_rd (show Rd W3 _ (.b true) .bool _ from ⟨rfl, rfl⟩)⟩) t60' ⟨_, rfl, Con.of_rd (show Rd W3 _ (.b true) .bool _ from ⟨rfl, rfl⟩)⟩
   have hS3 : HS ((itX l bs bc m).at (qb q1v) (qh0 s c M i nm tl [.b true])) q1v := ⟨rfl, qpi l bs bc m⟩
   refine q5y none n q9s hS3 rfl (q49 q9g) (σ := sYz) zg1 (qi4 qhh 12) (fun n h => by cases h) hbf hfz hmid.d (by simp [Act.put]; exact hz2) fun a4 W4 hp => ?_
   obtain ⟨p4, hb4, hf4, hd4, hz4⟩ := hp
   obtain ⟨v4, hv4, hpd4⟩ := hf4.t 62 _ (by kernel_rfl : lkA zio.t 62 = some (.v (.not (.tok 6)) .bool [] []))
   obtain ⟨y4, ey4, rfl⟩ := q1s hpd4
   have ey4 : D.b false = .b y4 := ey4
   injection ey4 with ey4
   subst ey4
   refine wpIn_cond_false (q9l hv4) (wpIn_skip ?_)
   refine hgo p4 _ W3 W4 a4 (by rw [hm]; exact hK3) (qac (l := l) (bs := bs) hb4) hb4 ?_ hd4 hz4
   exact SF.forget (l6 := qh0 s c M i nm tl []) rfl (q24 (by kernel_rfl : covers zio sP = true) hf4)
  ·-- the rounds stop
   show wpListIn (FR none) n Tryz.prog itO.toArray _ (itO.drop 12) (a2.put o11.dst (.bool false)) W3
   rw [qx4]
   have t53' : (a2.put (some 60) (.bool false)).tmps[53]? = some (.bool true) := by
    show (a2.tmps.setIfInBounds 60 _)[53]? = _
    rw [Array.getElem?_setIfInBounds_ne (by omega)]
    exact t53
   have t60' : (a2.put (some 60) (.bool false)).tmps[60]? = some (.bool false) := by
    show (a2.tmps.setIfInBounds 60 _)[60]? = _
    rw [Array.getElem?_setIfInBounds_self_of_lt (by omega)]
   have hbf : Bs (fun _ => True) Flr.no W3 (pinned fun _ => none) (fun _ => none) W3 := ⟨fun x y b h => (nomatch h), fun x b h => (nomatch h), But.refl _ _, fun x b h => (nomatch h), fun _ _ => ⟨trivial, trivial⟩, fun x b h => (nomatch h), fun x b h => (nomatch h), Flo.no⟩
   have hfj : SF ((itX l bs bc m).at (qb q1v) [.b false]) sJ (fun _ => none) W3 (a2.put (some 60) (.bool false)) := by
    refine ⟨fun t x hx => ?_, fun k e he => by cases he⟩
    have hx := qx hx
    simp only [sJ, gnM] at hx
    rcases hx with ⟨rfl, rfl⟩ | ⟨rfl, rfl⟩
    ·exact ⟨_, t60', _, rfl, Con.of_rd (show Rd W3 _ (.b false) .bool _ from ⟨rfl, rfl⟩)⟩
    ·exact ⟨_, t53', _, rfl, Con.of_rd (show Rd W3 _ (.b true) .bool _ from ⟨rfl, rfl⟩)⟩
   have hSj : HS ((itX l bs bc m).at (qb q1v) [.b false]) q1v := ⟨rfl, qpi l bs bc m⟩
   refine q5y none n q9s hSj rfl (q49 q9g) (σ := sJ) zf5 (qi4 qhh 12) (fun n h => by cases h) hbf hfj hmid.d (by simp [Act.put]; exact hz2) fun a4 W4 hp => ?_
   obtain ⟨p4, hb4, hf4, hd4, hz4⟩ := hp
   obtain ⟨v4, hv4, hpd4⟩ := hf4.t 62 _ zfv
   obtain ⟨y4, ey4, rfl⟩ := q1s hpd4
   have ey4 : D.b true = .b y4 := ey4
   injection ey4 with ey4
   subst ey4
   refine wpIn_cond_true (q9l hv4) (wpIn_ret (hst _ _ (hk.stop _ _ hJ3 (hb4.but.mono fun b h _ => ?_)) hd4 hz4))
   obtain ⟨x, hx⟩ := h
   cases hx
end
end
section
open Go.RowKit Go.Shelf
noncomputable def itL : Code := sqR (sqR (sqR itR))
noncomputable def r10 : Code := sqL (sqR (sqR (sqR (sqR (sqR (sqR (sqR itB)))))))
noncomputable def r11 : Code := sqR (sqR (sqR (sqR (sqR (sqR (sqR (sqR itB)))))))
theorem zj9 : itR = seqs qzk (.seq (.block 1 itB) itL) := by kernel_rfl
theorem zkb : itB = seqs z3v (.seq itY (.seq r10 r11)) := by kernel_rfl
theorem zlv : q2a iBt iBm 4 (q1p iBt iBm [] 4 sB) = sY := by kernel_rfl
def sN : St := q2a iPt iPm 6 (q1p iPt iPm [] 6 sP')
theorem sN0 : lkA sN.t 0 = some (.sn 0 .any) := by kernel_rfl
theorem sN1 : lkA sN.t 1 = some (.sn 1 (.rd (.tok 0) qi [] none)) := by kernel_rfl
theorem sN2 : lkA sN.t 2 = some (.ref 2 [] 0 qn) := by kernel_rfl
theorem sN4 : lkA sN.t 4 = some (.sn 4 (.v (.tok 6) mpT [(0, 65)] [SNK])) := by kernel_rfl
theorem zo8 : lkA sN.t 14 = some (.v (.len (.fld (.tok 0) 0)) (.int .i64) [] []) := by kernel_rfl
theorem znq : lkA sN.t 15 = some (.v (.tok 7) (.int .i64) [] []) := by kernel_rfl
theorem sNm : lkA sN.m 2 = some ⟨.tok 8, qn, [], []⟩ := by kernel_rfl
def trk (M : List D) (met : List ByteArray) : Prop := ∀ nm : ByteArray, fnD 0 [.mp M, .s nm, .b false] = .b (hasB met nm)
theorem ze6 : trk [] [] := fun nm => rfl
theorem zco {M : List D} {met : List ByteArray} {x : ByteArray} (h : trk M met) : trk (mset (.s x) (.b true) M) (x :: met) := fun nm => by
 show (mfind (.s nm) (mset (.s x) (.b true) M)).getD (.b false) = _
 rw [qgm]
 by_cases e : x = nm
 ·subst e
  simp [hasB]
 ·rw [if_neg (by simpa using e)]
  have := h nm
  simp only [hasB, List.any_cons, decide_eq_false e, Bool.false_or] at this ⊢
  exact this
theorem qlg {s : So} (h : q42 s c = none) : ∀ k met, q7b s k c met = []
 | 0, _ => rfl
 | k + 1, met => by
  unfold q7b
  rw [h]
section
variable {NB n l bs bc m : Nat} {css : List Value} {s : So} {c0 c tl vl : Ce} {M : List D} {i : Int} {nm : ByteArray} {a : Act} {W W0 : World} {p : qm} {r : List D} {b6 j N : Nat} {met : List ByteArray} {K : Nat → Nat → World → Prop} {J : World → Prop}
theorem zmh (hb : Bs (itX l bs bc m).A (itX l bs bc m).F W0 (pinned (itP bc m)) p W) {l6 : List D} (hl6 : l6.length = 6) (hs6 : l6.getD 0 .u = eS s) (hf : SF ((itX l bs bc m).at (qb q1v) (l6 ++ [.mp M, .i i, eC c])) sN p W a) (hd : a.defers = []) (hz : a.tmps.size = 67) (hs : ∃ T, W.heap[bs]? = some (.cells css.toArray T (0, 0))) (rd : Rd W (fun b => b < NB ∧ b ≠ bc) (eS s) qi css) (so : s.ok) : HdOk NB l bs bc m css s c M i a W := by
 obtain ⟨v0, t0, e0, -⟩ := hf.t 0 _ sN0
 obtain ⟨v1, t1, e1, -⟩ := hf.t 1 _ sN1
 obtain ⟨v2, t2, g2, q2, e2, hat⟩ := hf.t 2 _ sN2
 obtain ⟨v4, t4, e4, h4⟩ := hf.t 4 _ sN4
 obtain ⟨v14, t14, h14⟩ := hf.t 14 _ zo8
 obtain ⟨v15, t15, h15⟩ := hf.t 15 _ znq
 have tk : ∀ k d, (l6 ++ [D.mp M, .i i, eC c]).getD k .u = d → (X.tok k).ev ((itX l bs bc m).at (qb q1v) (l6 ++ [.mp M, .i i, eC c])).v = d := fun k d h => h
 have tk0 : (l6 ++ [D.mp M, .i i, eC c]).getD 0 .u = eS s := by
  rw [gnG, List.getElem?_append_left (by omega), ← gnG]
  exact hs6
 have tk6 : (l6 ++ [D.mp M, .i i, eC c]).getD 6 .u = .mp M := by
  rw [gnG, List.getElem?_append_right (by omega), hl6]
  rfl
 have tk7 : (l6 ++ [D.mp M, .i i, eC c]).getD 7 .u = .i i := by
  rw [gnG, List.getElem?_append_right (by omega), hl6]
  rfl
 have tk8 : (l6 ++ [D.mp M, .i i, eC c]).getD 8 .u = eC c := by
  rw [gnG, List.getElem?_append_right (by omega), hl6]
  rfl
 have hat : itP bc m 32 = some g2 := hat (.inl (by omega))
 have hg2 : bc = g2 := gnI hat
 subst hg2
 subst e0 e1 e2
 obtain ⟨g4, q4, e4', l4, es, clock, h4e, h4h, h4l⟩ := z3i h4
 have e4 : v4 = .map (some m) := e4
 rw [e4] at e4'
 injection e4' with e4'
 injection e4' with e4'
 subst e4' e4
 have h4e := (tk _ _ tk6).symm.trans h4e
 injection h4e with h4e
 subst h4e
 obtain ⟨rfl, -⟩ := qdx (n := (s.cs.length : Nat)) (by
  show D.i ((((l6 ++ [D.mp M, .i i, eC c]).getD 0 .u).fld 0).rs.length : Nat) = _
  rw [tk0, qer, q6i, List.length_map]) h14
 obtain ⟨rfl, hi⟩ := qdx (n := i) (tk _ _ tk7) h15
 obtain ⟨gc, qc, co, Tc, hTc, hc⟩ := z46 (c := c) (tk _ _ tk8) (hf.m 2 _ sNm)
 have q2 : p (2 * 16) = some bc := q2
 rw [q2] at qc
 injection qc with qc
 subst qc
 exact ⟨hz, hd, t0, t1, t2, t4, t14, t15, hs, rd, ⟨Tc, hTc, hc⟩, ⟨es, clock, h4h, h4l⟩, so, co, hi⟩
theorem qvz (hk : KOk l n bs bc m NB css s c0 K J) (hn : 1 ≤ n) (hbs : bs < NB) (hbc : bs ≠ bc) (hcb : bc < NB) (hmb : NB ≤ m) (so : s.ok)
  (hQ : ∀ e a W, (e = .ret ∨ e = .exit 0) → a.defers = [] → a.tmps.size = 67 → ((∃ N, K (yf s c0).length N W) ∨ J W) → Q e a W) :
  ∀ (f : Nat) {i : Int} {c : Ce} {M : List D} {met : List ByteArray} {j N : Nat} {a : Act} {W : World}, HdOk NB l bs bc m css s c M i a W → K j N W → (yf s c0).drop j = q7b s (s.cs.length - i.toNat) c met → j ≤ (yf s c0).length → 0 ≤ i → trk M met → s.cs.length - i.toNat < f → Code.roundsIn (FR none) n Tryz.prog itR Q f a W
 | 0, i, c, M, met, j, N, a, W, h, hK, hdr, hjl, hi0, htr, hfu => absurd hfu (Nat.not_lt_zero _)
 | f + 1, i, c, M, met, j, N, a, W, h, hK, hdr, hjl, hi0, htr, hfu => by
  rw [roundsIn_succ]
  have hbf : Bs (itX l bs bc m).A (itX l bs bc m).F W (pinned (itP bc m)) (itP bc m) W := zbt (c := c) hcb hmb h.hc (by obtain ⟨es, clock, h, -⟩ := h.hm; exact ⟨es, clock, h⟩)
  have hff := zlp h hbs hbc hcb hmb
  have hend : q7b s (s.cs.length - i.toNat) c met = [] → j = (yf s c0).length := fun e => by
   rw [e] at hdr
   have := List.drop_eq_nil_iff.1 hdr
   omega
  have hW : (seqs qzk (.seq (.block 1 itB) itL)).wpIn (FR none) n Tryz.prog (Exit.then (Code.roundsIn (FR none) n Tryz.prog itR Q f) Q) a W := by
   refine q1j qzk ?_
   have pre : q9r (FR none) n Tryz.prog (fun e a W => (e = .ret ∨ e = .exit 0) ∧ Q e a W) (qzk ++ z3v) ((Code.seq itY (.seq r10 r11)).wpIn (FR none) n Tryz.prog (Exit.inBlock 1 (Exit.then (itL.wpIn (FR none) n Tryz.prog (Exit.then (Code.roundsIn (FR none) n Tryz.prog itR Q f) Q)) (Exit.then (Code.roundsIn (FR none) n Tryz.prog itR Q f) Q)))) a W := by
    refine qq4 (c := itX l bs bc m) none n q9s (qpi l bs bc m) q9g (qzk ++ z3v) (n := 4) (ann := qy3) (R := zmi s c i) (B := fun _ _ => False) (ts := iBt) (ms := iBm) (kill := []) (σk := sB) (l := [eS s, eC c, .mp M, .i i]) (σ := sH) (by
     show (q4q Tryz.prog q1v qy3 3 _ _ _ _ _).go _ _ _ _
     rw [zf9]
     exact znz _) rfl hbf hff h.d h.z (fun st p' W' a' hR hst hb' hf' hd' hz' => ?_) (fun p' W' a' hR hb' hd' hz' => ?_) (fun i' p' W' a' hR hb' hd' hz' => ?_)
    ·rcases hR with ⟨rfl, -⟩ | ⟨rfl, -⟩ | ⟨nm, tl, vl, hil, hnx, rfl⟩
     ·cases hst
     ·cases hst
     have e1 : s.cs.length - i.toNat = (s.cs.length - (i.toNat + 1)) + 1 := by omega
     have hdr1 : (yf s c0).drop j = (if hasB met nm then [] else [⟨nm, q3m (q1o s vl)⟩]) ++ q7b s (s.cs.length - (i.toNat + 1)) tl (nm :: met) := by
      rw [hdr, e1]
      conv => lhs; unfold q7b
      rw [hnx]
     have hfy : SF ((itX l bs bc m).at (qb q1v) (qh0 s c M i nm tl [eC vl])) sY p' W' a' := by
      have := hf'
      rw [zlv] at this
      exact this
     have hi1 : i64 (i + 1) := by
      have := qx6 so
      unfold i64 at this ⊢
      omega
     refine wpIn_seq (zje (c0 := c0) (j := j) (N := N) (met := met) hk hn hbs hbc hcb hmb so hK hb' hfy hd' hz' (htr nm) (fun hm => ?_) (fun p2 N2 W1 W2 a2 hK2 hbut hb2 hf2 hd2 hz2 => ?_) fun W2 a2 hJ hd2 hz2 => ?_)
     ·rw [hm] at hdr1
      have := congrArg (fun l => l[0]?) hdr1
      simpa using this
     ·have pre2 : q9r (FR none) n Tryz.prog (fun _ _ _ => False) (it3 ++ it4) (Code.roundsIn (FR none) n Tryz.prog itR Q f) a2 W2 := by
       refine qq4 (c := itX l bs bc m) none n q9s (qpi l bs bc m) q9g (it3 ++ it4) (n := 6) (ann := qy3) (R := zmn tl (.mp M) (.s nm) i) (B := fun _ _ => False) (ts := iPt) (ms := iPm) (kill := []) (σk := sP') (l := qh0 s c M i nm tl []) (σ := sP) (by
        show (q4q Tryz.prog q1v qy3 3 _ _ _ _ _).go _ _ _ _
        rw [zgp]
        exact znv hi1 _) rfl hb2 hf2 hd2 hz2 (fun st p3 W3 a3 hR3 hst3 hb3 hf3 hd3 hz3 => ?_) (fun p3 W3 a3 hR3 hb3 hd3 hz3 => ?_) (fun i' p3 W3 a3 hR3 hb3 hd3 hz3 => ?_)
       ·have hR3 : st = [.mp (mset (.s nm) (.b true) M), .i (i + 1), eC tl] := hR3
        subst hR3
        have hK3 := hk.step _ _ _ _ hK2 (qac (l := l) (bs := bs) hb3)
        obtain ⟨-, hs3, hrd3⟩ := hk.rd _ _ _ hK3
        have hhd : HdOk NB l bs bc m css s tl (mset (.s nm) (.b true) M) (i + 1) a3 W3 := zmh (l6 := qh0 s c M i nm tl []) hb3 rfl rfl hf3 hd3 hz3 hs3 hrd3 so
        have e2 : (i + 1).toNat = i.toNat + 1 := by omega
        refine qvz hk hn hbs hbc hcb hmb so hQ f (met := nm :: met) hhd hK3 ?_ ?_ (by omega) (zco htr) (by rw [e2]; omega)
        ·rw [e2]
         cases hm : hasB met nm with
         | true =>
          rw [hm] at hdr1
          simpa [hm] using hdr1
         | false =>
          rw [hm] at hdr1
          simp only [gnF, if_false]
          rw [← List.drop_drop, hdr1]
          rfl
        ·cases hm : hasB met nm with
         | true => simpa using hjl
         | false =>
          rw [hm] at hdr1
          have := congrArg List.length hdr1
          simp at this ⊢
          omega
       ·cases hR3
       ·cases hR3
      have pre3 := qah it3 it4 pre2
      refine wpIn_seq (wpIn_mono pre3 fun e a w hq => ?_)
      cases e with
      | normal =>
       refine wpIn_mono hq fun e a w hq => ?_
       cases e with
       | normal =>
        refine wpIn_mono hq fun e a w hq => ?_
        cases e with
        | normal => exact hq
        | _ => exact hq.elim
       | _ => exact hq.elim
      | _ => exact hq.elim
     ·exact hQ _ _ _ (.inl rfl) hd2 hz2 (.inr hJ)
    ·rcases hR with ⟨-, hnx⟩ | ⟨h, -⟩ | ⟨nm, tl, vl, -, -, h⟩
     ·exact ⟨.inl rfl, hQ _ _ _ (.inl rfl) hd' hz' (.inl ⟨N, by rw [← hend (qlg hnx _ _)]; exact hk.step _ _ _ _ hK (qac (l := l) (bs := bs) hb')⟩)⟩
     ·cases h
     ·cases h
    ·rcases hR with ⟨h, -⟩ | ⟨h, hil⟩ | ⟨nm, tl, vl, -, -, h⟩
     ·cases h
     ·injection h with h
      injection h with h
      have h : i' = 0 := Int.ofNat.inj h
      subst h
      have e0 : s.cs.length - i.toNat = 0 := by omega
      exact ⟨.inr rfl, hQ _ _ _ (.inr rfl) hd' hz' (.inl ⟨N, by rw [← hend (by rw [e0]; rfl)]; exact hk.step _ _ _ _ hK (qac (l := l) (bs := bs) hb')⟩)⟩
     ·cases h
   refine q5v (fun e a w hne hq => ?_) qzk (fun a w hp => ?_) (qah qzk z3v pre)
   ·rcases hq with ⟨rfl | rfl, hq⟩ <;> exact hq
   ·refine wpIn_seq (wpIn_block ?_)
    rw [zkb]
    refine q1j z3v (q5v (fun e a w hne hq => ?_) z3v (fun a w h => h) hp)
    rcases hq with ⟨rfl | rfl, hq⟩
    ·exact hq
    ·exact hq
  have e := zj9
  rw [← e] at hW
  exact hW
end
end
variable {css : List Value}
section
open Go.RowKit Go.Shelf
theorem zim : itC = seqs it1 (.block 0 (.loop itR)) := by kernel_rfl
theorem zbm : Tryz.f94.body = some itC := by kernel_rfl
def zf0 (l bs bc : Nat) : Cx := ⟨evl (qb q1v) [], fun _ => True, .no, 3, fun _ _ => True, fun _ _ _ _ => trivial, fun t => if t = 0 then yvV l else if t = 1 then ptV bs else ptV bc⟩
def sS : St := q2a iA [] 1 (q1p iA [] [] 1 sA')
theorem sS0 : lkA sS.t 0 = some (.sn 0 .any) := by kernel_rfl
theorem sS1 : lkA sS.t 1 = some (.sn 1 (.rd (.tok 0) qi [] none)) := by kernel_rfl
theorem sS2 : lkA sS.t 2 = some (.sn 2 .any) := by kernel_rfl
theorem sS4 : lkA sS.t 4 = some (.v (.tok 1) mpT [(0, 65)] []) := by kernel_rfl
theorem zog : lkA sS.t 14 = some (.v (.len (.fld (.tok 0) 0)) (.int .i64) [] []) := by kernel_rfl
theorem znt : lkA sS.t 15 = some (.v (.tok 2) (.int .i64) [] []) := by kernel_rfl
theorem zkq {n l bs bc : Nat} (hn : 1 ≤ n) {W0 : World} {s : So} {c0 : Ce} (hbs : bs < W0.heap.size) (hcb : bc < W0.heap.size) (hbc : bs ≠ bc) (hs : ∃ T, W0.heap[bs]? = some (.cells css.toArray T (0, 0))) (rd : Rd W0 (fun b => b < W0.heap.size ∧ b ≠ bc) (eS s) qi css) (so : s.ok) (hc : ∃ T, qo T = some qn ∧ W0.heap[bc]? = some (.cells (ceL c0).toArray T (0, 0))) (co : c0.ok) {R : World → Prop}
  (hK : ∀ m W1, But Nil W0 W1 → W0.heap.size ≤ m → m < W1.heap.size → ∃ K J, KOk l n bs bc m W0.heap.size css s c0 K J ∧ K 0 W1.heap.size W1 ∧ ∀ W, ((∃ N, K (yf s c0).length N W) ∨ J W) → R W) :
  CallsIn (FR none) n Tryz.prog 94 #[yvV l, ptV bs, ptV bc] W0 fun e W => (∃ v, e = .returned v) ∧ R W := by
 refine callsIn_of_wp Tryz.func94 zbm trivial ?_ rfl
 have hW : (seqs it1 (.block 0 (.loop itR))).wpIn (FR none) n Tryz.prog (bodyPost Tryz.prog Tryz.f94 fun e W => (∃ v, e = .returned v) ∧ R W) { tmps := #[yvV l, ptV bs, ptV bc] ++ Array.replicate (Tryz.f94.ntmps - (#[yvV l, ptV bs, ptV bc] : Array Value).size) Go.undef, defers := [] } W0 := by
  rw [Tryz.ntmps94]
  have hz0 : (#[yvV l, ptV bs, ptV bc] ++ Array.replicate (67 - (#[yvV l, ptV bs, ptV bc] : Array Value).size) Go.undef).size = 67 := by simp
  have z0 : (#[yvV l, ptV bs, ptV bc] ++ Array.replicate (67 - (#[yvV l, ptV bs, ptV bc] : Array Value).size) Go.undef)[0]? = some (yvV l) := by rw [Array.getElem?_append_left (by simp)]; rfl
  have z1 : (#[yvV l, ptV bs, ptV bc] ++ Array.replicate (67 - (#[yvV l, ptV bs, ptV bc] : Array Value).size) Go.undef)[1]? = some (ptV bs) := by rw [Array.getElem?_append_left (by simp)]; rfl
  have z2 : (#[yvV l, ptV bs, ptV bc] ++ Array.replicate (67 - (#[yvV l, ptV bs, ptV bc] : Array Value).size) Go.undef)[2]? = some (ptV bc) := by rw [Array.getElem?_append_left (by simp)]; rfl
  generalize #[yvV l, ptV bs, ptV bc] ++ Array.replicate (67 - (#[yvV l, ptV bs, ptV bc] : Array Value).size) Go.undef = tm at hz0 z0 z1 z2 ⊢
  refine q1j it1 (q5v (Q := fun _ _ _ => False) (fun e a w _ h => h.elim) it1 (fun a w h => h) ?_)
  have hbf : Bs (zf0 l bs bc).A (zf0 l bs bc).F W0 (pinned fun _ => none) (fun _ => none) W0 := ⟨fun x y b h => (nomatch h), fun x b h => (nomatch h), But.refl _ _, fun x b h => (nomatch h), fun _ _ => ⟨trivial, trivial⟩, fun x b h => (nomatch h), fun x b h => (nomatch h), Flo.no⟩
  refine qq4 (c := zf0 l bs bc) (z := 67) none n q9s (fun _ => Nat.zero_le _) q9g it1 (n := 1) (ann := qy3) (R := fun o => o = [.mp [], .i 0]) (B := fun _ _ => False) (ts := iA) (ms := []) (kill := []) (σk := sA') (l := [eS s]) (σ := sA) (by
   show (q4q Tryz.prog q1v qy3 3 _ _ _ _ _).go _ _ _ _
   rw [zf2]
   exact zon _) rfl hbf ?_ rfl hz0 (fun st p' W' a' hR hst hb' hf' hd' hz' => ?_) (fun p' W' a' hR hb' hd' hz' => by cases hR) (fun i' p' W' a' hR hb' hd' hz' => by cases hR)
  ·refine ⟨fun t x hx => ?_, fun k e he => by cases he⟩
   have hx := qx hx
   simp only [sA, gnM] at hx
   rcases hx with ⟨rfl, rfl⟩ | ⟨rfl, rfl⟩ | ⟨rfl, rfl⟩
   ·exact ⟨_, z0, rfl, trivial⟩
   ·exact ⟨_, z1, z90 (bc := bc) (NB := W0.heap.size) (s := s) rfl rfl rfl (fun x b h => by cases h) hbs hbc hs rd⟩
   ·exact ⟨_, z2, rfl, trivial⟩
  ·subst hR
   have hf' : SF ((zf0 l bs bc).at (qb q1v) [eS s, .mp [], .i 0]) sS p' W' a' := hf'
   have hbut : But Nil W0 W' := hb'.but.mono fun b h _ => by
    obtain ⟨x, hx⟩ := h
    cases hx
   obtain ⟨v0, t0, e0, -⟩ := hf'.t 0 _ sS0
   obtain ⟨v1, t1, e1, -⟩ := hf'.t 1 _ sS1
   obtain ⟨v2, t2, e2, -⟩ := hf'.t 2 _ sS2
   obtain ⟨v4, t4, h4⟩ := hf'.t 4 _ sS4
   obtain ⟨v14, t14, h14⟩ := hf'.t 14 _ zog
   obtain ⟨v15, t15, h15⟩ := hf'.t 15 _ znt
   subst e0 e1 e2
   obtain ⟨m, q4, rfl, l4, es, clock, h4e, h4h, h4l⟩ := z3i h4
   have h4e : D.mp [] = D.mp l4 := h4e
   injection h4e with h4e
   subst h4e
   obtain ⟨rfl, -⟩ := qdx (n := (s.cs.length : Nat)) (by
    show D.i (((eS s).fld 0).rs.length : Nat) = _
    rw [qer, q6i, List.length_map]) h14
   obtain ⟨rfl, hi⟩ := qdx (n := 0) rfl h15
   have hmb : W0.heap.size ≤ m := by
    rcases hb'.pin _ _ q4 with ⟨x, hx⟩ | h
    ·cases hx
    ·exact h
   have hmW : m < W'.heap.size := hb'.bd _ _ q4
   obtain ⟨K, J, hk, hK0, hfin⟩ := hK m W' hbut hmb hmW
   obtain ⟨-, hs', rd'⟩ := hk.rd _ _ _ hK0
   obtain ⟨T, hT, hcc⟩ := hc
   have hhd : HdOk W0.heap.size l bs bc m css s c0 [] 0 a' W' := ⟨hz', hd', t0, t1, t2, t4, t14, t15, hs', rd', ⟨T, hT, (hbut.block _ hcb (fun h => h)).trans hcc⟩, ⟨es, clock, h4h, h4l⟩, so, co, hi⟩
   refine wpIn_block (wpIn_loop_rounds (s.cs.length + 1) (qvz (c0 := c0) (j := 0) (met := []) hk hn hbs hbc hcb hmb so (fun e a W he hd hz hKJ => ?_) (s.cs.length + 1) hhd hK0 (by rfl) (Nat.zero_le _) (by omega) ze6 (by simp)))
   have key : bodyPost Tryz.prog Tryz.f94 (fun e W => (∃ v, e = .returned v) ∧ R W) .ret a W := ⟨hd, _, results_none rfl _ _ _, ⟨_, rfl⟩, hfin W hKJ⟩
   rcases he with rfl | rfl
   ·exact key
   ·exact key
 rw [← zim] at hW
 exact hW
end
section
open Go.RowKit Go.Shelf
def q31 (w : World) (bc m : Nat) (b : Nat) : Prop := b = bc ∨ b = m ∨ b = w.heap.size ∨ b = w.heap.size + 1
def KpN (w : World) (bc m N B : Nat) (W W' : World) : Prop := W.heap.size ≤ W'.heap.size ∧ ∀ b, b < B → N ≤ b ∨ q31 w bc m b → W'.heap[b]? = W.heap[b]?
structure ItOk (w : World) (a : Act) (n bs bc m : Nat) (ti tx : Tmp) (assign body : Code) (css : List Value) (s : So) (c0 : Ce) (I : Nat → Nat → World → Prop) (M : Nat → Nat → Nat → Act → World → Prop) (J : World → Prop) : Prop where
 rd : ∀ k N W, I k N W → w.heap.size + 2 ≤ N ∧ N ≤ W.heap.size ∧ (∃ T, W.heap[bs]? = some (.cells css.toArray T (0, 0))) ∧ Rd W (fun b => b < w.heap.size + 2 ∧ b ≠ bc) (eS s) qi css
 step : ∀ k N W W', I k N W → But (q31 w bc m) W W' → I k N W'
 assign : ∀ k N W x, (yf s c0)[k]? = some x → x.ok → I k N W → assign.wpIn (FR (some (w.heap.size + 1))) n Tryz.prog (Exit.then (fun a1 W1 => M k N W.heap.size a1 W1 ∧ KpN w bc m N W.heap.size W W1) (fun _ _ _ => False)) { tmps := (a.tmps.setIfInBounds ti (.string x.name)).setIfInBounds tx (.agg (ceL x.val).toArray), defers := [] } W
 mstep : ∀ k N B a1 W W', M k N B a1 W → But (q31 w bc m) W W' → M k N B a1 W'
 body : ∀ k N B a1 W, k < (yf s c0).length → M k N B a1 W → body.wpIn (FR (some (w.heap.size + 1))) n Tryz.prog (fun e a2 W2 => KpN w bc m N B W W2 ∧ (e = .normal ∧ I (k + 1) W2.heap.size W2 ∨ e = .ret ∧ J W2)) a1 W
 stop : ∀ W W', J W → But (q31 w bc m) W W' → J W'
theorem qhz {S : Nat → Prop} {W : World} {b : Nat} {o : Obj} (h : S b) : But S W (W.putObj b o) := by
 refine ⟨rfl, rfl, rfl, by simp, fun k hk hn => World.putObj_heap_other (fun e => hn (by rw [e]; exact h))⟩
theorem z78 (args : Array Value) (w : World) : (callFunc 94 args).run Tryz.prog w = .ok (.enter 94 args) w := by kernel_rfl
theorem z9b {g : Operand} {ti tx : Tmp} {assign body : Code} {w : World} {nn : Nat} (hn : 3 ≤ nn) {bs bc : Nat} {s : So} {c0 : Ce}
  (hg : a.eval g = .func (.func 94) #[] #[ptV bs, ptV bc]) (hbc : bs ≠ bc) (hs : ∃ T, w.heap[bs]? = some (.cells css.toArray T (0, 0))) (rd : Rd w (fun b => b ≠ bc) (eS s) qi css) (so : s.ok) (hc : ∃ T, qo T = some qn ∧ w.heap[bc]? = some (.cells (ceL c0).toArray T (0, 0))) (co : c0.ok)
  (hK : ∀ m W1, But Nil w W1 → w.heap.size + 2 ≤ m → m < W1.heap.size → ∃ I M J, ItOk w a (nn - 1 - 1) bs bc m ti tx assign body css s c0 I M J ∧ I 0 W1.heap.size W1 ∧
   (∀ N W, I (yf s c0).length N W → W.heap[w.heap.size]? = some (.deferred (some [])) → Q .normal { a with defers := { target := .collected w.heap.size, args := #[] } :: a.defers } W) ∧
   (∀ W, J W → W.heap[w.heap.size]? = some (.deferred (some [])) → Q .ret { a with defers := { target := .collected w.heap.size, args := #[] } :: a.defers } W)) :
  (Code.rangeFunc g #[ti, tx] assign body).wpIn (FR none) nn Tryz.prog Q a w := by
 refine wpIn_rangeFunc ?_
 intro fn hfn
 obtain ⟨rec, hrec⟩ : ∃ rec : LoopState → Option Code → Loop, rec = fun st pe => { state := st, pending := pe, fn, tmps := a.tmps, params := #[ti, tx], assign, body, defers := w.heap.size } := ⟨_, rfl⟩
 have hD : ∀ o, (((w.alloc (.deferred (some []))).alloc o).heap[w.heap.size]? = some (.deferred (some []))) := fun o => by
  rw [hget, if_neg (by simp), hget, if_pos rfl]
 have hL : ∀ o, (((w.alloc (.deferred (some []))).alloc o).heap[w.heap.size + 1]? = some o) := fun o => by
  rw [hget, if_pos (by simp)]
 refine ⟨w.heap.size + 1, [{ target := .collected w.heap.size, args := #[] }], (w.alloc (.deferred (some []))).alloc (.loop (rec .ready none)), { target := .fn (.func 94) #[ptV bs, ptV bc], args := #[yvV (w.heap.size + 1)] }, (w.alloc (.deferred (some []))).alloc (.loop (rec .ready none)), 94,
  #[yvV (w.heap.size + 1)] ++ #[ptV bs, ptV bc], (w.alloc (.deferred (some []))).alloc (.loop (rec .ready none)), ?_, ?_, ?_, ?_, fun _ => by omega, ?_⟩
 ·rw [hrec]; exact run_enterLoop_outer _ _ _ _ _
 ·simp only [resolve, hg]
  simp [go_sem]
 ·intro f' hf'; trivial
 ·simp only [invoke]
  exact z78 _ _
 ·show CallsIn (FR none) (nn - 1) Tryz.prog 94 #[yvV (w.heap.size + 1), ptV bs, ptV bc] ((w.alloc (.deferred (some []))).alloc (.loop (rec .ready none))) _
  have hsz : ((w.alloc (.deferred (some []))).alloc (.loop (rec .ready none))).heap.size = w.heap.size + 2 := by simp
  obtain ⟨Ts, hs⟩ := hs
  obtain ⟨Tc, hTc, hc⟩ := hc
  have hbs := qu hs
  have hcb := qu hc
  have hkeep : ∀ b o, w.heap[b]? = some o → ((w.alloc (.deferred (some []))).alloc (.loop (rec .ready none))).heap[b]? = some o := fun b o h => by
   have hb : b < w.heap.size := (Array.getElem?_eq_some_iff.1 h).1
   rw [hget, if_neg (by simp; omega), hget, if_neg (by omega)]
   exact h
  have hb1 : But Nil w ((w.alloc (.deferred (some []))).alloc (.loop (rec .ready none))) := ((But.refl _ _).alloc _).alloc _
  refine (zkq (l := w.heap.size + 1) (R := fun W => (∃ m I M J, ItOk w a (nn - 1 - 1) bs bc m ti tx assign body css s c0 I M J ∧ (∀ N W, I (yf s c0).length N W → W.heap[w.heap.size]? = some (.deferred (some [])) → Q .normal { a with defers := { target := .collected w.heap.size, args := #[] } :: a.defers } W) ∧ (∀ W, J W → W.heap[w.heap.size]? = some (.deferred (some [])) → Q .ret { a with defers := { target := .collected w.heap.size, args := #[] } :: a.defers } W) ∧ w.heap.size + 2 ≤ m ∧
    ((∃ N, I (yf s c0).length N W ∧ W.heap[w.heap.size + 1]? = some (.loop (rec .ready none)) ∧ W.heap[w.heap.size]? = some (.deferred (some []))) ∨ (J W ∧ W.heap[w.heap.size + 1]? = some (.loop (rec .done (some .ret))) ∧ W.heap[w.heap.size]? = some (.deferred (some [])))))) (by omega) (by omega) (by omega) hbc ⟨Ts, hkeep _ _ hs⟩ (Rd.keeps (fun b o hb h => ⟨hkeep b o h, by rw [hsz]; have : b < w.heap.size := (Array.getElem?_eq_some_iff.1 h).1; exact ⟨by omega, hb⟩⟩) _ rd) so ⟨Tc, hTc, hkeep _ _ hc⟩ co ?_).mono ?_
  ·intro m W1 hbut hm1 hm2
   rw [hsz] at hm1
   obtain ⟨I, M, J, hI, hI0, hq1, hq2⟩ := hK m W1 (hb1.trans_nil hbut) hm1 hm2
   refine ⟨fun k N W => I k N W ∧ W.heap[w.heap.size + 1]? = some (.loop (rec .ready none)) ∧ W.heap[w.heap.size]? = some (.deferred (some [])), fun W => J W ∧ W.heap[w.heap.size + 1]? = some (.loop (rec .done (some .ret))) ∧ W.heap[w.heap.size]? = some (.deferred (some [])), ⟨?_, ?_, ?_, ?_⟩, ⟨hI0, ?_, ?_⟩, ?_⟩
   ·rintro k N W ⟨h, -, -⟩
    obtain ⟨-, h2, h3, h4⟩ := hI.rd k N W h
    rw [hsz]
    exact ⟨h2, h3, h4⟩
   ·rintro k N W W' ⟨h, hl, hd⟩ hb
    refine ⟨hI.step k N W W' h (hb.mono fun b h _ => ?_), (hb.block _ (Array.getElem?_eq_some_iff.1 hl).1 (by omega)).trans hl, (hb.block _ (Array.getElem?_eq_some_iff.1 hd).1 (by omega)).trans hd⟩
    rcases h with h | h
    ·exact .inl h
    ·exact .inr (.inl h)
   ·-- one round
    rintro k N W x ⟨h, hl, hd⟩ hx hxo
    obtain ⟨hN0, hN, -, -⟩ := hI.rd k N W h
    have hy := run_yield (P := Tryz.prog) (args := #[.string x.name, .agg (ceL x.val).toArray]) hl (by rw [hrec]; rfl)
    rw [hrec] at hy
    have hz : ((#[ti, tx] : Array Tmp).zip #[Value.string x.name, .agg (ceL x.val).toArray]).foldl (fun tmps (x : Tmp × Value) => tmps.setIfInBounds x.1 x.2) a.tmps = (a.tmps.setIfInBounds ti (.string x.name)).setIfInBounds tx (.agg (ceL x.val).toArray) := by
     simp
    have ha := hI.assign k N W x hx hxo h
    rw [← hz] at ha
    refine ⟨fn, _, assign, body, hy, roundIn_of_wpIn hfn (wpIn_mono ha ?_)⟩
    rintro e a1 W1 h1
    cases e with
    | normal =>
     obtain ⟨hm, hk1⟩ := h1
     have hl1 : W1.heap[w.heap.size + 1]? = some (.loop (rec .ready none)) := (hk1.2 _ (Array.getElem?_eq_some_iff.1 hl).1 (.inr (.inr (.inr (.inr rfl))))).trans hl
     have hd1 : W1.heap[w.heap.size]? = some (.deferred (some [])) := (hk1.2 _ (Array.getElem?_eq_some_iff.1 hd).1 (.inr (.inr (.inr (.inl rfl))))).trans hd
     have hsz1 : w.heap.size + 1 < W1.heap.size := (Array.getElem?_eq_some_iff.1 hl1).1
     have hlb : (W1.putObj (w.heap.size + 1) (.loop { rec .ready none with state := .busy })).heap[w.heap.size + 1]? = some (.loop { rec .ready none with state := .busy }) := World.putObj_heap_same hsz1
     have hdb : (W1.putObj (w.heap.size + 1) (.loop { rec .ready none with state := .busy })).heap[w.heap.size]? = some (.deferred (some [])) := (World.putObj_heap_other (by omega)).trans hd1
     refine ⟨_, run_beginRound hl1 (by rw [hrec]), ?_⟩
     have hkl : k < (yf s c0).length := (gnH.1 hx).1
     refine wpIn_mono (hI.body k N W.heap.size a1 _ hkl (hI.mstep k N _ a1 _ _ hm (qhz (.inr (.inr (.inr rfl)))))) ?_
     have hold : ∀ {W3 : World} {o : Obj}, KpN w bc m N W.heap.size (W1.putObj (w.heap.size + 1) (.loop { rec .ready none with state := .busy })) W3 → ∀ b, b < W.heap.size → N ≤ b ∨ b = bc ∨ b = m → (W3.putObj (w.heap.size + 1) o).heap[b]? = W.heap[b]? := fun {W3 o} hk3 b hb hbN => by
      have hne : b ≠ w.heap.size + 1 := by omega
      have hh : N ≤ b ∨ q31 w bc m b := by
       rcases hbN with h | h | h
       ·exact .inl h
       ·exact .inr (.inl h)
       ·exact .inr (.inr (.inl h))
      rw [World.putObj_heap_other hne, hk3.2 b hb hh, World.putObj_heap_other hne, hk1.2 b hb hh]
     rintro e a3 W3 ⟨hk3, ⟨rfl, hi3⟩ | ⟨rfl, hj3⟩⟩
     ·have hl3 : W3.heap[w.heap.size + 1]? = some (.loop { rec .ready none with state := .busy }) := (hk3.2 _ (Array.getElem?_eq_some_iff.1 hl).1 (.inr (.inr (.inr (.inr rfl))))).trans hlb
      have hd3 : W3.heap[w.heap.size]? = some (.deferred (some [])) := (hk3.2 _ (Array.getElem?_eq_some_iff.1 hd).1 (.inr (.inr (.inr (.inl rfl))))).trans hdb
      have hsz3 : w.heap.size + 1 < W3.heap.size := (Array.getElem?_eq_some_iff.1 hl3).1
      refine ⟨_, _, run_endRound (P := Tryz.prog) none hl3, ?_, hold hk3, .inl ⟨rfl, ?_, ?_, (World.putObj_heap_other (by omega)).trans hd3⟩⟩
      ·have h1 := hk3.1
       have h2 := hk1.1
       simp at h1 ⊢
       omega
      ·have := hI.step _ _ _ _ hi3 (qhz (S := q31 w bc m) (b := w.heap.size + 1) (o := .loop { (rec .ready none) with state := if (none : Option Code).isNone then .ready else .done, pending := none }) (.inr (.inr (.inr rfl))))
       simpa using this
      ·have := World.putObj_heap_same (w := W3) (o := .loop { rec .ready none with state := .ready, pending := none }) hsz3
       rw [hrec] at this ⊢
       exact this
     ·have hl3 : W3.heap[w.heap.size + 1]? = some (.loop { rec .ready none with state := .busy }) := (hk3.2 _ (Array.getElem?_eq_some_iff.1 hl).1 (.inr (.inr (.inr (.inr rfl))))).trans hlb
      have hd3 : W3.heap[w.heap.size]? = some (.deferred (some [])) := (hk3.2 _ (Array.getElem?_eq_some_iff.1 hd).1 (.inr (.inr (.inr (.inl rfl))))).trans hdb
      have hsz3 : w.heap.size + 1 < W3.heap.size := (Array.getElem?_eq_some_iff.1 hl3).1
      refine ⟨_, _, run_endRound (P := Tryz.prog) (some .ret) hl3, ?_, hold hk3, .inr ⟨rfl, hI.stop _ _ hj3 (qhz (.inr (.inr (.inr rfl)))), ?_, (World.putObj_heap_other (by omega)).trans hd3⟩⟩
      ·have h1 := hk3.1
       have h2 := hk1.1
       simp at h1 ⊢
       omega
      ·have := World.putObj_heap_same (w := W3) (o := .loop { rec .ready none with state := .done, pending := some .ret }) hsz3
       rw [hrec] at this ⊢
       exact this
    | _ => exact h1.elim
   ·rintro W W' ⟨h, hl, hd⟩ hb
    exact ⟨hI.stop _ _ h hb.of_nil, (hb.block _ (Array.getElem?_eq_some_iff.1 hl).1 (fun h => h)).trans hl, (hb.block _ (Array.getElem?_eq_some_iff.1 hd).1 (fun h => h)).trans hd⟩
   ·exact (hbut.block _ (by rw [hsz]; omega) (fun h => h)).trans (hL _)
   ·exact (hbut.block _ (by rw [hsz]; omega) (fun h => h)).trans (hD _)
   ·intro W hW
    exact ⟨m, I, M, J, hI, hq1, hq2, hm1, hW⟩
  ·rintro e W2 ⟨⟨v, rfl⟩, m, I, M, J, hI, hq1, hq2, hm1, ⟨N, hi, hl, hd⟩ | ⟨hj, hl, hd⟩⟩
   ·refine ⟨none, _, by have := run_endLoop (P := Tryz.prog) hl (by rw [hrec]; simp); rw [hrec] at this; exact this, hq1 N _ (hI.step _ _ _ _ hi (qhz (.inr (.inr (.inr rfl))))) ((World.putObj_heap_other (by omega)).trans hd)⟩
   ·refine ⟨some .ret, _, by have := run_endLoop (P := Tryz.prog) hl (by rw [hrec]; simp); rw [hrec] at this; exact this, wpIn_ret (hq2 _ (hI.stop _ _ hj (qhz (.inr (.inr (.inr rfl))))) ((World.putObj_heap_other (by omega)).trans hd))⟩
end
section
open Go.RowKit Go.Shelf
attribute [local go_sem] Oper.semAt_some
section
variable {A0 A1 A2 A3 : Option Addr} {n0 n1 n2 n3 k0 k1 k2 k3 : Nat} {x4 x5 : Int}
theorem z25 (w : World) (s e : Nat) (T : TypeId) (hs : w.heap[s]? = some (.cells #[.slice A0 n0 k0, .slice A1 n1 k1, .slice A2 n2 k2, .slice A3 n3 k3, .int .i64 x4, .int .i64 x5] T (0, 0))) : Calls Tryz.prog 43 #[.pointer (some ⟨s, 0, none⟩), .pointer (some ⟨e, 0, none⟩)] w fun r w' => r = .returned (.func (.func 82) #[] #[.pointer (some ⟨w.heap.size + 1, 0, none⟩), .pointer (some ⟨w.heap.size, 0, none⟩), .pointer (some ⟨w.heap.size + 2, 0, none⟩)]) ∧ w' = ((w.alloc (.cells #[.pointer (some ⟨s, 0, none⟩)] 41)).alloc (.cells #[.pointer (some ⟨e, 0, none⟩)] 79)).alloc (.cells #[.slice A0 n0 k0, .slice A1 n1 k1, .slice A2 n2 k2, .slice A3 n3 k3, .int .i64 x4, .int .i64 x5] 27) := by
 have h0 := cell_of_row w s 0 _ T (0, 0) hs
 have h1 := cell_of_row w s 1 _ T (0, 0) hs
 have h2 := cell_of_row w s 2 _ T (0, 0) hs
 have h3 := cell_of_row w s 3 _ T (0, 0) hs
 have h4 := cell_of_row w s 4 _ T (0, 0) hs
 have h5 := cell_of_row w s 5 _ T (0, 0) hs
 have hlt := qu hs
 go_enter Tryz.func43, Tryz.ntmps43
 go_wp2_with fail
 exact bodyPost_ret (v := .func (.func 82) #[] #[.pointer (some ⟨w.heap.size + 1, 0, none⟩), .pointer (some ⟨w.heap.size, 0, none⟩), .pointer (some ⟨w.heap.size + 2, 0, none⟩)]) (by simp [results, Tryz.results43, go_sem]) rfl ⟨rfl, rfl⟩
theorem z37 {n : Nat} (w : World) (b3 b2 b5 e : Nat) (u : FrameMode) (h3 : w.cell? ⟨b3, 0, none⟩ = some (.pointer (some ⟨e, 0, none⟩))) (he : w.cell? ⟨e, 0, none⟩ = some (.int .i64 0)) : CallsDIn (FR none) n Tryz.prog 82 #[.pointer (some ⟨b3, 0, none⟩), .pointer (some ⟨b2, 0, none⟩), .pointer (some ⟨b5, 0, none⟩)] u w fun r u' w' => u' = u ∧ (r = .returned (.tuple #[]) ∧ w' = w) := by
 refine callsDIn_of_wp (F := FR none) Tryz.func82 rfl trivial ((wpIn_wide (n := n)).2 ?_)
 simp only [Tryz.ntmps82, List.size_toArray, List.length_cons, List.length_nil, Nat.reduceAdd, Nat.reduceSub, Array.replicate_succ, Array.replicate_zero, List.push_toArray, List.append_toArray, List.nil_append, List.cons_append]
 go_wp2_with fail
 exact ⟨rfl, _, results_none rfl _ _ _, rfl, rfl⟩
variable {m0 m1 m2 m3 l0 l1 l2 l3 : Nat} {y4 y5 : Int} {B0 B1 B2 B3 : Option Addr}
theorem z7l {n : Nat} (w : World) (b3 b2 b5 e s : Nat) (u : FrameMode) (E : Int) (h3 : w.cell? ⟨b3, 0, none⟩ = some (.pointer (some ⟨e, 0, none⟩))) (he : w.cell? ⟨e, 0, none⟩ = some (.int .i64 E)) (hE : ¬ E = 0) (h2 : w.cell? ⟨b2, 0, none⟩ = some (.pointer (some ⟨s, 0, none⟩)))
  (T T' : TypeId) (hs : w.heap[s]? = some (.cells #[.slice A0 n0 k0, .slice A1 n1 k1, .slice A2 n2 k2, .slice A3 n3 k3, .int .i64 x4, .int .i64 x5] T (0, 0))) (hw : w.heap[b5]? = some (.cells #[.slice B0 l0 m0, .slice B1 l1 m1, .slice B2 l2 m2, .slice B3 l3 m3, .int .i64 y4, .int .i64 y5] T' (0, 0)))
  (hn : b3 ≠ s ∧ b2 ≠ s ∧ b5 ≠ s) (hl0 : l0 ≤ k0) (hl1 : l1 ≤ k1) (hl2 : l2 ≤ k2) :
  CallsDIn (FR none) n Tryz.prog 82 #[.pointer (some ⟨b3, 0, none⟩), .pointer (some ⟨b2, 0, none⟩), .pointer (some ⟨b5, 0, none⟩)] u w fun r u' w' => u' = u ∧ (r = .returned (.tuple #[]) ∧ But (fun b => b = s) w w' ∧ w'.heap[s]? = some (.cells #[.slice A0 l0 k0, .slice A1 l1 k1, .slice A2 l2 k2, .slice A3 n3 k3, .int .i64 y4, .int .i64 x5] T (0, 0))) := by
 refine callsDIn_of_wp (F := FR none) Tryz.func82 rfl trivial ((wpIn_wide (n := n)).2 ?_)
 simp only [Tryz.ntmps82, List.size_toArray, List.length_cons, List.length_nil, Nat.reduceAdd, Nat.reduceSub, Array.replicate_succ, Array.replicate_zero, List.push_toArray, List.append_toArray, List.nil_append, List.cons_append]
 have s0 := cell_of_row w s 0 _ T (0, 0) hs
 have f0 := frz hs 0
 have w0 := cell_of_row w b5 0 _ T' (0, 0) hw
 go_wp2_with fail
 go_still_tail 9, (by kernel_rfl)
 change wpList _ _ _ _ _ w.drew
 go_wp2_with fail
 have hb1 : But (fun b => b = s) w ((w.setCell ⟨s, 0, none⟩ (.slice A0 l0 k0)).drew) := ((But.refl (fun b => b = s) w).setCell (p := ⟨s, 0, none⟩) (.inl rfl) _).drew
 have hs1 : ((w.setCell ⟨s, 0, none⟩ (.slice A0 l0 k0)).drew).heap[s]? = some (.cells #[.slice A0 l0 k0, .slice A1 n1 k1, .slice A2 n2 k2, .slice A3 n3 k3, .int .i64 x4, .int .i64 x5] T (0, 0)) := by
  show (w.setCell ⟨s, 0, none⟩ (.slice A0 l0 k0)).heap[s]? = _
  have := qo2 (i := 0) hs (.slice A0 l0 k0)
  simpa using this
 have hw1 : ((w.setCell ⟨s, 0, none⟩ (.slice A0 l0 k0)).drew).heap[b5]? = some (.cells #[.slice B0 l0 m0, .slice B1 l1 m1, .slice B2 l2 m2, .slice B3 l3 m3, .int .i64 y4, .int .i64 y5] T' (0, 0)) := zap hw hn.2.2
 have h21 : ((w.setCell ⟨s, 0, none⟩ (.slice A0 l0 k0)).drew).cell? ⟨b2, 0, none⟩ = some (.pointer (some ⟨s, 0, none⟩)) := hb1.cell hn.2.1 h2
 clear s0 f0 w0
 generalize (w.setCell ⟨s, 0, none⟩ (.slice A0 l0 k0)).drew = W1 at *
 have s0 : W1.cell? ⟨s, 1, none⟩ = some (.slice A1 n1 k1) := by have := cell_of_row W1 s 1 _ T (0, 0) hs1; simpa using this
 have f0 := frz hs1 1
 have w0 : W1.cell? ⟨b5, 1, none⟩ = some (.slice B1 l1 m1) := by have := cell_of_row W1 b5 1 _ T' (0, 0) hw1; simpa using this
 go_still_tail 9, (by kernel_rfl)
 change wpList _ _ _ _ _ W1.drew
 go_wp2_with fail
 have hb2 : But (fun b => b = s) w ((W1.setCell ⟨s, 1, none⟩ (.slice A1 l1 k1)).drew) := (hb1.setCell (p := ⟨s, 1, none⟩) (.inl rfl) _).drew
 have hs2 : ((W1.setCell ⟨s, 1, none⟩ (.slice A1 l1 k1)).drew).heap[s]? = some (.cells #[.slice A0 l0 k0, .slice A1 l1 k1, .slice A2 n2 k2, .slice A3 n3 k3, .int .i64 x4, .int .i64 x5] T (0, 0)) := by
  show (W1.setCell ⟨s, 1, none⟩ (.slice A1 l1 k1)).heap[s]? = _
  have := qo2 (i := 1) hs1 (.slice A1 l1 k1)
  simpa using this
 have hw2 : ((W1.setCell ⟨s, 1, none⟩ (.slice A1 l1 k1)).drew).heap[b5]? = some (.cells #[.slice B0 l0 m0, .slice B1 l1 m1, .slice B2 l2 m2, .slice B3 l3 m3, .int .i64 y4, .int .i64 y5] T' (0, 0)) := zap hw1 hn.2.2
 have h22 : ((W1.setCell ⟨s, 1, none⟩ (.slice A1 l1 k1)).drew).cell? ⟨b2, 0, none⟩ = some (.pointer (some ⟨s, 0, none⟩)) := hb2.cell hn.2.1 h2
 clear s0 f0 w0
 generalize (W1.setCell ⟨s, 1, none⟩ (.slice A1 l1 k1)).drew = W2 at *
 have s0 : W2.cell? ⟨s, 2, none⟩ = some (.slice A2 n2 k2) := by have := cell_of_row W2 s 2 _ T (0, 0) hs2; simpa using this
 have f0 := frz hs2 2
 have w0 : W2.cell? ⟨b5, 2, none⟩ = some (.slice B2 l2 m2) := by have := cell_of_row W2 b5 2 _ T' (0, 0) hw2; simpa using this
 go_still_tail 9, (by kernel_rfl)
 have w4 : W2.cell? ⟨b5, 4, none⟩ = some (.int .i64 y4) := by have := cell_of_row W2 b5 4 _ T' (0, 0) hw2; simpa using this
 have s4 : W2.cell? ⟨s, 4, none⟩ = some (.int .i64 x4) := by have := cell_of_row W2 s 4 _ T (0, 0) hs2; simpa using this
 have f4 := frz hs2 4
 have q1 : ¬ b5 = s := hn.2.2
 have q2 : ¬ b2 = s := hn.2.1
 change wpList _ _ _ _ _ W2.drew
 go_wp2_with fail
 refine ⟨rfl, _, results_none rfl _ _ _, rfl, ((hb2.setCell (p := ⟨s, 2, none⟩) (.inl rfl) _).setCell (p := ⟨s, 4, none⟩) (.inl rfl) _).drew, ?_⟩
 show ((W2.setCell ⟨s, 2, none⟩ (.slice A2 l2 k2)).setCell ⟨s, 4, none⟩ (.int .i64 y4)).heap[s]? = _
 have := qo2 (i := 4) (qo2 (i := 2) hs2 (.slice A2 l2 k2)) (.int .i64 y4)
 simpa using this
end
end
def zi : Ct := ⟨33, [.val (.st 26), .val (.st 28)], [(.row 66, true)], [], none, [], []⟩
theorem qsh : EnZ zi := fun _ _ => by kernel_rfl
variable {o : Option Nat} {d : D} {c1 : List Value} {j : Nat} {ds : List D}
section
section
variable {A : Nat → Prop} {p : qm} {w : World} {dep : List Nat}
theorem qo0 {E : TypeId} (h : Fl A p w dep o d (.row E) c1) : ∃ l B cap, d = .r l ∧ c1 = [.slice B l.length cap] ∧ l.length ≤ cap ∧ ∀ m, m ≤ l.length → Fl A p w dep o (.r (l.take m)) (.row E) [.slice B m cap] := by
 cases o with
 | none =>
  have h : Rd w (FFD A p dep) d (.row E) c1 := h
  cases d with
  | r l =>
   obtain ⟨E', te, B, cap, e1, hte, rfl, h1, h2, h3, h4⟩ := h
   injection e1 with e1
   subst e1
   refine ⟨l, B, cap, rfl, rfl, h1, fun m hm => ?_⟩
   have hl : (l.take m).length = m := by simp; omega
   refine ⟨E, te, B, cap, rfl, hte, by rw [hl], by rw [hl]; omega, by rw [hl]; omega, h3, q0n.2 fun j hj => ?_⟩
   rw [List.getElem_take]
   exact q0n.1 h4 j (by omega)
  | u => exact h.elim
  | i n => obtain ⟨k, e, -⟩ := h; cases e
  | b x => obtain ⟨e, -⟩ := h; cases e
  | s x => obtain ⟨e, -⟩ := h; cases e
  | a l => obtain ⟨T, fs, e, -⟩ := h; cases e
  | mp l => obtain ⟨K, V, kt, vt, g, es, clock, e, -⟩ := h; cases e
 | some pin =>
  rcases h with ⟨E', te, l, v, e1, hte, rfl, rfl, hv⟩ | ⟨K, V, kt, vt, l, g, es, clock, e, -⟩
  ·injection e1 with e1
   subst e1
   rcases hv with ⟨rfl, rfl⟩ | ⟨g, cap, cur, rfl, hg, hh, h1, h2, h3, h4, h5⟩
   ·exact ⟨[], none, 0, rfl, rfl, Nat.le_refl _, fun m hm => .inl ⟨E, te, [], _, rfl, hte, by simp, rfl, .inl ⟨by simp at hm; rw [hm], rfl⟩⟩⟩
   ·refine ⟨l, some ⟨g, 0, none⟩, cap, rfl, rfl, h1, fun m hm => ?_⟩
    have hl : (l.take m).length = m := by simp; omega
    refine .inl ⟨E, te, l.take m, _, rfl, hte, rfl, rfl, .inr ⟨g, cap, cur, by rw [hl], hg, hh, by rw [hl]; omega, h2, h3, by rw [hl]; omega, fun i hi => ?_⟩⟩
    obtain ⟨cs, q1, q2⟩ := h5 i (by omega)
    exact ⟨cs, q1, by rw [List.getElem_take]; exact q2⟩
  ·cases e
theorem qz5 (h : Fl A p w dep o d (.int .i64) c1) : ∃ n, d = .i n ∧ c1 = [.int .i64 n] ∧ yz .i64 n = true ∧ ∀ m, yz .i64 m = true → Fl A p w dep o (.i m) (.int .i64) [.int .i64 m] := by
 cases o with
 | none =>
  have h : Rd w (FFD A p dep) d (.int .i64) c1 := h
  cases d with
  | i n =>
   obtain ⟨k, e, rfl, hr⟩ := h
   injection e with e
   subst e
   exact ⟨n, rfl, rfl, hr, fun m hm => ⟨.i64, rfl, rfl, hm⟩⟩
  | u => exact h.elim
  | r l => obtain ⟨E, te, B, cap, e, -⟩ := h; cases e
  | b x => obtain ⟨e, -⟩ := h; cases e
  | s x => obtain ⟨e, -⟩ := h; cases e
  | a l => obtain ⟨T, fs, e, -⟩ := h; cases e
  | mp l => obtain ⟨K, V, kt, vt, g, es, clock, e, -⟩ := h; cases e
 | some pin =>
  rcases h with ⟨E', te, l, v, e1, -⟩ | ⟨K, V, kt, vt, l, g, es, clock, e, -⟩
  ·cases e1
  ·cases e
abbrev qpu : TypeId := match qi with
 | .st S => S
 | _ => 0
theorem qoc : flds qpu = some [zo, qk4, qz7, q3l, .int .i64, .int .i64] := by kernel_rfl
theorem q44 {own : List (Nat × Nat)} {t : Ty} {ts : List Ty} (h : Fls A p w dep own j ds (t :: ts) cs) : ∃ d ds' c1 c2, ds = d :: ds' ∧ cs = c1 ++ c2 ∧ Fl A p w dep (lkA own j) d t c1 ∧ Fls A p w dep own (j + 1) ds' ts c2 := by
 cases ds with
 | nil => cases h.1
 | cons d ds =>
  obtain ⟨t', ts', c1, c2, e, e2, h1, h2⟩ := h
  injection e with e1 e1'
  subst e1 e1'
  exact ⟨d, ds, c1, c2, rfl, e2, h1, h2⟩
theorem zcs {own : List (Nat × Nat)} (h : Fls A p w dep own j ds [] cs) : ds = [] ∧ cs = [] := by
 cases ds with
 | nil => exact ⟨rfl, h.2⟩
 | cons d ds =>
  obtain ⟨t', ts', c1, c2, e, -⟩ := h
  cases e
theorem qgg {own : List (Nat × Nat)} (h : Con A p w d qi own dep cs) : ∃ (l0 l1 l2 l3 : List D) (B0 B1 B2 B3 : Option Addr) (k0 k1 k2 k3 : Nat) (x4 x5 : Int), d = .a [.r l0, .r l1, .r l2, .r l3, .i x4, .i x5] ∧ cs = [.slice B0 l0.length k0, .slice B1 l1.length k1, .slice B2 l2.length k2, .slice B3 l3.length k3, .int .i64 x4, .int .i64 x5] ∧ (l0.length ≤ k0 ∧ l1.length ≤ k1 ∧ l2.length ≤ k2) ∧ yz .i64 x4 = true ∧
  ∀ m0 m1 m2 y4, m0 ≤ l0.length → m1 ≤ l1.length → m2 ≤ l2.length → yz .i64 y4 = true → Con A p w (.a [.r (l0.take m0), .r (l1.take m1), .r (l2.take m2), .r l3, .i y4, .i x5]) qi own dep [.slice B0 m0 k0, .slice B1 m1 k1, .slice B2 m2 k2, .slice B3 l3.length k3, .int .i64 y4, .int .i64 x5] := by
 have h : Con A p w d (.st qpu) own dep cs := h
 obtain ⟨fs, ds, hf, rfl, hl⟩ := h
 rw [qoc] at hf
 injection hf with hf
 subst hf
 obtain ⟨d0, ds, c0, cs, rfl, rfl, h0, hl⟩ := q44 hl
 obtain ⟨d1, ds, c1, cs, rfl, rfl, h1, hl⟩ := q44 hl
 obtain ⟨d2, ds, c2, cs, rfl, rfl, h2, hl⟩ := q44 hl
 obtain ⟨d3, ds, c3, cs, rfl, rfl, h3, hl⟩ := q44 hl
 obtain ⟨d4, ds, c4, cs, rfl, rfl, h4, hl⟩ := q44 hl
 obtain ⟨d5, ds, c5, cs, rfl, rfl, h5, hl⟩ := q44 hl
 obtain ⟨rfl, rfl⟩ := zcs hl
 obtain ⟨l0, B0, k0, rfl, rfl, q0, f0⟩ := qo0 h0
 obtain ⟨l1, B1, k1, rfl, rfl, q1, f1⟩ := qo0 h1
 obtain ⟨l2, B2, k2, rfl, rfl, q2, f2⟩ := qo0 h2
 obtain ⟨l3, B3, k3, rfl, rfl, q3, f3⟩ := qo0 h3
 obtain ⟨x4, rfl, rfl, q4, f4⟩ := qz5 h4
 obtain ⟨x5, rfl, rfl, q5, f5⟩ := qz5 h5
 refine ⟨l0, l1, l2, l3, B0, B1, B2, B3, k0, k1, k2, k3, x4, x5, rfl, rfl, ⟨q0, q1, q2⟩, q4, fun m0 m1 m2 y4 e0 e1 e2 e4 => ?_⟩
 show Con A p w _ (.st qpu) own dep _
 exact ⟨_, _, qoc, rfl, _, _, _, _, rfl, rfl, f0 m0 e0, _, _, _, _, rfl, rfl, f1 m1 e1, _, _, _, _, rfl, rfl, f2 m2 e2, _, _, _, _, rfl, rfl, h3, _, _, _, _, rfl, rfl, f4 y4 e4, _, _, _, _, rfl, rfl, h5, rfl, rfl⟩
end
def q4y : List D → Option (List D)
 | [e, s, w] => if e.int = 0 then some [s] else if (w.fld 0).rs.length ≤ (s.fld 0).rs.length ∧ (w.fld 1).rs.length ≤ (s.fld 1).rs.length ∧ (w.fld 2).rs.length ≤ (s.fld 2).rs.length then some [.a [.r ((s.fld 0).rs.take (w.fld 0).rs.length), .r ((s.fld 1).rs.take (w.fld 1).rs.length), .r ((s.fld 2).rs.take (w.fld 2).rs.length), s.fld 3, w.fld 4, s.fld 5]] else none
 | _ => none
theorem qdj (args : Array Value) (w : World) : (callFunc 82 args).run Tryz.prog w = .ok (.enter 82 args) w := by kernel_rfl
theorem qrk (args : Array Value) (w : World) : (callFunc 43 args).run Tryz.prog w = .ok (.enter 43 args) w := by kernel_rfl
def qdc : Ct := { f := 82, ar := [.val (.st 4242424244)], rs := [] }
theorem zgk {w : World} {P : Nat → Prop} (h : Rd w P d (.st 4242424244) cs) : False := by
 cases d with
 | a l =>
  obtain ⟨T, fs, e, hf, -⟩ := h
  injection e with e
  subst e
  cases hf
 | u => exact h
 | i n => obtain ⟨k, e, -⟩ := h; cases e
 | b x => cases h.1
 | s x => cases h.1
 | r l => obtain ⟨E, te, A, cap, e, -⟩ := h; cases e
 | mp l => obtain ⟨K, V, kt, vt, g, es, clock, e, -⟩ := h; cases e
theorem qwe : FOk qdc q4y :=
 ⟨qdj, (fun A F p w vs us ds outs hg _ _ _ hvl hargs => by
  obtain ⟨v, r, d, ds', e1, e2, ⟨cs, h1, h2⟩, -⟩ := hargs
  exact (zgk h2).elim), fun h => absurd rfl h⟩
end
variable {u : FrameMode}
section
def z4i (t : Nat) (σ : St) : Option (Nat × St) := match lkA σ.t t with
 | some (.ref k [] 0 ty) => if Ty.beq ty y8 && (σ.t.all fun e => q7r e.2) then some (k, ⟨jf σ.t t (.sn (VB + t) (.ref k [] 0 ty)), σ.m⟩) else none
 | _ => none
def zch (t : Nat) (σ : St) : Option (Nat × St) := match lkA σ.t t with
 | some (.sn q (.ref k [] 0 ty)) => if Nat.beq q (VB + t) && Ty.beq ty y8 then some (k, ⟨jf σ.t t (.ref k [] 0 ty), σ.m⟩) else none
 | _ => none
def qz0 (ks j : Nat) (es : Ent) (ee was : X) (σ : St) : St := ⟨q7s (q0u (ks * 16)) no σ.t, jf (q7n (q0u (ks * 16)) no σ.m) ks ⟨.call j 0 [ee, es.x, was], qi, es.own, es.dep⟩⟩
def z3u (k : Nat) (σ : St) : Bool := σ.t.any fun e => match lkA σ.t e.1 with
 | some x => x.has k
 | none => false
def qf0 (ct : Ct) (fn : Func) (j ks te : Nat) (was : X) : Nat → ResD → St → Tree := fun n r σ => match r with
 | .exit i => .bad (8000000 + i)
 | _ => match zch te σ with
  | some (ke, σ1) => (match lkA σ1.m ks, lkA σ1.m ke with
   | some es, some ee => if Ty.beq es.t qi && (Ty.beq ee.t y8 && (!zm (es.own.map (·.2) ++ es.dep) (ks * 16) && z3u ks σ1)) then .need [.ok j [ee.x, es.x, was]] (qap ct fn.results.toList n .ret (qz0 ks j es ee.x was σ1)) else .bad 9100000
   | _, _ => .bad 9200000)
  | none => .bad 9300000
def qym (o : Oper) : Option (Nat × Operand × Operand × Nat) := match o.op, o.dst, o.guard with
 | .call { callee := .value y, args := ⟨[x1, .tmp te]⟩, argTypes := _ }, some t, none => some (t, y, x1, te)
 | _, _, _ => none
def zlx (P : Program) (tbl : Tbl) (ann : Ann) (ct : Ct) (fn : Func) (j : Nat) (ops : List Oper) (post : Code) (n : Nat) (σ : St) : Tree := match ops with
 | [o1, ck, df] => (match zdt df, qym ck with
  | some t, some (t', y, x1, te) => if Nat.beq t t' && (o1.guard.isNone && (q76 ct.ar.length fn.ntmps o1 && (q76 ct.ar.length fn.ntmps ck && !Nat.beq t te))) then (match stepG P tbl (dsts [o1, ck, df]) σ o1 with
   | some (N, σ1) => (match opd σ1 [] y, opd σ1 [] x1, z4i te σ1 with
    | some (.fn f []), some (.ref ks [] 0 ty), some (_, σ2) => (match lkA σ1.m ks with
     | some es => if Nat.beq f 43 && (Ty.beq ty qi && (Ty.beq es.t qi && (Nat.blt ks ct.ar.length && X.upto n es.x))) then z0b N (toT P tbl ann ct.ar.length fn.ntmps post [] n ⟨jf σ2.t t .any, σ2.m⟩ (qf0 ct fn j ks te es.x)) else .bad 9400000
     | none => .bad 9500000)
    | _, _, _ => .bad 9600000)
   | none => .bad 9700000) else .bad 9800000
  | _, _ => .bad 9900000)
 | _ => .bad 9950000
def z6s (P : Program) (tbl : Tbl) (ann : Ann) (ct : Ct) (fn : Func) (j : Nat) (cd : Code) : Tree := match qe9 cd with
 | some (xs, _, ops, post) => q4q P tbl ann ct.ar.length fn.ntmps xs (q5o ct.ars) (qql ct) fun n r σ => match r with
  | .normal => zlx P tbl ann ct fn j ops post n σ
  | r => qap ct fn.results.toList n r σ
 | none => .bad 9990000
theorem qyv {n : Nat} {f : FuncId} {args : Array Value} {w : World} {R : Ending → FrameMode → World → Prop} (h : CallsDIn (FR none) n P f args u w R) : CallsD P f args u w R := fun c cs hu =>
 let ⟨e, u', w', fr, r, s, k, _, g⟩ := h.2 c cs hu (room_wide _)
 ⟨e, u', w', fr, r, comesIn_wide.1 s, k, g⟩
section
variable {c : Cx} {p : qm} {w w0 w' : World} {S0 : Nat → Prop} {a : Act} {σ σ' : St} {d : List Deferred} {z : Nat} {tbl : Tbl}
theorem z04 {t k : Nat} (h : z4i t σ = some (k, σ')) (hf : SF c σ p w a) : SF { c with snap := fun q => if q = VB + t then a.eval (.tmp t) else c.snap q } σ' p w a ∧ ∃ g, p (k * 16) = some g ∧ a.eval (.tmp t) = .pointer (some ⟨g, 0, none⟩) := by
 unfold z4i at h
 split at h
 ·rename_i k' ty hx
  split at h
  ·rename_i hok
   simp only [gnB, List.all_eq_true] at hok
   simp only [gnS] at h
   obtain ⟨rfl, rfl⟩ := h
   obtain ⟨v0, hv0, g0, hg0, e0, -⟩ := hf.t t _ hx
   have hev : a.eval (.tmp t) = v0 := by
    show a.tmps.getD t undef = v0
    simp [Array.getD_eq_getD_getElem?, hv0]
   refine ⟨⟨fun k y hy => ?_, fun k e he => hf.m k e he⟩, g0, hg0, hev.trans e0⟩
   by_cases hk : t = k
   ·subst hk
    have hy : lkA (jf σ.t t (.sn (VB + t) (.ref k' [] 0 ty))) t = some y := hy
    rw [q1g] at hy
    injection hy with hy
    subst hy
    obtain ⟨v, hv, hp⟩ := hf.t t _ hx
    refine ⟨v, hv, ?_, q9h _ v (hok.2 _ (qx hx)) hp⟩
    show v = if VB + t = VB + t then a.eval (.tmp t) else _
    rw [if_pos rfl]
    show v = a.tmps.getD t undef
    simp [Array.getD_eq_getD_getElem?, hv]
   ·have hy : lkA (jf σ.t t (.sn (VB + t) (.ref k' [] 0 ty))) k = some y := hy
    rw [q3e hk] at hy
    obtain ⟨v, hv, hp⟩ := hf.t k y hy
    exact ⟨v, hv, q9h y v (hok.2 _ (qx hy)) hp⟩
  ·cases h
 ·cases h
theorem z0g {t k : Nat} (h : zch t σ = some (k, σ')) (hf : SF c σ p w a) : SF c σ' p w a ∧ ∃ g, p (k * 16) = some g ∧ c.snap (VB + t) = .pointer (some ⟨g, 0, none⟩) := by
 unfold zch at h
 split at h
 ·rename_i q k' ty hx
  split at h
  ·rename_i hq
   simp only [gnB] at hq
   simp only [gnS] at h
   obtain ⟨rfl, rfl⟩ := h
   obtain ⟨v, hv, he, g, hg, e, hat⟩ := hf.t t _ hx
   have hq := gnN hq.1
   refine ⟨⟨fun k y hy => ?_, hf.m⟩, g, hg, by rw [← hq, ← he]; exact e⟩
   by_cases hk : t = k
   ·subst hk
    have hy : lkA (jf σ.t t (.ref k' [] 0 ty)) t = some y := hy
    rw [q1g] at hy
    injection hy with hy
    subst hy
    exact ⟨v, hv, g, hg, e, hat⟩
   ·have hy : lkA (jf σ.t t (.ref k' [] 0 ty)) k = some y := hy
    rw [q3e hk] at hy
    exact hf.t k y hy
  ·cases h
 ·cases h
theorem z5t {k x : Nat} {l : List Nat} (h : zm l k = false) (hx : x ∈ l) : q0u k x = false := by
 cases hq : q0u k x with
 | false => rfl
 | true =>
  exfalso
  have e : x = k := gnN hq
  rw [zy.2 (e ▸ hx)] at h
  cases h
theorem z10 {nn : Nat} (hkj : ∀ l, (qb tbl j) l = q4y l) {l : List D} {ks ke : Nat} {es ee : Ent} {was : X} {gs ge b5 b2 b3 : Nat} (hb : Bs c.A c.F w0 S0 p w) (hf : SF (c.at (qb tbl) l) σ p w a) (hes : lkA σ.m ks = some es) (hee : lkA σ.m ke = some ee) (ht : es.t = qi) (hte : ee.t = y8) (hown : zm (es.own.map (·.2) ++ es.dep) (ks * 16) = false)
  (hgs : p (ks * 16) = some gs) (hge : p (ke * 16) = some ge) (hsay : (X.ok j [ee.x, es.x, was]).says (evl (qb tbl) l))
  {m0 m1 m2 m3 l0 l1 l2 l3 : Nat} {y4 y5 : Int} {B0 B1 B2 B3 : Option Addr} {T2 T3 T' : TypeId} (h3 : w.heap[b3]? = some (.cells #[.pointer (some ⟨ge, 0, none⟩)] T3 (0, 0))) (h2 : w.heap[b2]? = some (.cells #[.pointer (some ⟨gs, 0, none⟩)] T2 (0, 0))) (hw : w.heap[b5]? = some (.cells #[.slice B0 l0 m0, .slice B1 l1 m1, .slice B2 l2 m2, .slice B3 l3 m3, .int .i64 y4, .int .i64 y5] T' (0, 0)))
  (hwas : ((was.ev (evl (qb tbl) l)).fld 0).rs.length = l0 ∧ ((was.ev (evl (qb tbl) l)).fld 1).rs.length = l1 ∧ ((was.ev (evl (qb tbl) l)).fld 2).rs.length = l2 ∧ (was.ev (evl (qb tbl) l)).fld 4 = .i y4) (hy4 : yz .i64 y4 = true) (hn : b3 ≠ gs ∧ b2 ≠ gs ∧ b5 ≠ gs) :
  CallsDIn (FR none) nn Tryz.prog 82 #[.pointer (some ⟨b3, 0, none⟩), .pointer (some ⟨b2, 0, none⟩), .pointer (some ⟨b5, 0, none⟩)] u w fun r u' w' => u' = u ∧ (r = .returned (.tuple #[]) ∧ Bs c.A c.F w0 S0 p w' ∧ SF (c.at (qb tbl) l) (qz0 ks j es ee.x was σ) p w' a) := by
 obtain ⟨g, cs, T, hg, hh, hT, hcon⟩ := hf.m ks _ hes
 rw [hgs] at hg
 injection hg with hg
 subst hg
 obtain ⟨g', cs', Te, hg', hh', hTe, hcon'⟩ := hf.m ke _ hee
 rw [hge] at hg'
 injection hg' with hg'
 subst hg'
 rw [hte] at hcon'
 obtain ⟨E, hE, hcE, -⟩ := Con.int (c := c) hcon'
 have hhE : w.cell? ⟨ge, 0, none⟩ = some (.int .i64 E) := by
  have := cell_of_row w ge 0 _ Te (0, 0) hh'
  rw [this]
  have e : cs' = #[.int .i64 E] := by
   obtain ⟨cs'⟩ := cs'
   have hcE : cs' = [.int .i64 E] := hcE
   rw [hcE]
  rw [e]
  rfl
 have h3c : w.cell? ⟨b3, 0, none⟩ = some (.pointer (some ⟨ge, 0, none⟩)) := by
  have := cell_of_row w b3 0 _ T3 (0, 0) h3
  simpa using this
 have h2c : w.cell? ⟨b2, 0, none⟩ = some (.pointer (some ⟨gs, 0, none⟩)) := by
  have := cell_of_row w b2 0 _ T2 (0, 0) h2
  simpa using this
 rw [ht] at hcon
 obtain ⟨r0, r1, r2, r3, A0, A1, A2, A3, k0, k1, k2, k3, x4, x5, eD, ecs, ⟨q0, q1, q2⟩, q4, hcut⟩ := qgg hcon
 have ecs : cs = #[.slice A0 r0.length k0, .slice A1 r1.length k1, .slice A2 r2.length k2, .slice A3 r3.length k3, .int .i64 x4, .int .i64 x5] := by
  obtain ⟨cs⟩ := cs
  have ecs : cs = _ := ecs
  rw [ecs]
 subst ecs
 have hE : ee.x.ev (evl (qb tbl) l) = .i E := hE
 have eD : es.x.ev (evl (qb tbl) l) = .a [.r r0, .r r1, .r r2, .r r3, .i x4, .i x5] := eD
 have eN : (X.call j 0 [ee.x, es.x, was]).ev (evl (qb tbl) l) = (((q4y [.i E, .a [.r r0, .r r1, .r r2, .r r3, .i x4, .i x5], was.ev (evl (qb tbl) l)]).getD []).getD 0 .u) := by
  show (((qb tbl j) [ee.x.ev (evl (qb tbl) l), es.x.ev (evl (qb tbl) l), was.ev (evl (qb tbl) l)]).getD []).getD 0 .u = _
  rw [hkj, hE, eD]
 have hsay : (q4y [.i E, .a [.r r0, .r r1, .r r2, .r r3, .i x4, .i x5], was.ev (evl (qb tbl) l)]).isSome = true := by
  have h : (D.b ((qb tbl j) [ee.x.ev (evl (qb tbl) l), es.x.ev (evl (qb tbl) l), was.ev (evl (qb tbl) l)]).isSome).tt = true := hsay
  rw [hkj, hE, eD] at h
  exact h
 have ownZ : ∀ x ∈ es.own.map (·.2), (q0u (ks * 16) x = false ∧ no x = false) := fun x hx => ⟨z5t hown (List.mem_append_left _ hx), rfl⟩
 have depZ : ∀ x ∈ es.dep, (q0u (ks * 16) x = false ∧ no x = false) := fun x hx => ⟨z5t hown (List.mem_append_right _ hx), rfl⟩
 -- what holds where only the store's own block has changed
 have key : ∀ w' cs', But (fun b => b = gs) w w' → w'.heap[gs]? = some (.cells cs' T (0, 0)) → Con c.A p w ((X.call j 0 [ee.x, es.x, was]).ev (evl (qb tbl) l)) qi es.own es.dep cs'.toList → Bs c.A c.F w0 S0 p w' ∧ SF (c.at (qb tbl) l) (qz0 ks j es ee.x was σ) p w' a := fun w' cs' hbut hnew hcn => by
  have hst : Stab c.A (q0u (ks * 16)) no p w p w' := by
   refine ⟨hbut.size, fun b hlt ha hfr => ⟨hbut.block b hlt fun e => hfr _ (e ▸ hgs), hfr⟩, fun x b _ hx => hx, fun x b hz hx => hbut.block b (hb.bd x b hx) fun e => ?_⟩
   have hxk := hb.inj x (ks * 16) b hx (e ▸ hgs)
   subst hxk
   simp [q0u] at hz
  refine ⟨⟨hb.inj, fun x b hx => Nat.lt_of_lt_of_le (hb.bd x b hx) hbut.size, hb.but.trans hbut fun b hb' _ => ?_, hb.pin, hb.new, hb.pa, fun x b hx => ?_, hb.flo.same fun k hk hfl => ?_⟩, ?_⟩
  ·have hb' : b = gs := hb'
   subst hb'
   exact hb.pin _ _ hgs
  ·by_cases e : b = gs
   ·subst e
    exact .inl ⟨_, _, hnew⟩
   ·exact (hb.obj x b hx).same (hbut.block b (hb.bd x b hx) e)
  ·refine hbut.block k hk fun e => ?_
   subst e
   obtain ⟨c0, c1, T0, te0, -, -, f3, -, f5, f6, f7, -⟩ := hb.flo _ hfl
   rw [hh] at f6
   injection f6 with f6
   injection f6 with f6 f6'
   subst f6'
   rw [hT, ht] at f3
   injection f3 with f3
   subst f3
   rw [← f6] at f7
   have hw6 : qi.w = 6 := by kernel_rfl
   unfold FlT at f5
   rw [hw6] at f5
   simp at f7
   rcases f5 with f5 | ⟨f5, -⟩
   ·omega
   ·have hn : nvB qi = false := by kernel_rfl
    rw [hn] at f5
    cases f5
  ·have hk := SF.keep hf hst
   refine ⟨hk.t, fun k e he => ?_⟩
   by_cases hks : ks = k
   ·subst hks
    have he : lkA (jf (q7n (q0u (ks * 16)) no σ.m) ks ⟨.call j 0 [ee.x, es.x, was], qi, es.own, es.dep⟩) ks = some e := he
    rw [q1g] at he
    injection he with he
    subst he
    exact ⟨gs, cs', T, hgs, hnew, by rw [← ht]; exact hT, hcn.kept hst depZ ownZ⟩
   ·have he : lkA (jf (q7n (q0u (ks * 16)) no σ.m) ks ⟨.call j 0 [ee.x, es.x, was], qi, es.own, es.dep⟩) k = some e := he
    rw [q3e hks] at he
    exact hk.m k e he
 by_cases hE0 : E = 0
 ·subst hE0
  refine (z37 w b3 b2 b5 ge u h3c hhE).mono ?_
  rintro r u' w' ⟨rfl, rfl, rfl⟩
  refine ⟨rfl, rfl, ?_⟩
  refine key w' _ (But.refl _ _) hh ?_
  rw [eN]
  have : q4y [.i 0, .a [.r r0, .r r1, .r r2, .r r3, .i x4, .i x5], was.ev (evl (qb tbl) l)] = some [.a [.r r0, .r r1, .r r2, .r r3, .i x4, .i x5]] := rfl
  rw [this]
  rw [← eD]
  exact hcon
 ·obtain ⟨e0, e1, e2, e4⟩ := hwas
  have hE0' : ¬ (D.i E).int = 0 := hE0
  have hif : l0 ≤ r0.length ∧ l1 ≤ r1.length ∧ l2 ≤ r2.length := by
   simp only [q4y, if_neg hE0', e0, e1, e2] at hsay
   split at hsay
   ·rename_i hh
    exact hh
   ·cases hsay
  refine (z7l w b3 b2 b5 ge gs u E h3c hhE hE0 h2c T T' hh hw hn (Nat.le_trans hif.1 q0) (Nat.le_trans hif.2.1 q1) (Nat.le_trans hif.2.2 q2)).mono ?_
  rintro r u' w' ⟨rfl, rfl, hbut, hnew⟩
  refine ⟨rfl, rfl, ?_⟩
  refine key w' _ hbut hnew ?_
  rw [eN]
  have : q4y [.i E, .a [.r r0, .r r1, .r r2, .r r3, .i x4, .i x5], was.ev (evl (qb tbl) l)] = some [.a [.r (r0.take l0), .r (r1.take l1), .r (r2.take l2), .r r3, .i y4, .i x5]] := by
   simp only [q4y, if_neg hE0', e0, e1, e2, e4]
   exact if_pos hif
  rw [this]
  exact hcut l0 l1 l2 y4 hif.1 hif.2.1 hif.2.2 hy4
end
end
theorem qun {c : Cx} {w : World} {k : Nat} (h : z3u k σ = true) (hf : SF c σ p w a) : ∃ g, p (k * 16) = some g ∧ c.At k g := by
 unfold z3u at h
 obtain ⟨e, -, he⟩ := List.any_eq_true.1 h
 split at he
 ·rename_i x hx
  obtain ⟨v, -, hp⟩ := hf.t e.1 x hx
  exact AV.has_ok x he hp
 ·cases he
theorem qvv {o : Oper} {t te : Nat} {y x1 : Operand} (h : qym o = some (t, y, x1, te)) : o.dst = some t ∧ o.guard = none ∧ ∃ tys, o.op = .call { callee := .value y, args := #[x1, .tmp te], argTypes := tys } := by
 unfold qym at h
 split at h
 ·rename_i y' x1' te' tys t' ho hd hg
  simp only [gnS] at h
  obtain ⟨rfl, rfl, rfl, rfl⟩ := h
  exact ⟨hd, hg, tys, ho⟩
 ·cases h
variable {ct : Ct} {tbl : Tbl}
theorem z17 (ann : Ann) (fn : Func) (j : Nat) (cd : Code) (htb : q02 tbl) (hkj : ∀ l, (qb tbl j) l = q4y l) (hf : Tryz.prog.funcs[ct.f]? = some fn) (hb : fn.body = some cd) (hsz : ct.ar.length ≤ fn.ntmps) (hnp : q7q tbl = true)
  {outs : List D} (h : (z6s Tryz.prog tbl ann ct fn j cd).go (qb tbl) (fun o => o = outs) ds fun _ _ => False) (hfm0 : FlF ct tbl ds := by exact FlF.none rfl) : FAt ct ds outs := by
 intro A F p w vs us hfl hfo hpre hvl hargs
 obtain ⟨hwf, hdl, -⟩ := hargs.wf
 rw [all_map] at hwf hdl
 have hfm := hfm0 F hfl
 obtain ⟨hb0, hsf⟩ := qv6 (tbl := tbl) (fn := fn) hsz hfo hpre hvl hargs
 refine calls_of_wp_defers hf hb ?_
 generalize hR : (fun (e : Ending) (w' : World) => (∃ T, ct.pn = some T ∧ outs = [.u] ∧ e = .panicked (q89 T) ∧ But (pinned p) w w') ∨ ∃ rs p', e = .returned (qfg rs) ∧ Bs A F w (pinned p) p' w' ∧ q9b A p' w' ct.rs ct.ar.length rs (outs.take ct.rs.length) ∧ q2v A p p' w' ct.all (outs.drop ct.rs.length)) = R
 have hfin : ∀ {c : Cx} {σ' : St} {l' : List D} {p' : qm} {w' : World} {a' : Act} {n' : Nat} {B' : Nat → List D → Prop}, c.A = A → c.F = F → c.At = (fun k g => (k < ct.ar.length ∨ VB ≤ k) → p (k * 16) = some g) → (∀ i, i < VB → c.snap i = (vs ++ us).getD i undef) → Bs c.A c.F w (pinned p) p' w' → SF (c.at (qb tbl) l') σ' p' w' a' → (qap ct fn.results.toList n' .ret σ').go (qb tbl) (fun o => o = outs) l' B' → Leaves Tryz.prog fn a'.tmps R [] .returning w' := by
  intro c σ' l' p' w' a' n' B' h1 hF h2 h3 hb' hf' hgo'
  simp only [qap] at hgo'
  split at hgo'
  ·rename_i xs hx
   obtain ⟨rs, p2, e1, e2, e3, e4⟩ := z5e h1 h2 h3 hargs hb' hf' hx
   have ho : X.evs (evl (qb tbl) l') xs = outs := hgo'
   refine ⟨_, e1, ?_⟩
   rw [hF] at e2
   rw [← hR]
   exact .inr ⟨rs, p2, rfl, e2, by rw [← ho]; exact e3, by rw [← ho]; exact e4⟩
  ·exact hgo'.elim
 unfold z6s at h
 split at h
 ·rename_i xs id ops post hcut
  refine qzc hcut (z6c (c := cxA tbl ct A F p vs us ds) (S0 := pinned p) (w0 := w) (d := []) (z := fn.ntmps) htb hfm hnp xs h hdl hb0 hsf rfl (by simp; omega) fun n' r σ' l' B' p' w' a' hl' hgo' hb' hf' hd' hz' => ?_)
  cases r with
  | exit i => exact hgo'.elim
  | ret =>
   show Leaves Tryz.prog fn a'.tmps R a'.defers .returning w'
   rw [hd']
   exact hfin (c := cxA tbl ct A F p vs us ds) rfl rfl rfl (fun _ _ => rfl) hb' hf' hgo'
  | normal =>
   show (Code.seq (.region id ops.toArray false) post).wp Tryz.prog _ a' w'
   rcases ops with _ | ⟨o1, _ | ⟨ck, _ | ⟨df, _ | ⟨x, l⟩⟩⟩⟩
   ·exact (show False from hgo').elim
   ·exact (show False from hgo').elim
   ·exact (show False from hgo').elim
   ·simp only [zlx] at hgo'
    split at hgo'
    ·rename_i t t' y x1 te hdt hck
     split at hgo'
     ·rename_i hok
      simp only [gnB, Option.isNone_iff_eq_none, Bool.not_eq_true'] at hok
      obtain ⟨htt, hg1, hd1, hd2, htte⟩ := hok
      obtain rfl := gnN htt
      have htte : t ≠ te := fun e => by rw [e, Nat.beq_refl] at htte; cases htte
      obtain ⟨hck1, hck2, tys, hck3⟩ := qvv hck
      have htz : t < fn.ntmps := by
       unfold q76 at hd2
       rw [hck1] at hd2
       simp only [gnB, Nat.blt_eq] at hd2
       exact hd2.1
      split at hgo'
      ·rename_i N σ1 hst
       split at hgo'
       ·rename_i f ks ty ke σ2 hy hx1 hhold
        split at hgo'
        ·rename_i es hes
         split at hgo'
         ·rename_i hok2
          simp only [gnB, Nat.blt_eq] at hok2
          obtain ⟨hff, hty, het, hks, hup⟩ := hok2
          obtain rfl := gnN hff
          have het := (Ty.beq_iff _ _).1 het
          obtain ⟨hN, hgo2⟩ := qry hgo'
          refine wp_seq (wp_region ?_)
          have hw0 : Region.wanted o1 (yielded ([o1, ck, df].toArray) a'.tmps) = true := by simp [Region.wanted, hg1]
          have hstep := qp0 (c := (cxA tbl ct A F p vs us ds).at (qb tbl) l') (ops := [o1, ck, df].toArray) (ds := dsts [o1, ck, df]) (Q := Exit.then (post.wp Tryz.prog (bodyPostD Tryz.prog fn R)) (bodyPostD Tryz.prog fn R)) (K := wpOps Tryz.prog [o1, ck, df].toArray (Exit.then (post.wp Tryz.prog (bodyPostD Tryz.prog fn R)) (bodyPostD Tryz.prog fn R)) [1, 2]) htb ⟨rfl, hfm⟩ rfl hb' hf' hd' hz' hd1 hst hN (q49 hnp) fun a1 w1 hpost => ?_
          ·rw [if_pos hw0] at hstep
           show wpOps Tryz.prog [o1, ck, df].toArray _ [0, 1, 2] a' w'
           simp only [wpOps, List.getElem?_toArray, List.getElem?_cons_zero]
           rw [if_pos hw0]
           exact .inl hstep.2
          ·obtain ⟨p1, hb1, hf1, hda1, hz1⟩ := hpost
           obtain ⟨vy, hvy, hvs⟩ := qq hf1 rfl hy
           have hvs : vy = [] := hvs
           subst hvs
           obtain ⟨gs, hgs, hvx, hat⟩ := qq hf1 rfl hx1
           obtain ⟨hf2, ge, hge, hve⟩ := z04 hhold hf1
           obtain ⟨gs', cs, T, hgs', hh, hT, hcon⟩ := hf1.m ks _ hes
           rw [hgs] at hgs'
           injection hgs' with hgs'
           subst hgs'
           rw [het] at hcon
           obtain ⟨r0, r1, r2, r3, A0, A1, A2, A3, k0, k1, k2, k3, x4, x5, eD, ecs, -, q4, -⟩ := qgg hcon
           have ecs : cs = #[.slice A0 r0.length k0, .slice A1 r1.length k1, .slice A2 r2.length k2, .slice A3 r3.length k3, .int .i64 x4, .int .i64 x5] := by
            obtain ⟨cs⟩ := cs
            have ecs : cs = _ := ecs
            rw [ecs]
           subst ecs
           generalize hcx : ({ cxA tbl ct A F p vs us ds with snap := fun q => if q = VB + te then a1.eval (.tmp te) else (cxA tbl ct A F p vs us ds).snap q } : Cx) = cx
           have hcA : cx.A = A := by rw [← hcx]; rfl
           have hcF : cx.F = F := by rw [← hcx]; rfl
           have hcAt : cx.At = (fun k g => (k < ct.ar.length ∨ VB ≤ k) → p (k * 16) = some g) := by rw [← hcx]; rfl
           have hcs : ∀ i, i < VB → cx.snap i = (vs ++ us).getD i undef := fun i hi => by
            rw [← hcx]
            show (if i = VB + te then _ else _) = _
            rw [if_neg (by omega)]
            rfl
           have hct : cx.snap (VB + te) = .pointer (some ⟨ge, 0, none⟩) := by
            rw [← hcx, ← hve]
            show (if VB + te = VB + te then _ else _) = _
            rw [if_pos rfl]
           have hlo : cx.lo = ct.ar.length := by rw [← hcx]; rfl
           have hf3 : SF (cx.at (qb tbl) l') σ2 p1 w1 a1 := by rw [← hcx]; exact hf2
           have hb3 : Bs cx.A cx.F w (pinned p) p1 w1 := by rw [hcA, hcF]; exact hb1
           have hpg : p (ks * 16) = some gs := hat (.inl hks)
           clear hcx
           -- the call of keep
           have hgl := qu hh
           obtain ⟨w2, hw2⟩ : ∃ w2, w2 = ((w1.alloc (.cells #[.pointer (some ⟨gs, 0, none⟩)] 41)).alloc (.cells #[.pointer (some ⟨ge, 0, none⟩)] 79)).alloc (.cells #[.slice A0 r0.length k0, .slice A1 r1.length k1, .slice A2 r2.length k2, .slice A3 r3.length k3, .int .i64 x4, .int .i64 x5] 27) := ⟨_, rfl⟩
           have hs2 : w2.heap.size = w1.heap.size + 3 := by rw [hw2]; simp
           have hst1 := q38 (A := cx.A) hb3.bd (.cells #[.pointer (some ⟨gs, 0, none⟩)] 41)
           have hbs1 := q7z hb3 (.cells #[.pointer (some ⟨gs, 0, none⟩)] 41)
           have hst2 := q38 (A := cx.A) hbs1.bd (.cells #[.pointer (some ⟨ge, 0, none⟩)] 79)
           have hbs2 := q7z hbs1 (.cells #[.pointer (some ⟨ge, 0, none⟩)] 79)
           have hst3 := q38 (A := cx.A) hbs2.bd (.cells #[.slice A0 r0.length k0, .slice A1 r1.length k1, .slice A2 r2.length k2, .slice A3 r3.length k3, .int .i64 x4, .int .i64 x5] 27)
           have hbs3 := q7z hbs2 (.cells #[.slice A0 r0.length k0, .slice A1 r1.length k1, .slice A2 r2.length k2, .slice A3 r3.length k3, .int .i64 x4, .int .i64 x5] 27)
           have hfk := SF.same (c := cx.at (qb tbl) l') hst3 (SF.same (c := cx.at (qb tbl) l') hst2 (SF.same (c := cx.at (qb tbl) l') hst1 hf3))
           have hh2 : w2.heap[w1.heap.size]? = some (.cells #[.pointer (some ⟨gs, 0, none⟩)] 41 (0, 0)) := by
            rw [hw2]
            exact q1x (q1x (jp rfl))
           have hh3 : w2.heap[w1.heap.size + 1]? = some (.cells #[.pointer (some ⟨ge, 0, none⟩)] 79 (0, 0)) := by
            rw [hw2]
            exact q1x (jp (by simp))
           have hh5 : w2.heap[w1.heap.size + 2]? = some (.cells #[.slice A0 r0.length k0, .slice A1 r1.length k1, .slice A2 r2.length k2, .slice A3 r3.length k3, .int .i64 x4, .int .i64 x5] 27 (0, 0)) := by
            rw [hw2]
            exact jp (by simp)
           rw [← hw2] at hbs3 hfk
           obtain ⟨V, hV⟩ : ∃ V, V = Value.func (.func 82) #[] #[.pointer (some ⟨w1.heap.size + 1, 0, none⟩), .pointer (some ⟨w1.heap.size, 0, none⟩), .pointer (some ⟨w1.heap.size + 2, 0, none⟩)] := ⟨_, rfl⟩
           have hfp : SF (cx.at (qb tbl) l') ⟨jf σ2.t t .any, σ2.m⟩ p1 w2 (a1.put (some t) V) := hfk.put (t := t) (by rw [hz1]; exact htz) trivial
           have hmain : post.wp Tryz.prog (bodyPostD Tryz.prog fn R) { a1.put (some t) V with defers := { target := .fn (.func 82) #[.pointer (some ⟨w1.heap.size + 1, 0, none⟩), .pointer (some ⟨w1.heap.size, 0, none⟩), .pointer (some ⟨w1.heap.size + 2, 0, none⟩)], args := #[] } :: (a1.put (some t) V).defers } w2 := by
            refine (wpIn_wide (n := 0)).1 ?_
            refine qkt none 0 (c := cx) (S0 := pinned p1) (w0 := w2) (d := [{ target := .fn (.func 82) #[.pointer (some ⟨w1.heap.size + 1, 0, none⟩), .pointer (some ⟨w1.heap.size, 0, none⟩), .pointer (some ⟨w1.heap.size + 2, 0, none⟩)], args := #[] }]) (z := fn.ntmps) htb (by rw [hcF]; exact hfm) post (by rw [hlo]; exact hgo2) hl' hbs3.anew (SF.mk (fun t x hx => hfp.t t x hx) (fun k e he => hfp.m k e he)) (by show _ :: a1.defers = _; rw [hda1]) (by simp only [Act.put, Array.size_setIfInBounds]; exact hz1) (q49 hnp) (qgu hnp) fun n2 r σ3 l2 B2 p2 w3 a3 hl2 hpre2 _ hgo3 hb4 hf4 hd4 hz4 => ?_
            have hend : (qf0 ct fn j ks te es.x n2 .ret σ3).go (qb tbl) (fun o => o = outs) l2 B2 → Leaves Tryz.prog fn a3.tmps R a3.defers .returning w3 := fun hgo3 => by
             simp only [qf0] at hgo3
             split at hgo3
             ·rename_i ke' σ4 hfree
              split at hgo3
              ·rename_i es' ee' hes' hee'
               split at hgo3
               ·rename_i hok3
                simp only [gnB] at hok3
                have h31 := hok3.1
                have h32 := hok3.2.1
                have h33 : zm (es'.own.map (·.2) ++ es'.dep) (ks * 16) = false := by simpa using hok3.2.2.1
                have h34 := hok3.2.2.2
                obtain ⟨⟨hsay, -⟩, hgo4⟩ := hgo3
                obtain ⟨hf5, ge', hge', hsn⟩ := z0g hfree hf4
                have hsn : cx.snap (VB + te) = .pointer (some ⟨ge', 0, none⟩) := hsn
                rw [hct] at hsn
                injection hsn with hsn
                injection hsn with hsn
                injection hsn with hsn
                subst hsn
                obtain ⟨g3, hg3, hat3⟩ := qun h34 hf5
                have hat3 : cx.At ks g3 := hat3
                rw [hcAt] at hat3
                have hat3 := hat3 (.inl hks)
                rw [hpg] at hat3
                injection hat3 with hat3
                subst hat3
                have fr : ∀ b, w1.heap.size ≤ b → q5j p1 b := fun b hb x hx => by
                 have := hb3.bd x b hx
                 omega
                have k2 := (hb4.stays (b := w1.heap.size) (by omega) (fr _ (by omega))).1.trans hh2
                have k3 := (hb4.stays (b := w1.heap.size + 1) (by omega) (fr _ (by omega))).1.trans hh3
                have k5 := (hb4.stays (b := w1.heap.size + 2) (by omega) (fr _ (by omega))).1.trans hh5
                have ew : es.x.ev (evl (qb tbl) l2) = .a [.r r0, .r r1, .r r2, .r r3, .i x4, .i x5] := by
                 refine Eq.trans (X.ev_upto (n := n') (e := evl (qb tbl) l2) (e' := evl (qb tbl) l') (fun k hk => ?_) rfl es.x hup) eD
                 show l2.getD k .u = l'.getD k .u
                 rw [← hpre2, gnG, gnG, List.getElem?_take_of_lt hk]
                have hcal := z10 (nn := 0) (c := cx) (w0 := w2) (S0 := pinned p1) (u := .returning) hkj hb4 hf5 hes' hee' ((Ty.beq_iff _ _).1 h31) ((Ty.beq_iff _ _).1 h32) h33 hg3 hge' hsay k3 k2 k5 (by rw [ew]; exact ⟨rfl, rfl, rfl, rfl⟩) q4 ⟨by omega, by omega, by omega⟩
                rw [hd4]
                refine leaves_cons (by simp) (f := 82) (args := #[.pointer (some ⟨w1.heap.size + 1, 0, none⟩), .pointer (some ⟨w1.heap.size, 0, none⟩), .pointer (some ⟨w1.heap.size + 2, 0, none⟩)]) (by simp [invoke, qdj]) (qyv (n := 0) (hcal.mono ?_))
                rintro e' u' w4 ⟨rfl, rfl, hb5, hf6⟩
                exact hfin (c := cx) hcA hcF hcAt hcs (hbs3.comp hb5) hf6 hgo4
               ·exact (show False from hgo3).elim
              ·exact (show False from hgo3).elim
             ·exact (show False from hgo3).elim
            cases r with
            | exit i => exact (show False from hgo3).elim
            | ret => exact hend hgo3
            | normal => exact hend hgo3
           have hevt : (a1.put (some t) V).eval (.tmp t) = V := by
            show (a1.tmps.setIfInBounds t V).getD t undef = V
            rw [Array.getD_eq_getD_getElem?, Array.getElem?_setIfInBounds_self_of_lt (by omega)]
            rfl
           obtain ⟨hgd, hdw⟩ := z5q (a := a1.put (some t) V) (w := w2) (K := wpOps Tryz.prog [o1, ck, df].toArray (Exit.then (post.wp Tryz.prog (bodyPostD Tryz.prog fn R)) (bodyPostD Tryz.prog fn R)) []) (Q := Exit.then (post.wp Tryz.prog (bodyPostD Tryz.prog fn R)) (bodyPostD Tryz.prog fn R)) hdt (hevt.trans hV) hmain
           have hw1 : Region.wanted ck (yielded ([o1, ck, df].toArray) a1.tmps) = true := by simp [Region.wanted, hck2]
           have hw2' : Region.wanted df (yielded ([o1, ck, df].toArray) (a1.put (some t) V).tmps) = true := by simp [Region.wanted, hgd]
           show wpOps Tryz.prog [o1, ck, df].toArray _ [1, 2] a1 w1
           simp only [wpOps, List.getElem?_toArray, List.getElem?_cons_succ, List.getElem?_cons_zero]
           rw [if_pos hw1]
           refine .inl ?_
           have hrun : (execOp a1.eval ck).run Tryz.prog w1 = .ok (.enter 43 #[.pointer (some ⟨gs, 0, none⟩), .pointer (some ⟨ge, 0, none⟩)]) w1 := by
            have hen := qrk #[.pointer (some ⟨gs, 0, none⟩), .pointer (some ⟨ge, 0, none⟩)] w1
            have hvx : a1.eval x1 = .pointer (some ⟨gs, 0, none⟩) := hvx
            generalize a1.eval = r at *
            simp [execOp, hck3, resolve, Deferred.ofValue, hvy, hvx, hve, invoke, hen]
           unfold Oper.wp
           rw [hrun]
           show Calls Tryz.prog 43 _ w1 _
           refine (z25 w1 gs ge T hh).mono ?_
           rintro e w2' ⟨rfl, rfl⟩
           show (if Region.wanted df (yielded ([o1, ck, df].toArray) (a1.put ck.dst _).tmps) = true then _ else _)
           rw [hck1, ← hV, ← hw2, if_pos hw2']
           exact .inl hdw
         ·exact hgo'.elim
        ·exact hgo'.elim
       ·exact hgo'.elim
      ·exact hgo'.elim
     ·exact hgo'.elim
    ·exact hgo'.elim
   ·exact (show False from hgo').elim
 ·exact h.elim
theorem z7m {rs : List ResultVar} {n : Nat} {r : ResD} {S : Nat → List D → Option (List D)} {R' : List D → Prop} {l : List D} {B' : Nat → List D → Prop} (h : (qap ct rs n r σ).go S R l B) (hR : ∀ o, R o → R' o) : (qap ct rs n r σ).go S R' l B' := by
 cases r with
 | exit i => exact h.elim
 | normal =>
  simp only [qap] at h ⊢
  split at h
  ·exact hR _ h
  ·exact h.elim
 | ret =>
  simp only [qap] at h ⊢
  split at h
  ·exact hR _ h
  ·exact h.elim
variable {S0 : Nat → Prop}
theorem Bs.fr {A : Nat → Prop} {F F' : Flr} {w0 w : World} (h : Bs A F w0 S0 p w) (h1 : F'.fl = F.fl) (h2 : F'.mx = F.mx) (h3 : ∀ b, w0.heap.size ≤ b → F'.fr b) : Bs A F' w0 S0 p w := ⟨h.inj, h.bd, h.but, h.pin, fun b hb => ⟨(h.new b hb).1, h3 b hb⟩, h.pa, h.obj, by
 intro k hk
 rw [h1] at hk ⊢
 rw [h2]
 exact h.flo k hk⟩
theorem qhw {c : Cx} {p' : qm} {w' w0 : World} {a' : Act} {σ' : St} {ts ms : List Item} {n n' : Nat} {l l' : List D} {B' : Nat → List D → Prop} (hgo : (qn8 ts ms kill σk n' .normal σ').go (qb tbl) R l' B') (hpre : l'.take n = l) (hl : l.length = n) (hb' : Bs c.A c.F w0 S0 p' w') (hf' : SF (c.at (qb tbl) l') σ' p' w' a') :
  ∃ st p2, R st ∧ st.length = ts.length + ms.length ∧ Bs c.A c.F w0 S0 p2 w' ∧ SF (c.at (qb tbl) (l ++ st)) (q2a ts ms n (q1p ts ms kill n σk)) p2 w' a' := by
 simp only [qn8] at hgo
 split at hgo
 ·rename_i σc va vb hcv
  split at hgo
  ·rename_i hcov
   obtain ⟨p2, hb2, hf2, h1, h2⟩ := z5o (c := c) hcv hcov hb' hf'
   obtain ⟨q1, q2⟩ := z22 hcv
   have hR : R (X.evs (evl (qb tbl) l') (va ++ vb)) := hgo
   rw [qb5] at hR
   have hnl : n ≤ l'.length := by
    have := congrArg List.length hpre
    simp at this
    omega
   refine ⟨_, p2, hR, by simp [qe2, q1, q2], hb2, ?_⟩
   refine qnx (c := c.at (qb tbl) l') (c' := c.at (qb tbl) (l ++ _)) rfl rfl ⟨rfl, rfl, rfl⟩ (fun k hk => ?_) (fun i hi => ?_) (qh1 hf2) h1 h2
   ·show l'.getD k .u = (l ++ _).getD k .u
    simp only [gnG]
    rw [List.getElem?_append_left (by omega), ← hpre, List.getElem?_take_of_lt hk]
   ·show (l ++ _).getD (n + i) .u = _
    simp only [gnG]
    rw [List.getElem?_append_right (by omega)]
    congr 2
    omega
  ·exact hgo.elim
 ·exact hgo.2.elim
def toN (ts ms : List Item) (kill : List Nat) (σk : St) : Nat → ResD → St → Tree := fun n r σ => match r with
 | .normal => qn8 ts ms kill σk n .normal σ
 | _ => .bad 1
theorem q9i {c : Cx} {w w0 : World} {d : List Deferred} {z : Nat} (ro : Option Nat) (nn : Nat) (htb : q02 tbl) (hfm : ∀ te, c.F.mx te ≤ flM tbl te) (hnp : q7q tbl = true) (xs : List Code) {n : Nat} {ts ms : List Item} {l : List D}
  (h : (q4q Tryz.prog tbl ann c.lo z xs n σ (toN ts ms kill σk)).go (qb tbl) R l B) (hl : l.length = n) (hb : Bs c.A c.F w0 S0 p w) (hf : SF (c.at (qb tbl) l) σ p w a) (hd : a.defers = d) (hz : a.tmps.size = z)
  (hk : ∀ st p' w' a', R st → st.length = ts.length + ms.length → Bs c.A c.F w0 S0 p' w' → SF (c.at (qb tbl) (l ++ st)) (q2a ts ms n (q1p ts ms kill n σk)) p' w' a' → a'.defers = d → a'.tmps.size = z → K a' w') : q9r (FR ro) nn Tryz.prog Q xs K a w := by
 refine q90 ro nn htb hfm hnp xs h hl hb hf hd hz fun n' r σ' l' B' p' w' a' hl' hpre hgo hb' hf' hd' hz' => ?_
 cases r with
 | ret => exact hgo.elim
 | exit i => exact hgo.elim
 | normal =>
  obtain ⟨st, p2, hR, hst, hb2, hf2⟩ := qhw (c := c) (n' := n') hgo hpre hl hb' hf'
  exact hk st p2 w' a' hR hst hb2 hf2 hd' hz'
variable {g : List D → Option (List D)}
set_option maxHeartbeats 1000000 in
theorem z79 (S : Nat → List D → Option (List D)) (fn : Func) (cd : Code) (hf : Tryz.prog.funcs[ct.f]? = some fn) (hb : fn.body = some cd)
  (hen : ∀ args w, (callFunc ct.f args).run Tryz.prog w = .ok (.enter ct.f args) w) (hsz : ct.ar.length ≤ fn.ntmps)
  (h : ∀ ds outs, WfA ct.ars ds → g ds = some outs → ∀ (c : Cx) (p : qm) (w : World) (a : Act) (Q : Exit → Act → World → Prop), c.lo = ct.ar.length → (∀ te, c.F.mx te = 0) → (∀ b, c.F.fr b → w.heap.size ≤ b) → ds.length = q5o ct.ars → Bs c.A c.F w (pinned p) p w → SF (c.at S ds) (qql ct) p w a → a.defers = [] → a.tmps.size = fn.ntmps →
   (∀ n' r σ' l' B' p' w' a' (c2 : Cx), l'.length = n' → (qap ct fn.results.toList n' r σ').go S (fun o => o = outs) l' B' → c2.lo = c.lo → c2.F = c.F → c2.At = c.At → (∀ b, c2.A b → c.A b) → Bs c.A c.F w (pinned p) p' w' → Bs c2.A c2.F w' (pinned p') p' w' → SF (c2.at S l') σ' p' w' a' → Dfs c2.A w.heap.size [] w' a'.defers → a'.tmps.size = fn.ntmps → Q r.exit' a' w') →
   cd.wpIn (FR none) 5 Tryz.prog Q a w) (hmr : (ct.all.all fun e => zlk e.2) = true := by rfl) (hkp : ct.kp = [] := by rfl) (hfl : ct.fl = [] := by rfl) : FOk ct g := by
 refine ⟨hen, fun A F p w vs us ds outs hg hfl0 hfo hpre hvl hargs => callsIn_wide.1 (callsIn_of_wp_marks (F := FR none) (n := 5) hf hb trivial ?_), fun h => absurd hkp h⟩
 obtain ⟨hwf, hdl, -⟩ := hargs.wf
 rw [all_map] at hwf hdl
 have hfz := hfl0.zero hfl
 let c : Cx := ⟨evl S ds, A, ⟨F.fl, F.mx, fun b => w.heap.size ≤ b⟩, ct.ar.length, fun k g => (k < ct.ar.length ∨ VB ≤ k) → p (k * 16) = some g, fun k g hk h2 h => absurd h (by omega), fun q => (vs ++ us).getD q undef⟩
 have hb0 : Bs c.A c.F w (pinned p) p w := ⟨hpre.inj, hpre.bd, But.refl _ _, fun x b hx => .inl ⟨x, hx⟩, fun b hb => ⟨(hpre.new b hb).1, hb⟩, hpre.pa, hpre.obj, hfo⟩
 have hsf : SF (c.at S ds) (qql ct) p w { tmps := vs.toArray ++ Array.replicate (fn.ntmps - vs.toArray.size) undef, defers := [] } := by
  refine ⟨fun t x hx => ?_, qo6 (c := c.at S ds) (A := A) rfl (fun k => rfl) hargs fun e he => List.mem_iff_getElem?.1 he⟩
  obtain ⟨h1, h2⟩ := qoi (c := c.at S ds) (A := A) (n0 := ct.ar.length) rfl rfl rfl hargs (fun k => rfl) _ _ t x hx
  have hlt : t < vs.length := by omega
  refine ⟨(vs ++ us).getD t undef, ?_, h2⟩
  show (vs.toArray ++ _)[t]? = _
  rw [Array.getElem?_append_left (by simpa using hlt), gnG, List.getElem?_append_left hlt]
  simp [gnK hlt]
 refine h ds outs hwf hg c p w _ _ rfl hfz (fun b hb => hb) hdl hb0 hsf rfl (by simp; omega) fun n' r σ' l' B' p' w' a' c2 hl' hgo' hlo2 hF2 hT2 hA2 hb' hbn hf' hd' hz' => ?_
 obtain ⟨Ds, hds, hnd, hDs⟩ := hd'
 have hds : a'.defers = Ds.map qre := by rw [hds]; simp
 have hst := qfy hbn.pa Ds w' fun D hD => (hDs D hD).2.2
 have hbF := qqb (F := c.F) (fun te => hfz te) hbn.pa Ds w' hb' fun D hD => ⟨(hDs D hD).1, (hDs D hD).2.2⟩
 have hfF : SF (c2.at S l') σ' p' (q0w w' Ds) a' := SF.same hst hf'
 have hbnF : Bs c2.A c2.F (q0w w' Ds) (pinned p') p' (q0w w' Ds) := ⟨hbF.inj, hbF.bd, But.refl _ _, fun x b hx => .inl ⟨x, hx⟩, fun b hb => hbn.new b (Nat.le_trans hst.size hb), hbn.pa, hbF.obj, by rw [hF2]; exact hbF.flo.anew⟩
 have fin' : ∀ xs, fin ct fn.results.toList σ' = some xs → X.evs (evl S l') xs = outs → ∃ v, (results fn a'.tmps).run Tryz.prog (q0w w' Ds) = .ok v (q0w w' Ds) ∧ ((∃ T, ct.pn = some T ∧ outs = [.u] ∧ (Ending.returned v) = .panicked (q89 T) ∧ But (pinned p) w (q0w w' Ds)) ∨ ∃ rs p2, (Ending.returned v) = .returned (qfg rs) ∧ Bs A F w (pinned p) p2 (q0w w' Ds) ∧ q9b A p2 (q0w w' Ds) ct.rs ct.ar.length rs (outs.take ct.rs.length) ∧ q2v A p p2 (q0w w' Ds) ct.all (outs.drop ct.rs.length)) := by
  intro xs hfin hout
  unfold fin at hfin
  simp only at hfin
  split at hfin
  ·rename_i hok
   simp only [gnB] at hok
   split at hfin
   ·rename_i xa xb hxa hxb
    injection hfin with hfin
    subst hfin
    have hb1 := hbnF.un (fun y => !zm ((qcd σ' (fn.results.toList.zip ct.rs) ct.ar.length ++ q9x σ' ct.all).map (·.1) ++ (q7u ct.all ++ q40 σ' fn.results.toList)) y)
    have hf1 := SF.un (c := c2.at S l') (q := fun y => !zm ((qcd σ' (fn.results.toList.zip ct.rs) ct.ar.length ++ q9x σ' ct.all).map (·.1) ++ (q7u ct.all ++ q40 σ' fn.results.toList)) y) hbnF.inj hbnF.pa hfF
    obtain ⟨p2, hb2, hf2⟩ := qkw (c := c2.at S l') hok.1 hb1 hf1
    obtain ⟨l, h1, h2, h3⟩ := qog hf2 (gnN hok.2) hxa
    have h4 := qo5 (p0 := p) (n0 := ct.ar.length) hf2 hT2 (fun e he => qz1 he) (fun i t hm => (List.all_eq_true.1 hmr _ hm |> fun h => by cases h)) hxb
    have hev : X.evs (evl S l') xa ++ X.evs (evl S l') xb = outs := by rw [← qb5]; exact hout
    have hla : (X.evs (evl S l') xa).length = ct.rs.length := by rw [qe2, h3]
    refine ⟨_, qd3 h1, .inr ⟨l, p2, rfl, (hbF.up (show Bs c2.A c.F _ _ _ _ from hF2 ▸ hb2) hA2).fr rfl rfl (fun b hb => (hpre.new b hb).2), q9b.chA (A := c2.A) (fun b _ h => hA2 b h) ?_, q2v.chA (A := c2.A) (fun b _ h => hA2 b h) ?_⟩⟩
    ·rw [← hev, List.take_append_of_le_length (by omega), ← hla, List.take_length]
     exact h2
    ·rw [← hev, ← hla, List.drop_left]
     exact h4
   ·cases hfin
  ·cases hfin
 have last : ∀ xs, fin ct fn.results.toList σ' = some xs → X.evs (evl S l') xs = outs → LeavesInM (FR none) 5 Tryz.prog fn a'.tmps (fun e w' => (∃ T, ct.pn = some T ∧ outs = [.u] ∧ e = .panicked (q89 T) ∧ But (pinned p) w w') ∨ ∃ rs p', e = .returned (qfg rs) ∧ Bs A F w (pinned p) p' w' ∧ q9b A p' w' ct.rs ct.ar.length rs (outs.take ct.rs.length) ∧ q2v A p p' w' ct.all (outs.drop ct.rs.length)) a'.defers .returning w' := fun xs hx ho => by
  rw [hds]
  exact qut Ds w' hnd (fun D hD => (hDs D hD).2.1) (fin' xs hx ho)
 cases r with
 | exit i => exact hgo'.elim
 | normal =>
  simp only [qap] at hgo'
  split at hgo'
  ·rename_i xs hx
   exact last xs hx hgo'
  ·exact hgo'.elim
 | ret =>
  simp only [qap] at hgo'
  split at hgo'
  ·rename_i xs hx
   exact last xs hx hgo'
  ·exact hgo'.elim
theorem qs8 {n : Nat} {fn : Func} {R : Ending → World → Prop} {rest : List Deferred} : ∀ (Ds : List Nat) (w : World), Ds.Nodup → (∀ D ∈ Ds, w.heap[D]? = some (.deferred (some []))) → LeavesInM F n Tryz.prog fn tmps R rest .returning (q0w w Ds) → LeavesInM F n Tryz.prog fn tmps R (Ds.map qre ++ rest) .returning w
 | [], w, _, _, h => h
 | D :: Ds, w, hn, hd, h => by
  obtain ⟨h1, h2⟩ := List.nodup_cons.1 hn
  exact ⟨by simp, .inl ⟨D, _, rfl, run_takeDeferred (hd D List.mem_cons_self), qs8 Ds _ h2 (fun D' hD' => (World.putObj_heap_other (fun e => h1 (by rw [← e]; exact hD'))).trans (hd D' (List.mem_cons_of_mem _ hD'))) h⟩⟩
theorem qp6 {n b : Nat} (hb : b < n) : ∀ (Ds : List Nat) (w : World), (∀ D ∈ Ds, n ≤ D) → (q0w w Ds).heap[b]? = w.heap[b]?
 | [], w, _ => rfl
 | D :: Ds, w, h => by
  have h1 := h D List.mem_cons_self
  exact (qp6 hb Ds (w.putObj D (.deferred none)) fun D' hD' => h D' (List.mem_cons_of_mem _ hD')).trans (World.putObj_heap_other (by omega))
theorem zk3 {c c' : Cx} {w : World} (hA : ∀ b, b < w.heap.size → c.A b → c'.A b) (hv : c.v = c'.v) (hT : c.At = c'.At) (hF : c.F = c'.F) (hp : zbf σ.t = true) (h : SF c σ p w a) : SF c' σ p w a := by
 refine ⟨fun t x hx => ?_, fun k e he => (h.m k e he).chA hA hv⟩
 obtain ⟨v, h1, h2⟩ := h.t t x hx
 exact ⟨v, h1, AV.chA hA hv hT hF x v (List.all_eq_true.1 hp _ (qx hx)) h2⟩
def znd (P : Program) (tbl : Tbl) (ct : Ct) (fn : Func) (ops : List Oper) (K : Nat → St → Nat → Nat → X → Tree) (n : Nat) (σ : St) : Tree := match ops with
 | [o1, ck, df] => (match zdt df, qym ck with
  | some t, some (t', y, x1, te) => if Nat.beq t t' && (o1.guard.isNone && (q76 ct.ar.length fn.ntmps o1 && (q76 ct.ar.length fn.ntmps ck && !Nat.beq t te))) then (match stepG P tbl (dsts [o1, ck, df]) σ o1 with
   | some (N, σ1) => (match opd σ1 [] y, opd σ1 [] x1, z4i te σ1 with
    | some (.fn f []), some (.ref ks [] 0 ty), some (_, σ2) => (match lkA σ1.m ks with
     | some es => if Nat.beq f 43 && (Ty.beq ty qi && (Ty.beq es.t qi && (Nat.blt ks ct.ar.length && (X.upto n es.x && zbf σ1.t)))) then z0b N (K n ⟨jf σ2.t t .any, σ2.m⟩ ks te es.x) else .bad 9400000
     | none => .bad 9500000)
    | _, _, _ => .bad 9600000)
   | none => .bad 9700000) else .bad 9800000
  | _, _ => .bad 9900000)
 | _ => .bad 9950000
def zjg (P : Program) (tbl : Tbl) (ct : Ct) (fn : Func) (ops : List Oper) (K : Nat → St → Nat → Nat → X → Tree) : Nat → ResD → St → Tree := fun n r σ => match r with
 | .normal => znd P tbl ct fn ops K n σ
 | _ => .bad 1
set_option maxHeartbeats 2000000 in
theorem z81 (fn : Func) (j : Nat) (cd : Code) (htb : q02 tbl) (hkj : ∀ l, (qb tbl j) l = q4y l) (hf : Tryz.prog.funcs[ct.f]? = some fn) (hb : fn.body = some cd)
  (hen : ∀ args w, (callFunc ct.f args).run Tryz.prog w = .ok (.enter ct.f args) w) (hsz : ct.ar.length ≤ fn.ntmps) (hnp : q7q tbl = true) {xs : List Code} {id : Nat} {ops : List Oper} {post : Code} (hcut : cd = seqs xs (.seq (.region id ops.toArray false) post)) (K : Nat → St → Nat → Nat → X → Tree)
  (h : ∀ ds outs, WfA ct.ars ds → g ds = some outs → ∃ (R : List D → Prop) (B0 : Nat → List D → Prop), (q4q Tryz.prog tbl ann ct.ar.length fn.ntmps xs (q5o ct.ars) (qql ct) (zjg Tryz.prog tbl ct fn ops K)).go (qb tbl) R ds B0 ∧
   ∀ (c : Cx) (p : qm) (w : World) (a : Act) (S0 : Nat → Prop) (Q : Exit → Act → World → Prop) (l : List D) (n : Nat) (σ : St) (ks te : Nat) (was : X) (B : Nat → List D → Prop) (dK : Deferred), (K n σ ks te was).go (qb tbl) R l B → l.length = n → l.take (q5o ct.ars) = ds → X.upto n was = true → c.lo = ct.ar.length → (∀ te, c.F.mx te = 0) → (∀ b, pinned p b → S0 b) → (∀ b, c.F.fr b → c.A b → S0 b) →
    Bs c.A c.F w S0 p w → SF (c.at (qb tbl) l) σ p w a → a.defers = [dK] → a.tmps.size = fn.ntmps →
    (∀ n' r σ' l' B' p' w' a' (c2 : Cx), l'.length = n' → (qf0 ct fn j ks te was n' r σ').go (qb tbl) (fun o => o = outs) l' B' → was.ev (evl (qb tbl) l') = was.ev (evl (qb tbl) l) → c2.lo = c.lo → c2.F = c.F → c2.At = c.At → c2.snap (VB + te) = c.snap (VB + te) → (∀ b, c2.A b → c.A b) → Bs c.A c.F w S0 p' w' → Bs c2.A c2.F w' (pinned p') p' w' → SF (c2.at (qb tbl) l') σ' p' w' a' → Dfs c2.A w.heap.size [dK] w' a'.defers → a'.tmps.size = fn.ntmps → Q r.exit' a' w') →
    post.wpIn (FR none) 5 Tryz.prog Q a w)
  (hmr : (ct.all.all fun e => zlk e.2) = true := by rfl) (hkp : ct.kp = [] := by rfl) (hfl : ct.fl = [] := by rfl) : FOk ct g := by
 refine ⟨hen, fun A F p w vs us ds outs hg hfl0 hfo hpre hvl hargs => callsIn_wide.1 (callsIn_of_wp_marks (F := FR none) (n := 5) hf hb trivial ?_), fun h => absurd hkp h⟩
 obtain ⟨hwf, hdl, -⟩ := hargs.wf
 rw [all_map] at hwf hdl
 have hfz := hfl0.zero hfl
 generalize hR0 : (fun (e : Ending) (w' : World) => (∃ T, ct.pn = some T ∧ outs = [.u] ∧ e = .panicked (q89 T) ∧ But (pinned p) w w') ∨ ∃ rs p', e = .returned (qfg rs) ∧ Bs A F w (pinned p) p' w' ∧ q9b A p' w' ct.rs ct.ar.length rs (outs.take ct.rs.length) ∧ q2v A p p' w' ct.all (outs.drop ct.rs.length)) = RR
 let c : Cx := ⟨evl (qb tbl) ds, A, ⟨F.fl, F.mx, fun b => w.heap.size ≤ b⟩, ct.ar.length, fun k g => (k < ct.ar.length ∨ VB ≤ k) → p (k * 16) = some g, fun k g hk h2 h => absurd h (by omega), fun q => (vs ++ us).getD q undef⟩
 have hb0 : Bs c.A c.F w (pinned p) p w := ⟨hpre.inj, hpre.bd, But.refl _ _, fun x b hx => .inl ⟨x, hx⟩, fun b hb => ⟨(hpre.new b hb).1, hb⟩, hpre.pa, hpre.obj, hfo⟩
 have hsf : SF (c.at (qb tbl) ds) (qql ct) p w { tmps := vs.toArray ++ Array.replicate (fn.ntmps - vs.toArray.size) undef, defers := [] } := by
  refine ⟨fun t x hx => ?_, qo6 (c := c.at (qb tbl) ds) (A := A) rfl (fun k => rfl) hargs fun e he => List.mem_iff_getElem?.1 he⟩
  obtain ⟨h1, h2⟩ := qoi (c := c.at (qb tbl) ds) (A := A) (n0 := ct.ar.length) rfl rfl rfl hargs (fun k => rfl) _ _ t x hx
  have hlt : t < vs.length := by omega
  refine ⟨(vs ++ us).getD t undef, ?_, h2⟩
  show (vs.toArray ++ _)[t]? = _
  rw [Array.getElem?_append_left (by simpa using hlt), gnG, List.getElem?_append_left hlt]
  simp [gnK hlt]
 obtain ⟨R, B0, hpt, huser⟩ := h ds outs hwf hg
 have hfm : ∀ te, c.F.mx te ≤ flM tbl te := fun te => by rw [show c.F.mx te = 0 from hfz te]; exact Nat.zero_le _
 rw [hcut]
 refine q1j xs ?_
 refine q90 (c := c) (S0 := pinned p) (w0 := w) (d := []) (z := fn.ntmps) none 5 htb hfm hnp xs hpt hdl hb0 hsf rfl (by simp; omega) fun n' r σ' l' B' p' w' a' hl' hpre1 hgo' hb' hf' hd' hz' => ?_
 cases r with
 | exit i => exact hgo'.elim
 | ret => exact hgo'.elim
 | normal =>
  show (Code.seq (.region id ops.toArray false) post).wpIn (FR none) 5 Tryz.prog _ a' w'
  rcases ops with _ | ⟨o1, _ | ⟨ck, _ | ⟨df, _ | ⟨x, l⟩⟩⟩⟩
  ·exact (show False from hgo').elim
  ·exact (show False from hgo').elim
  ·exact (show False from hgo').elim
  ·simp only [zjg, znd] at hgo'
   split at hgo'
   ·rename_i t t' y x1 te hdt hck
    split at hgo'
    ·rename_i hok
     simp only [gnB, Option.isNone_iff_eq_none, Bool.not_eq_true'] at hok
     obtain ⟨htt, hg1, hd1, hd2, htte⟩ := hok
     obtain rfl := gnN htt
     have htte : t ≠ te := fun e => by rw [e, Nat.beq_refl] at htte; cases htte
     obtain ⟨hck1, hck2, tys, hck3⟩ := qvv hck
     have htz : t < fn.ntmps := by
      unfold q76 at hd2
      rw [hck1] at hd2
      simp only [gnB, Nat.blt_eq] at hd2
      exact hd2.1
     split at hgo'
     ·rename_i N σ1 hst
      split at hgo'
      ·rename_i f ks ty ke σ2 hy hx1 hhold
       split at hgo'
       ·rename_i es hes
        split at hgo'
        ·rename_i hok2
         simp only [gnB, Nat.blt_eq] at hok2
         obtain ⟨hff, hty, het, hks, hup, hpl⟩ := hok2
         obtain rfl := gnN hff
         have het := (Ty.beq_iff _ _).1 het
         obtain ⟨hN, hgo2⟩ := qry hgo'
         generalize hQ : bodyPostM (FR none) 5 Tryz.prog fn RR = Q
         have hQr : ∀ (r : ResD) (a : Act) (w : World), (∀ i, r ≠ .exit i) → LeavesInM (FR none) 5 Tryz.prog fn a.tmps RR a.defers .returning w → Q r.exit' a w := fun r a w hr h => by
          rw [← hQ]
          cases r with
          | exit i => exact absurd rfl (hr i)
          | ret => exact h
          | normal => exact h
         refine wpIn_seq ((wpIn_wide (n := 5)).2 (wp_region ?_))
         have hw0 : Region.wanted o1 (yielded ([o1, ck, df].toArray) a'.tmps) = true := by simp [Region.wanted, hg1]
         have hstep := qp0 (c := c.at (qb tbl) l') (ops := [o1, ck, df].toArray) (ds := dsts [o1, ck, df]) (Q := Exit.then (fun a w => post.wpIn (FR none) 5 Tryz.prog Q a w) Q) (K := wpOps Tryz.prog [o1, ck, df].toArray (Exit.then (fun a w => post.wpIn (FR none) 5 Tryz.prog Q a w) Q) [1, 2]) htb ⟨rfl, hfm⟩ rfl hb' hf' hd' hz' hd1 hst hN (q49 hnp) fun a1 w1 hpost => ?_
         ·rw [if_pos hw0] at hstep
          show wpOps Tryz.prog [o1, ck, df].toArray _ [0, 1, 2] a' w'
          simp only [wpOps, List.getElem?_toArray, List.getElem?_cons_zero]
          rw [if_pos hw0]
          exact .inl hstep.2
         ·obtain ⟨p1, hb1, hf1, hda1, hz1⟩ := hpost
          obtain ⟨vy, hvy, hvs⟩ := qq hf1 rfl hy
          have hvs : vy = [] := hvs
          subst hvs
          obtain ⟨gs, hgs, hvx, hat⟩ := qq hf1 rfl hx1
          obtain ⟨gs', cs, T, hgs', hh, hT, hcon⟩ := hf1.m ks _ hes
          rw [hgs] at hgs'
          injection hgs' with hgs'
          subst hgs'
          rw [het] at hcon
          obtain ⟨r0, r1, r2, r3, A0, A1, A2, A3, k0, k1, k2, k3, x4, x5, eD, ecs, -, q4, -⟩ := qgg hcon
          have ecs : cs = #[.slice A0 r0.length k0, .slice A1 r1.length k1, .slice A2 r2.length k2, .slice A3 r3.length k3, .int .i64 x4, .int .i64 x5] := by
           obtain ⟨cs⟩ := cs
           have ecs : cs = _ := ecs
           rw [ecs]
          subst ecs
          -- what lies in keep's blocks is hidden
          obtain ⟨A', hA'⟩ : ∃ A' : Nat → Prop, A' = fun b => A b ∧ (b < w1.heap.size ∨ w1.heap.size + 3 ≤ b) := ⟨_, rfl⟩
          have hAA : ∀ b, A' b → A b := fun b h => by rw [hA'] at h; exact h.1
          have hf1' : SF (({ c with A := A' } : Cx).at (qb tbl) l') σ1 p1 w1 a1 := zk3 (c := c.at (qb tbl) l') (fun b hb h => by show A' b; rw [hA']; exact ⟨h, .inl hb⟩) rfl rfl rfl hpl hf1
          obtain ⟨hf2, ge, hge, hve⟩ := z04 hhold hf1'
          generalize hcx : ({ ({ c with A := A' } : Cx) with snap := fun q => if q = VB + te then a1.eval (.tmp te) else c.snap q } : Cx) = cx
          have hcA : cx.A = A' := by rw [← hcx]
          have hcF : cx.F = c.F := by rw [← hcx]
          have hcAt : cx.At = c.At := by rw [← hcx]
          have hct : cx.snap (VB + te) = .pointer (some ⟨ge, 0, none⟩) := by
           rw [← hcx, ← hve]
           show (if VB + te = VB + te then _ else _) = _
           rw [if_pos rfl]
          have hlo : cx.lo = ct.ar.length := by rw [← hcx]
          have hf3 : SF (cx.at (qb tbl) l') σ2 p1 w1 a1 := by rw [← hcx]; exact hf2
          have hpg : p (ks * 16) = some gs := hat (.inl hks)
          clear hcx
          -- the call of keep
          have hgl := qu hh
          obtain ⟨w2, hw2⟩ : ∃ w2, w2 = ((w1.alloc (.cells #[.pointer (some ⟨gs, 0, none⟩)] 41)).alloc (.cells #[.pointer (some ⟨ge, 0, none⟩)] 79)).alloc (.cells #[.slice A0 r0.length k0, .slice A1 r1.length k1, .slice A2 r2.length k2, .slice A3 r3.length k3, .int .i64 x4, .int .i64 x5] 27) := ⟨_, rfl⟩
          have hs2 : w2.heap.size = w1.heap.size + 3 := by rw [hw2]; simp
          have hst1 := q38 (A := cx.A) hb1.bd (.cells #[.pointer (some ⟨gs, 0, none⟩)] 41)
          have hbs1 := q7z hb1 (.cells #[.pointer (some ⟨gs, 0, none⟩)] 41)
          have hst2 := q38 (A := cx.A) hbs1.bd (.cells #[.pointer (some ⟨ge, 0, none⟩)] 79)
          have hbs2 := q7z hbs1 (.cells #[.pointer (some ⟨ge, 0, none⟩)] 79)
          have hst3 := q38 (A := cx.A) hbs2.bd (.cells #[.slice A0 r0.length k0, .slice A1 r1.length k1, .slice A2 r2.length k2, .slice A3 r3.length k3, .int .i64 x4, .int .i64 x5] 27)
          have hbs3 := q7z hbs2 (.cells #[.slice A0 r0.length k0, .slice A1 r1.length k1, .slice A2 r2.length k2, .slice A3 r3.length k3, .int .i64 x4, .int .i64 x5] 27)
          have hfk := SF.same (c := cx.at (qb tbl) l') hst3 (SF.same (c := cx.at (qb tbl) l') hst2 (SF.same (c := cx.at (qb tbl) l') hst1 hf3))
          have hh2 : w2.heap[w1.heap.size]? = some (.cells #[.pointer (some ⟨gs, 0, none⟩)] 41 (0, 0)) := by
           rw [hw2]
           exact q1x (q1x (jp rfl))
          have hh3 : w2.heap[w1.heap.size + 1]? = some (.cells #[.pointer (some ⟨ge, 0, none⟩)] 79 (0, 0)) := by
           rw [hw2]
           exact q1x (jp (by simp))
          have hh5 : w2.heap[w1.heap.size + 2]? = some (.cells #[.slice A0 r0.length k0, .slice A1 r1.length k1, .slice A2 r2.length k2, .slice A3 r3.length k3, .int .i64 x4, .int .i64 x5] 27 (0, 0)) := by
           rw [hw2]
           exact jp (by simp)
          rw [← hw2] at hbs3 hfk
          obtain ⟨V, hV⟩ : ∃ V, V = Value.func (.func 82) #[] #[.pointer (some ⟨w1.heap.size + 1, 0, none⟩), .pointer (some ⟨w1.heap.size, 0, none⟩), .pointer (some ⟨w1.heap.size + 2, 0, none⟩)] := ⟨_, rfl⟩
          have hfp : SF (cx.at (qb tbl) l') ⟨jf σ2.t t .any, σ2.m⟩ p1 w2 (a1.put (some t) V) := hfk.put (t := t) (by rw [hz1]; exact htz) trivial
          have hws := hb1.but.size
          obtain ⟨S0, hS0⟩ : ∃ S0 : Nat → Prop, S0 = fun b => pinned p1 b ∨ (w.heap.size ≤ b ∧ A' b) := ⟨_, rfl⟩
          have hp1 : ∀ x b, p1 x = some b → b < w1.heap.size := hb1.bd
          have hS0w : ∀ b, S0 b → pinned p b ∨ w.heap.size ≤ b := fun b h => by
           rw [hS0] at h
           rcases h with ⟨q, hq⟩ | h
           ·exact hbs3.pin q b hq
           ·exact .inr h.1
          have hbu : Bs cx.A cx.F w2 S0 p1 w2 := by
           rw [hcA, hcF]
           refine ⟨hbs3.inj, hbs3.bd, But.refl _ _, fun x b hx => .inl (by rw [hS0]; exact .inl ⟨x, hx⟩), fun b hb => ⟨by rw [hA']; exact ⟨(hbs3.new b (by omega)).1, .inr (by omega)⟩, (hbs3.new b (by omega)).2⟩, fun x b hx => by rw [hA']; exact ⟨hbs3.pa x b hx, .inl (hp1 x b hx)⟩, hbs3.obj, hbs3.flo.anew⟩
          have hnS : ∀ b, w1.heap.size ≤ b → b < w1.heap.size + 3 → ¬ S0 b := fun b h1 h2 h => by
           rw [hS0] at h
           rcases h with ⟨q, hq⟩ | ⟨-, h⟩
           ·have := hp1 q b hq
            omega
           ·rw [hA'] at h
            omega
          have hmain : post.wpIn (FR none) 5 Tryz.prog Q { a1.put (some t) V with defers := { target := .fn (.func 82) #[.pointer (some ⟨w1.heap.size + 1, 0, none⟩), .pointer (some ⟨w1.heap.size, 0, none⟩), .pointer (some ⟨w1.heap.size + 2, 0, none⟩)], args := #[] } :: (a1.put (some t) V).defers } w2 := by
           refine huser cx p1 w2 _ S0 Q l' n' _ ks te es.x _ _ hgo2 hl' hpre1 hup hlo (by rw [hcF]; exact hfz) (fun b h => by rw [hS0]; exact .inl h) (fun b h1 h2 => by rw [hcF] at h1; rw [hcA] at h2; rw [hS0]; exact .inr ⟨h1, h2⟩) hbu (SF.mk (fun t x hx => hfp.t t x hx) (fun k e he => hfp.m k e he)) (by show _ :: a1.defers = _; rw [hda1]) (by simp only [Act.put, Array.size_setIfInBounds]; exact hz1) fun n2 r σ3 l2 B2 p4 w3 a3 c2 hl2 hgo3 hwas hlo2 hF2 hT2 hsn2 hA2 hb4 hbn hf4 hDf hz4 => ?_
           have hres : (qf0 ct fn j ks te es.x n2 .ret σ3).go (qb tbl) (fun o => o = outs) l2 B2 → LeavesInM (FR none) 5 Tryz.prog fn a3.tmps RR a3.defers .returning w3 := fun hgo3 => by
            simp only [qf0] at hgo3
            split at hgo3
            ·rename_i ke' σ4 hfree
             split at hgo3
             ·rename_i es' ee' hes' hee'
              split at hgo3
              ·rename_i hok3
               simp only [gnB] at hok3
               have h31 := hok3.1
               have h32 := hok3.2.1
               have h33 : zm (es'.own.map (·.2) ++ es'.dep) (ks * 16) = false := by simpa using hok3.2.2.1
               have h34 := hok3.2.2.2
               obtain ⟨⟨hsay, -⟩, hgo4⟩ := hgo3
               obtain ⟨hf5, ge', hge', hsn⟩ := z0g hfree hf4
               have hsn : c2.snap (VB + te) = .pointer (some ⟨ge', 0, none⟩) := hsn
               rw [hsn2, hct] at hsn
               injection hsn with hsn
               injection hsn with hsn
               injection hsn with hsn
               subst hsn
               obtain ⟨g3, hg3, hat3⟩ := qun h34 hf5
               have hat3 : c2.At ks g3 := hat3
               rw [hT2, hcAt] at hat3
               have hat3 := hat3 (.inl hks)
               rw [hpg] at hat3
               injection hat3 with hat3
               subst hat3
               obtain ⟨Ds, hds, hnd, hDs⟩ := hDf
               rw [hcA, hcF] at hb4
               have hA2' : ∀ b, c2.A b → A' b := fun b h => by rw [← hcA]; exact hA2 b h
               have hF2' : c2.F = c.F := hF2.trans hcF
               have hbAll : Bs A c.F w (pinned p) p4 w3 := ⟨hb4.inj, hb4.bd, hbs3.but.trans hb4.but fun b hb _ => hS0w b hb, fun q b hq => by
                rcases hb4.pin q b hq with h | h
                ·exact hS0w b h
                ·exact .inr (by omega), hbs3.new, fun q b hq => hAA b (hb4.pa q b hq), hb4.obj, Flo.of0 hfz hbs3.flo⟩
               have hst := qfy hbn.pa Ds w3 fun D hD => (hDs D hD).2.2
               have hbF := qqb (F := c.F) (fun te => hfz te) hbn.pa Ds w3 hbAll fun D hD => ⟨by have := (hDs D hD).1; omega, (hDs D hD).2.2⟩
               have hfF : SF (c2.at (qb tbl) l2) σ4 p4 (q0w w3 Ds) a3 := SF.same hst hf5
               have hbnF : Bs c2.A c2.F (q0w w3 Ds) (pinned p4) p4 (q0w w3 Ds) := ⟨hbF.inj, hbF.bd, But.refl _ _, fun x b hx => .inl ⟨x, hx⟩, fun b hb => hbn.new b (Nat.le_trans hst.size hb), hbn.pa, hbF.obj, by rw [hF2']; exact hbF.flo.anew⟩
               have hkb : ∀ b o, w1.heap.size ≤ b → b < w1.heap.size + 3 → w2.heap[b]? = some o → (q0w w3 Ds).heap[b]? = some o := fun b o h1 h2 ho => ((qp6 (n := w2.heap.size) (by omega) Ds w3 fun D hD => (hDs D hD).1).trans (hb4.but.block b (by omega) (hnS b h1 h2))).trans ho
               have ew : es.x.ev (evl (qb tbl) l2) = .a [.r r0, .r r1, .r r2, .r r3, .i x4, .i x5] := hwas.trans eD
               have hcal := z10 (nn := 4) (c := c2) (w0 := q0w w3 Ds) (S0 := pinned p4) (u := .returning) hkj hbnF hfF hes' hee' ((Ty.beq_iff _ _).1 h31) ((Ty.beq_iff _ _).1 h32) h33 hg3 hge' hsay (hkb _ _ (by omega) (by omega) hh3) (hkb _ _ (by omega) (by omega) hh2) (hkb _ _ (by omega) (by omega) hh5) (by rw [ew]; exact ⟨rfl, rfl, rfl, rfl⟩) q4 ⟨by omega, by omega, by omega⟩
               rw [hds]
               refine qs8 Ds w3 hnd (fun D hD => (hDs D hD).2.1) ?_
               refine ⟨by simp, .inr ⟨(fun h => by cases h), _, _, 82, #[.pointer (some ⟨w1.heap.size + 1, 0, none⟩), .pointer (some ⟨w1.heap.size, 0, none⟩), .pointer (some ⟨w1.heap.size + 2, 0, none⟩)], rfl, by simp [invoke, qdj], fun _ _ => trivial, hcal.mono ?_⟩⟩
               rintro e' u' w4 ⟨rfl, rfl, hb5, hf6⟩
               show LeavesInM (FR none) 5 Tryz.prog fn a3.tmps RR [] _ w4
               simp only [qap] at hgo4
               split at hgo4
               ·rename_i xs hx
                have ho : X.evs (evl (qb tbl) l2) xs = outs := hgo4
                rw [hF2'] at hb5
                have hb6 : Bs A c.F w (pinned p) p4 w4 := hbF.up hb5 fun b h => hAA b (hA2' b h)
                have hb7 : Bs c2.A c2.F w4 (pinned p4) p4 w4 := by rw [hF2']; exact hb5.anew
                unfold fin at hx
                simp only at hx
                split at hx
                ·rename_i hok
                 simp only [gnB] at hok
                 split at hx
                 ·rename_i xa xb hxa hxb
                  injection hx with hx
                  subst hx
                  have hb1 := hb7.un (fun y => !zm ((qcd (qz0 ks j es' ee'.x es.x σ4) (fn.results.toList.zip ct.rs) ct.ar.length ++ q9x (qz0 ks j es' ee'.x es.x σ4) ct.all).map (·.1) ++ (q7u ct.all ++ q40 (qz0 ks j es' ee'.x es.x σ4) fn.results.toList)) y)
                  have hf1 := SF.un (c := c2.at (qb tbl) l2) (q := fun y => !zm ((qcd (qz0 ks j es' ee'.x es.x σ4) (fn.results.toList.zip ct.rs) ct.ar.length ++ q9x (qz0 ks j es' ee'.x es.x σ4) ct.all).map (·.1) ++ (q7u ct.all ++ q40 (qz0 ks j es' ee'.x es.x σ4) fn.results.toList)) y) hb7.inj hb7.pa hf6
                  obtain ⟨p2, hb2, hf2⟩ := qkw (c := c2.at (qb tbl) l2) hok.1 hb1 hf1
                  obtain ⟨l, h1, h2, h3⟩ := qog hf2 (gnN hok.2) hxa
                  have h4 := qo5 (p0 := p) (n0 := ct.ar.length) hf2 (hT2.trans hcAt) (fun e he => qz1 he) (fun i t hm => (List.all_eq_true.1 hmr _ hm |> fun h => by cases h)) hxb
                  have hev : X.evs (evl (qb tbl) l2) xa ++ X.evs (evl (qb tbl) l2) xb = outs := by rw [← qb5]; exact ho
                  have hla : (X.evs (evl (qb tbl) l2) xa).length = ct.rs.length := by rw [qe2, h3]
                  refine ⟨_, qd3 h1, ?_⟩
                  rw [← hR0]
                  refine .inr ⟨l, p2, rfl, (hb6.up (show Bs c2.A c.F _ _ _ _ from hF2' ▸ hb2) fun b h => hAA b (hA2' b h)).fr rfl rfl (fun b hb => (hpre.new b hb).2), q9b.chA (A := c2.A) (fun b _ h => hAA b (hA2' b h)) ?_, q2v.chA (A := c2.A) (fun b _ h => hAA b (hA2' b h)) ?_⟩
                  ·rw [← hev, List.take_append_of_le_length (by omega), ← hla, List.take_length]
                   exact h2
                  ·rw [← hev, ← hla, List.drop_left]
                   exact h4
                 ·cases hx
                ·cases hx
               ·exact hgo4.elim
              ·exact (show False from hgo3).elim
             ·exact (show False from hgo3).elim
            ·exact (show False from hgo3).elim
           cases r with
           | exit i => exact (show False from hgo3).elim
           | ret => exact hQr .ret _ _ (fun i h => by cases h) (hres hgo3)
           | normal => exact hQr .normal _ _ (fun i h => by cases h) (hres hgo3)
          have hevt : (a1.put (some t) V).eval (.tmp t) = V := by
           show (a1.tmps.setIfInBounds t V).getD t undef = V
           rw [Array.getD_eq_getD_getElem?, Array.getElem?_setIfInBounds_self_of_lt (by omega)]
           rfl
          obtain ⟨hgd, hdw⟩ := z5q (a := a1.put (some t) V) (w := w2) (K := wpOps Tryz.prog [o1, ck, df].toArray (Exit.then (fun a w => post.wpIn (FR none) 5 Tryz.prog Q a w) Q) []) (Q := Exit.then (fun a w => post.wpIn (FR none) 5 Tryz.prog Q a w) Q) hdt (hevt.trans hV) hmain
          have hw1 : Region.wanted ck (yielded ([o1, ck, df].toArray) a1.tmps) = true := by simp [Region.wanted, hck2]
          have hw2' : Region.wanted df (yielded ([o1, ck, df].toArray) (a1.put (some t) V).tmps) = true := by simp [Region.wanted, hgd]
          show wpOps Tryz.prog [o1, ck, df].toArray _ [1, 2] a1 w1
          simp only [wpOps, List.getElem?_toArray, List.getElem?_cons_succ, List.getElem?_cons_zero]
          rw [if_pos hw1]
          refine .inl ?_
          have hrun : (execOp a1.eval ck).run Tryz.prog w1 = .ok (.enter 43 #[.pointer (some ⟨gs, 0, none⟩), .pointer (some ⟨ge, 0, none⟩)]) w1 := by
           have hen := qrk #[.pointer (some ⟨gs, 0, none⟩), .pointer (some ⟨ge, 0, none⟩)] w1
           have hvx : a1.eval x1 = .pointer (some ⟨gs, 0, none⟩) := hvx
           generalize a1.eval = r at *
           simp [execOp, hck3, resolve, Deferred.ofValue, hvy, hvx, hve, invoke, hen]
          unfold Oper.wp
          rw [hrun]
          show Calls Tryz.prog 43 _ w1 _
          refine (z25 w1 gs ge T hh).mono ?_
          rintro e w2' ⟨rfl, rfl⟩
          show (if Region.wanted df (yielded ([o1, ck, df].toArray) (a1.put ck.dst _).tmps) = true then _ else _)
          rw [hck1, ← hV, ← hw2, if_pos hw2']
          exact .inl hdw
        ·exact hgo'.elim
       ·exact hgo'.elim
      ·exact hgo'.elim
     ·exact hgo'.elim
    ·exact hgo'.elim
   ·exact hgo'.elim
  ·exact (show False from hgo').elim
def zhn : List D → Option (List D)
 | [r, a, b] => if 0 ≤ a.int ∧ a.int ≤ 1000 ∧ b.int ≤ a.int + 1 then some [] else none
 | _ => none
theorem zep : FOk qw zhn := q3s (FOk.none q4b) fun ds outs hw hg => by
 obtain ⟨d, r, rfl, hd, e, r', rfl, he, f, r2, rfl, hf, rfl⟩ := hw
 obtain ⟨a, rfl, ha⟩ := wfI he
 obtain ⟨b, rfl, hb⟩ := wfI hf
 have hg' : (if 0 ≤ a ∧ a ≤ 1000 ∧ b ≤ a + 1 then some ([] : List D) else none) = some outs := hg
 split at hg'
 case isFalse => cases hg'
 rename_i hc
 obtain ⟨h0, h1, h2⟩ := hc
 obtain rfl := gnI hg'
 simp only [j9, gnZ, gnT]
 refine ⟨⟨by omega, by omega⟩, ?_⟩
 rw [jt]
 refine ⟨fun st => st = [.i (a + 1), d], fun st => 0, by simp only [X.evs, gnZ, gnT], ?_⟩
 rintro st - rfl
 rw [qj]
 refine ⟨fun hlt => ?_, fun hlt => ?_⟩
 ·simp only [gnZ, gnT] at hlt
  omega
 ·simp only [gnZ, gnT]
def zmj : List D → Option (List D)
 | [r, n] => if 0 ≤ n.int ∧ n.int ≤ 1 then some [] else none
 | _ => none
theorem zk8 : FOk z7 zmj := q6z (FOk.none q4b) zep fun ds outs hw hg => by
 obtain ⟨d, r, rfl, hd, e, r', rfl, he, rfl⟩ := hw
 obtain ⟨n, rfl, hn⟩ := wfI he
 have hg' : (if 0 ≤ n ∧ n ≤ 1 then some ([] : List D) else none) = some outs := hg
 split at hg'
 case isFalse => cases hg'
 rename_i hc
 obtain ⟨h0, h1⟩ := hc
 obtain rfl := gnI hg'
 rw [q04, jt]
 refine ⟨fun st => st = [.i 0, .i 20], fun st => 0, by simp only [X.evs, gnZ, gnT], ?_⟩
 rintro st - rfl
 rw [qj]
 refine ⟨fun hlt => ?_, fun hlt => ?_⟩
 ·simp only [gnZ, gnT] at hlt
  omega
 ·have hI : zhn [d, .i 0, .i n] = some [] := if_pos (show (0 : Int) ≤ 0 ∧ (0 : Int) ≤ 1000 ∧ n ≤ 0 + 1 from ⟨by omega, by omega, by omega⟩)
  simp only [gnZ, gnT, hI, true_and]
  rw [jt]
  refine ⟨fun st => st = [.i 0, .i 20, .i 20], fun st => 0, by simp only [X.evs, gnZ, gnT], ?_⟩
  rintro st - rfl
  rw [qj]
  refine ⟨fun hlt => ?_, fun hlt => ?_⟩
  ·simp only [gnZ, gnT] at hlt
   omega
  ·simp only [gnZ, gnT]
def zeh : List D → Option (List D)
 | [r] => if r.rs.length ≤ 1 then some [] else none
 | _ => none
theorem zkt : FOk zu zeh := q6k (FOk.none q4b) zk8 fun ds outs hw hg => by
 obtain ⟨d, r, rfl, hd, rfl⟩ := hw
 have hg' : (if d.rs.length ≤ 1 then some ([] : List D) else none) = some outs := hg
 split at hg'
 case isFalse => cases hg'
 rename_i h0
 obtain rfl := gnI hg'
 have hS : zmj [d, .i (d.rs.length : Nat)] = some [] := if_pos (show (0 : Int) ≤ (d.rs.length : Nat) ∧ ((d.rs.length : Nat) : Int) ≤ 1 from ⟨by omega, by omega⟩)
 simp only [q00, gnZ, gnT, hS, and_self]
section
section
variable {f g : Int → Int}
end
end
def z33 (t : Te) : Te := if q2w t then t else zT
theorem qcp : FOk zw (gTT z33) := qf2
def ql8 (s : ByteArray) (l : List Te) : Te := if l.length = 0 then qbm s else z33 (.mk 3 0 s l)
def gSL (f : ByteArray → List Te → Te) : List D → Option (List D)
 | [s, l] => some [eT (f s.str (l.rs.map dT))]
 | _ => none
theorem zjq (l : List Te) : (l.map eT).map dT = l := by
 rw [List.map_map]
 have : dT ∘ eT = id := funext q1w
 rw [this, List.map_id]
theorem q8d : FOk j6 (gSL ql8) := qnp q57 qcp fun ds outs hw hg => by
 obtain ⟨d, r, rfl, hd, e, r', rfl, he, rfl⟩ := hw
 obtain ⟨s, rfl, hs⟩ := hd.str
 obtain ⟨l, rfl, hl, -⟩ := zo5 he
 simp only [gSL, q2s, q6i, zjq, Option.some.injEq] at hg
 subst hg
 have e : D.a (((D.a [.i 0, .i 0, .s ⟨#[]⟩, .r []]).fs.set 0 (.i 3)).set 2 (.s s) |>.set 3 (.r (l.map eT))) = eT (.mk 3 0 s l) := by rw [qlk]; rfl
 have e2 : D.a (((eT zT).fs.set 0 (.i 3)).set 2 (.s s) |>.set 3 (.r (l.map eT))) = eT (.mk 3 0 s l) := e
 simp only [q6e, gnZ, gnT, gSt, gTT, zm6, ql8, e, e2]
 refine ⟨fun h => ?_, fun h => ?_⟩
 ·rw [if_pos (by omega)]
 ·rw [if_neg (by omega)]
def zaz : List D → Option (List D)
 | [n] => some [.b (decide (0 ≤ n.int) && decide (n.int ≤ 1099511627776))]
 | _ => none
theorem qqw : FOk q0e zaz := qm0 fun ds outs hw hg => by
 obtain ⟨d, r, rfl, hd, rfl⟩ := hw
 obtain ⟨n, rfl, hn⟩ := wfI hd
 simp only [zaz, yv, Option.some.injEq] at hg
 subst hg
 simp only [q5x, gnZ]
 congr 2
def vaT (n : Int) : Te := if 0 ≤ n ∧ n ≤ 1099511627776 then .mk 0 n ⟨#[]⟩ [] else zT
def zed : List D → Option (List D)
 | [n] => some [eT (vaT n.int)]
 | _ => none
theorem qlh : FOk q14 zed := qwq qqw fun ds outs hw hg => by
 obtain ⟨d, r, rfl, hd, rfl⟩ := hw
 obtain ⟨n, rfl, hn⟩ := wfI hd
 simp only [zed, yv, Option.some.injEq] at hg
 subst hg
 have e1 : D.a ((D.a [.i 0, .i 0, .s ⟨#[]⟩, .r []]).fs.set 1 (.i n)) = eT (.mk 0 n ⟨#[]⟩ []) := by rw [qlk]; rfl
 simp only [q9v, gnZ, gnT, zaz, vaT]
 by_cases h : 0 ≤ n ∧ n ≤ 1099511627776
 ·simp [h]
  rw [qlk]
  rfl
 ·have h' : ¬ (0 ≤ n) ∨ ¬ (n ≤ 1099511627776) := by omega
  rw [if_neg h]
  rcases h' with h' | h' <;> simp [h'] <;> rfl
def yj : Ct := ⟨46, [.own (.row 66), .val (.int .i64), .val (.int .i64)], [(.row 66, true)], [], none, [], []⟩
theorem q6w : EnZ yj := fun _ _ => by kernel_rfl
def q1c : Ct := ⟨9, [.val (.st 26), .val (.st 28), .val (.str)], [(.st 28, false), (.bool, false)], [], none, [], []⟩
theorem qp1 : EnZ q1c := fun _ _ => by kernel_rfl
def qwi : Ann := ⟨[0, 1, 2, 3, 4, 6, 7, 8, 9, 10, 18, 27], []⟩
def q6n : Tree := (.need [(.ok 0 [(.tok 0), (.tok 1)])] (.br (.not (.call 0 1 [(.tok 0), (.tok 1)])) (.leaf [(.lit (.a [(.i 0), (.i 0)])), (.lit (.b .false))]) (.need [(.ok 1 [(.tok 0), (.call 0 0 [(.tok 0), (.tok 1)])])] (.need [(.ok 2 [(.call 1 0 [(.tok 0), (.call 0 0 [(.tok 0), (.tok 1)])]), (.tok 2)])] (.br (.lt (.call 2 0 [(.call 1 0 [(.tok 0), (.call 0 0 [(.tok 0), (.tok 1)])]), (.tok 2)]) (.lit (.i 0))) (.leaf [(.lit (.a [(.i 0), (.i 0)])), (.lit (.b .false))]) (.need [(.le (.lit (.i 0)) (.call 2 0 [(.call 1 0 [(.tok 0), (.call 0 0 [(.tok 0), (.tok 1)])]), (.tok 2)])), (.lt (.call 2 0 [(.call 1 0 [(.tok 0), (.call 0 0 [(.tok 0), (.tok 1)])]), (.tok 2)]) (.len (.call 1 0 [(.tok 0), (.call 0 0 [(.tok 0), (.tok 1)])])))] (.leaf [(.fld (.get (.call 1 0 [(.tok 0), (.call 0 0 [(.tok 0), (.tok 1)])]) (.call 2 0 [(.call 1 0 [(.tok 0), (.call 0 0 [(.tok 0), (.tok 1)])]), (.tok 2)])) 1), (.lit (.b .true))])))))))
theorem qt4 (g0 g1 g2 : GfZ) : CdZ [(qs, g0), (zi, g1), (y7, g2)] qwi q1c Tryz.f9 q6n := fun cd h => by injection h with h; subst h; kernel_rfl
theorem qhl {g0 g1 g2 g : GfZ} (h0 : FOk qs g0) (h1 : FOk zi g1) (h2 : FOk y7 g2) (h : HgZ q6n q1c [(qs, g0), (zi, g1), (y7, g2)] g) : FOk q1c g := yh (qt4 g0 g1 g2) (.cons h0 (.cons h1 (.cons h2 .nil))) rfl rfl qp1 (by decide) h
def q19 : Ct := ⟨16, [.ref (.st 26) true, .val (.st 28), .val (.str), .val (.st 28)], [(.int .i64, false)], [], none, [], []⟩
theorem qpr : EnZ q19 := fun _ _ => by kernel_rfl
def qhp : Ann := ⟨[0, 1, 2, 3, 5, 7, 8, 9, 10, 11, 12, 13, 14, 16, 52, 62, 76, 78, 86, 90, 114], []⟩
def q9y : Tree :=
 let i : X := .tok 0
 let t : X := .lit (.i 13)
 let u : X := .lit (.i 3)
 let x : X := .lit (.i 1)
 let c1 : X := .lit (.i 0)
 let f : X := .call 0 0 [i, (.tok 1)]
 let a : X := .call 3 0 [i, f]
 let q : X := .fld f 1
 let v : X := .eq (.fld f 0) (.lit (.i 5))
 let e : X := .app a (.row [(.mk [(.tok 2), (.tok 3)])])
 let h : X := .call 4 0 [a, (.tok 2)]
 let k : X := .add q (.lit (.i 2))
 let o : X := .or (.or (.not (.call 0 1 [i, (.tok 1)])) (.and v (.not (.call 1 0 [i, f])))) (.lt (.lit (.i 100)) (.slen (.tok 2)))
 let l : X := .set (.get a h) 1 (.tok 3)
 let m : X := .call 5 2 [i, e]
 let r : X := .call 5 0 [i, e]
 let w : X := .call 5 1 [i, e]
 let b : X := .call 5 2 [i, (.put a h l)]
 let c : X := .set m 4 (.add (.fld m 4) x)
 let p : X := .call 5 0 [i, (.put a h l)]
 let s : X := .call 5 1 [i, (.put a h l)]
 let a1 : X := .call 6 0 [m, k, r]
 let j : X := .mk [(.lit (.i 5)), (.len (.fld (.set b 4 (.add (.fld b 4) x)) 0))]
 let n : X := .mk [(.lit (.i 5)), (.len (.fld c 0))]
 let y : X := .call 6 0 [b, k, p]
 let d : X := .set (.set b 4 (.add (.fld b 4) x)) 0 (.app (.fld (.set b 4 (.add (.fld b 4) x)) 0) (.row [j, (.mk [x, (.fld (.set b 4 (.add (.fld b 4) x)) 4)]), p]))
 let g : X := .set c 0 (.app (.fld c 0) (.row [n, (.mk [x, (.fld c 4)]), r]))
 let z : X := .call 6 0 [d, q, j]
 let b1 : X := .call 6 0 [g, q, n]
 (.need [(.ok 0 [i, (.tok 1)]), (.ok 0 [i, (.tok 1)])] (.need [(.imp (.not o) (.ok 2 [i, (.tok 3)])), (.imp (.and (.not (.not (.call 0 1 [i, (.tok 1)]))) v) (.ok 1 [i, f]))] (.br (.or o (.not (.call 2 0 [i, (.tok 3)]))) (.leaf [x, i]) (.need [(.ok 3 [i, f])] (.need [(.ok 4 [a, (.tok 2)])] (.br (.le c1 h) (.need [(.le c1 h), (.lt h (.len a))] (.br (.lt (.lit (.i 499)) (.len (.put a h l))) (.leaf [(.lit (.i 2)), i]) (.need [(.ok 5 [i, (.put a h l)])] (.br (.not (.eq s c1)) (.need [(.ok 7 [s, b, i])] (.leaf [s, (.call 7 0 [s, b, i])])) (.br v (.need [(.rng .i64 k), (.ok 6 [b, k, p])] (.need [(.ok 7 [y, (.call 6 1 [b, k, p]), i])] (.leaf [y, (.call 7 0 [y, (.call 6 1 [b, k, p]), i])]))) (.need [(.rng .i64 (.sub (.fld b 5) u))] (.br (.or (.lt (.sub (.fld b 5) u) (.len (.fld b 0))) (.le (.lit (.i 1099511627776)) (.fld b 4))) (.need [(.ok 7 [t, b, i])] (.leaf [t, (.call 7 0 [t, b, i])])) (.need [(.rng .i64 (.add (.fld b 4) x))] (.need [(.le (.add (.len (.fld (.set b 4 (.add (.fld b 4) x)) 0)) u) (.lit (.i 8796093021952)))] (.need [(.ok 6 [d, q, j])] (.need [(.ok 7 [z, (.call 6 1 [d, q, j]), i])] (.leaf [z, (.call 7 0 [z, (.call 6 1 [d, q, j]), i])])))))))))))) (.need [(.le (.add (.len a) x) (.lit (.i 4398046510976)))] (.br (.lt (.lit (.i 499)) (.len e)) (.leaf [(.lit (.i 2)), i]) (.need [(.ok 5 [i, e])] (.br (.not (.eq w c1)) (.need [(.ok 7 [w, m, i])] (.leaf [w, (.call 7 0 [w, m, i])])) (.br v (.need [(.rng .i64 k), (.ok 6 [m, k, r])] (.need [(.ok 7 [a1, (.call 6 1 [m, k, r]), i])] (.leaf [a1, (.call 7 0 [a1, (.call 6 1 [m, k, r]), i])]))) (.need [(.rng .i64 (.sub (.fld m 5) u))] (.br (.or (.lt (.sub (.fld m 5) u) (.len (.fld m 0))) (.le (.lit (.i 1099511627776)) (.fld m 4))) (.need [(.ok 7 [t, m, i])] (.leaf [t, (.call 7 0 [t, m, i])])) (.need [(.rng .i64 (.add (.fld m 4) x))] (.need [(.le (.add (.len (.fld c 0)) u) (.lit (.i 8796093021952)))] (.need [(.ok 6 [g, q, n])] (.need [(.ok 7 [b1, (.call 6 1 [g, q, n]), i])] (.leaf [b1, (.call 7 0 [b1, (.call 6 1 [g, q, n]), i])]))))))))))))))))))
theorem qtn (g0 g1 g2 g3 g4 g5 g6 : List D → Option (List D)) : ∀ cd, Tryz.f16.body = some cd → z6s Tryz.prog [(qs, g0), (zp, g1), (ql, g2), (zi, g3), (y7, g4), (yq, g5), (zg, g6), (qdc, q4y)] qhp q19 Tryz.f16 7 cd = q9y := by
 intro cd h
 injection h with h
 subst h
 kernel_rfl
theorem qyg {g0 g1 g2 g3 g4 g5 g6 : List D → Option (List D)} (h0 : FOk qs g0) (h1 : FOk zp g1) (h2 : FOk ql g2) (h3 : FOk zi g3) (h4 : FOk y7 g4) (h5 : FOk yq g5) (h6 : FOk zg g6) (h : ∀ ds outs, WfA q19.ars ds → g ds = some outs → q9y.go (qb [(qs, g0), (zp, g1), (ql, g2), (zi, g3), (y7, g4), (yq, g5), (zg, g6), (qdc, q4y)]) (fun o => o = outs) ds fun _ _ => False) : FOk q19 g :=
 FOk.of_at qpr fun ds outs hw hg => z17 qhp Tryz.f16 7 _ (.cons h0 (.cons h1 (.cons h2 (.cons h3 (.cons h4 (.cons h5 (.cons h6 (.cons qwe .nil)))))))) (fun _ => rfl) rfl rfl (by decide) rfl (by rw [qtn g0 g1 g2 g3 g4 g5 g6 _ rfl]; exact h ds outs hw hg)
def q4p : Ct := ⟨17, [.ref (.st 26) true, .val (.st 28), .val (.str)], [(.int .i64, false)], [], none, [], []⟩
theorem qs7 : EnZ q4p := fun _ _ => by kernel_rfl
def qgw : Ann := ⟨[0, 1, 2, 4, 6, 7, 8, 9, 10, 11, 13, 28, 38, 44, 46, 58], []⟩
def qa3 : Tree :=
 let c : X := .tok 0
 let j : X := .lit (.i 1)
 let k : X := .lit (.i 0)
 let b : X := .call 0 0 [c, (.tok 1)]
 let d : X := .add (.fld b 1) (.lit (.i 2))
 let e : X := .call 2 0 [(.call 1 0 [c, b]), (.tok 2)]
 let a : X := .call 4 0 [(.call 1 0 [c, b]), e, (.add e j)]
 let f : X := .call 5 2 [c, a]
 let g : X := .call 5 0 [c, a]
 let h : X := .call 5 1 [c, a]
 let i : X := .call 6 0 [f, d, g]
 (.need [(.ok 0 [c, (.tok 1)]), (.ok 0 [c, (.tok 1)])] (.br (.or (.not (.call 0 1 [c, (.tok 1)])) (.lt (.lit (.i 100)) (.slen (.tok 2)))) (.leaf [j, c]) (.need [(.ok 1 [c, b])] (.need [(.ok 2 [(.call 1 0 [c, b]), (.tok 2)])] (.br (.lt e k) (.leaf [k, c]) (.need [(.ok 3 [c, b])] (.br (.not (.call 3 0 [c, b])) (.leaf [j, c]) (.need [(.rng .i64 (.add e j)), (.ok 4 [(.call 1 0 [c, b]), e, (.add e j)]), (.ok 5 [c, a])] (.br (.not (.eq h k)) (.need [(.ok 7 [h, f, c])] (.leaf [h, (.call 7 0 [h, f, c])])) (.need [(.rng .i64 d), (.ok 6 [f, d, g])] (.need [(.ok 7 [i, (.call 6 1 [f, d, g]), c])] (.leaf [i, (.call 7 0 [i, (.call 6 1 [f, d, g]), c])]))))))))))))
theorem qtd (g0 g1 g2 g3 g4 g5 g6 : List D → Option (List D)) : ∀ cd, Tryz.f17.body = some cd → z6s Tryz.prog [(qs, g0), (zi, g1), (y7, g2), (zp, g3), (yj, g4), (yq, g5), (zg, g6), (qdc, q4y)] qgw q4p Tryz.f17 7 cd = qa3 := by
 intro cd h
 injection h with h
 subst h
 kernel_rfl
theorem qyx {g0 g1 g2 g3 g4 g5 g6 : List D → Option (List D)} (h0 : FOk qs g0) (h1 : FOk zi g1) (h2 : FOk y7 g2) (h3 : FOk zp g3) (h4 : FOk yj g4) (h5 : FOk yq g5) (h6 : FOk zg g6) (h : ∀ ds outs, WfA q4p.ars ds → g ds = some outs → qa3.go (qb [(qs, g0), (zi, g1), (y7, g2), (zp, g3), (yj, g4), (yq, g5), (zg, g6), (qdc, q4y)]) (fun o => o = outs) ds fun _ _ => False) : FOk q4p g :=
 FOk.of_at qs7 fun ds outs hw hg => z17 qgw Tryz.f17 7 _ (.cons h0 (.cons h1 (.cons h2 (.cons h3 (.cons h4 (.cons h5 (.cons h6 (.cons qwe .nil)))))))) (fun _ => rfl) rfl rfl (by decide) rfl (by rw [qtd g0 g1 g2 g3 g4 g5 g6 _ rfl]; exact h ds outs hw hg)
def yk : Ct := ⟨23, [.ref (.st 26) true], [(.row 29, true), (.int .i64, false)], [], none, [], []⟩
theorem q25 : EnZ yk := fun _ _ => by kernel_rfl
end Go.Proofs.YtdaadonfbnedaaaGreat
