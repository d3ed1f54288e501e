/-
  Lemmas of the walk and plain laws, put together. No condition.
-/
import Derived.Defers
import Derived.Test.YtaoamndcdjelnaaZc
namespace Go.Proofs.Ytaoamndcdjelnaa
open Go.RowKit
set_option linter.unusedVariables false
set_option maxRecDepth 100000

def bwG (g : FuncId) : List (FuncId × FuncId × TypeId × TypeId) → Option (FuncId × FuncId × TypeId × TypeId)
  | [] => none
  | e :: l => if Nat.beq e.2.1 g then some e else bwG g l
theorem bwG_ok {g : FuncId} {e : FuncId × FuncId × TypeId × TypeId} : ∀ {l : List (FuncId × FuncId × TypeId × TypeId)}, bwG g l = some e → e ∈ l ∧ e.2.1 = g
  | [], h => by cases h
  | x :: l, h => by
    unfold bwG at h
    split at h
    · rename_i hx
      injection h with h
      subst h
      exact ⟨List.mem_cons_self, Nat.eq_of_beq_eq_true hx⟩
    · obtain ⟨h1, h2⟩ := bwG_ok h
      exact ⟨List.mem_cons_of_mem _ h1, h2⟩

def bwFact (σ : St) (g : Operand) : Option (X × FuncId × TypeId) := match opd σ [] g with
  | some (.fn f [.fr _ (.v x (.row E) _ _)]) => some (x, f, E)
  | _ => none

def roundS (σh : St) (ti tx i : Nat) (x : X) (te : Ty) : St := ⟨putA (putA σh.t ti (.v (.tok i) (.int .i64) [] [])) tx (.v (.get x (.tok i)) te [] []), σh.m⟩

def roundE (id : Nat) (ms : List Item) (kill : List Nat) (σk : St) (i : Nat) : ResD → St → Tree := fun r σb => match r with
  | .normal => (match conv [] ms (σb.drop kill) with
    | some (σc, _, vb) => if covers σc σk then .back id (vb ++ [subX (.tok i) (.lit (.i 1))]) else .bad (3000000 + id)
    | none => .bad (4000000 + id))
  | _ => .bad (10000000 + id)

def rangeB (P : Program) (tbl : Tbl) (ann : Ann) (lo z : Nat) (id : Nat) (ms : List Item) (kill : List Nat) (g : Operand) (ti tx : Nat) (assign body : Code) (n : Nat) (σ : St) (k : Nat → St → Tree) : Tree := match conv [] ms σ with
  | some (σ1, _, vb) => (match bwFact (keptS [] ms kill n ⟨snT σ1.t, σ1.m⟩) g with
    | some (x, f, E) => (match bwG f bwTab, tyOf E with
      | some e, some te => if Nat.beq e.2.2.2 E && (flatB 8 te && (X.upto n x && (plainT σ1.t && (plainT (unT (keptS [] ms kill n ⟨snT σ1.t, σ1.m⟩).t) && (Nat.blt ti z && Nat.blt tx z))))) then
          .loop id n (vb ++ [subX (lenX x) (.lit (.i 1))])
            (.br (leX (.lit (.i 0)) (.tok (n + vb.length)))
              (toT P tbl ann lo z assign [id] (n + (vb.length + 1)) (roundS (headS [] ms n (keptS [] ms kill n ⟨snT σ1.t, σ1.m⟩)) ti tx (n + vb.length) x te) fun n1 r1 σa => match r1 with
                | .normal => toT P tbl ann lo z body [id] n1 σa fun n2 r2 σb => roundE id ms kill (keptS [] ms kill n ⟨snT σ1.t, σ1.m⟩) (n + vb.length) r2 σb
                | _ => .bad (11000000 + id))
              (k (n + (vb.length + 1)) ⟨unT (headS [] ms n (keptS [] ms kill n ⟨snT σ1.t, σ1.m⟩)).t, (headS [] ms n (keptS [] ms kill n ⟨snT σ1.t, σ1.m⟩)).m⟩))
        else .bad (12000000 + id)
      | _, _ => .bad (13000000 + id))
    | none => .bad (14000000 + id))
  | none => .need (infoS σ [] ms) (.bad (5000000 + id))

section
variable {c : Cx} {p : Pins} {w w' w0 : World} {S0 : Nat → Prop} {a : Act} {σ σ' : St} {d : List Deferred} {z : Nat} {tbl : Tbl} {A : Nat → Prop}

theorem turn_stab {l : Nat} (hA : ¬ A l) (pa : ∀ x b, p x = some b → A b) (o : Obj) : Stab A no no p w p (w.putObj l o) := by
  refine ⟨by simp, fun b hb ha hf => ⟨World.putObj_heap_other (fun e => hA (e ▸ ha)), hf⟩, fun x b _ hx => hx, fun x b _ hx => World.putObj_heap_other (fun e => hA (e ▸ pa x b hx))⟩
theorem turn_bs {l : Nat} (h : Bs A w0 S0 p w) (hA : ¬ A l) (hS : S0 l) (o : Obj) : Bs A w0 S0 p (w.putObj l o) := by
  refine ⟨h.inj, fun x b hx => by simpa using h.bd x b hx, ⟨h.but.os, h.but.tape, h.but.output, by simpa using h.but.size, fun k hk hn => (World.putObj_heap_other (fun e => hn (by rw [e]; exact hS))).trans (h.but.block k hk hn)⟩, h.pin, h.new, h.pa, fun x b hx => (h.obj x b hx).same (World.putObj_heap_other (fun e => hA (e ▸ h.pa x b hx)))⟩
theorem SF.same (hs : Stab c.A no no p w p w') (h : SF c σ p w a) : SF c σ p w' a := by
  refine ⟨fun t x hx => ?_, fun k e he => (h.m k e he).kept hs (fun _ _ => ⟨rfl, rfl⟩) ⟨rfl, rfl⟩⟩
  obtain ⟨v, h1, h2⟩ := h.t t x hx
  exact ⟨v, h1, AV.kept hs x v (fun _ _ => ⟨rfl, rfl⟩) (fun _ _ => rfl) h2⟩

theorem bwFact_ok (hf : SF c σ p w a) {g : Operand} {x : X} {f : FuncId} {E : TypeId} (h : bwFact σ g = some (x, f, E)) :
    ∃ gc T A1 cap te, a.eval g = .func (.func f) #[] #[.pointer (some ⟨gc, 0, none⟩)] ∧ c.A gc ∧ Free p gc ∧ w.heap[gc]? = some (.cells #[.slice A1 (x.ev c.v).rs.length cap] T (0, 0)) ∧ tyOf E = some te ∧ x.ev c.v = .r (x.ev c.v).rs ∧ (x.ev c.v).rs.length ≤ LM te ∧ ∃ F : Nat → Prop, RdE w F (x.ev c.v).rs te A1 0 := by
  unfold bwFact at h
  split at h
  · rename_i f' T x' E' own dep hg
    simp only [Option.some.injEq, Prod.mk.injEq] at h
    obtain ⟨rfl, rfl, rfl⟩ := h
    obtain ⟨vs, hev, v1, r, rfl, ⟨gc, u, hA, hfr, rfl, hh, cs, hp, hc⟩, hr⟩ := q07 hf rfl hg
    have hr : r = [] := hr
    subst hr
    obtain ⟨v2, rfl⟩ : ∃ v2, cs = [v2] := by
      have := hc.len.1
      match cs, this with
      | [v2], _ => exact ⟨v2, rfl⟩
    have hp : [v2] = [u] := hp
    injection hp with hp
    subst hp
    obtain ⟨te, A1, cap, hte, e1, e2, h1, h2, h3, h4⟩ := hc.row
    subst e2
    exact ⟨gc, T, A1, cap, te, hev, hA, hfr, hh, hte, e1, h2, _, h4⟩
  · cases h

theorem flat_els {te : Ty} (hb : flatB 8 te = true) {F : Nat → Prop} {l : List D} {A1 : Option Addr} (h : RdE w F l te A1 0) : ∃ (els : Nat → List Value) (ev : Nat → Value), ∀ i (hi : i < l.length), (Pack te (els i) (ev i) ∧ (els i).length = te.w) ∧ (∃ b off, A1 = some ⟨b, off, none⟩ ∧ w.rangeAt b (off + i * te.w) (els i)) ∧ ∀ (w' : World) (F' : Nat → Prop), Rd w' F' l[i] te (els i) := by
  refine ⟨fun i => (encC 8 te (l.getD i .u)).getD [], fun i => (packV te ((encC 8 te (l.getD i .u)).getD [])).getD undef, fun i hi => ?_⟩
  obtain ⟨b, o, cs, e, -, hr, hd⟩ := rdE_iff.1 h i hi
  have henc := rd_encC 8 hb hd
  have hget : l.getD i .u = l[i] := by simp [List.getD_eq_getElem?_getD, List.getElem?_eq_getElem hi]
  simp only [hget, henc, Option.getD_some]
  refine ⟨⟨?_, (Rd.len _ hd).1⟩, ⟨b, o, e, by simpa using hr⟩, fun w' F' => enc_rdC 8 henc⟩
  cases hs : isSt te with
  | true =>
    obtain ⟨S, rfl⟩ : ∃ S, te = .st S := by cases te <;> first | exact ⟨_, rfl⟩ | (cases hs; done)
    rfl
  | false =>
    obtain ⟨v, rfl⟩ := hd.single hs
    have : Pack te [v] v := one_pack hs
    rw [packV_iff.2 this]
    exact this

set_option maxHeartbeats 1000000 in
theorem rangeB_ok {nn : Nat} (hnn : 3 ≤ nn) (htb : TblOk tbl) (hnp : noPan tbl = true) {ann : Ann} {R : List D → Prop} {id : Nat} {ms : List Item} {kill : List Nat} {g : Operand} {ti tx : Nat} {assign body : Code} {n : Nat} {k : Nat → St → Tree} {l : List D} {B : Nat → List D → Prop} {Q : Exit → Act → World → Prop}
    (h : (rangeB Try.prog tbl ann c.lo z id ms kill g ti tx assign body n σ k).go (tblS tbl) R l B) (hl : l.length = n) (hb : Bs c.A w0 S0 p w) (hf : SF (c.at (tblS tbl) l) σ p w a) (hz : a.tmps.size = z)
    (hen : ∀ e ∈ bwTab, ∀ (args : Array Value) (w : World), (callFunc e.2.1 args).run Try.prog w = .ok (.enter e.2.1 args) w)
    (hk : ∀ n' σ' l' B' p' w' (c2 : Cx), l'.length = n' → l'.take n = l → (∀ j, j ≠ id → B' j = B j) → (k n' σ').go (tblS tbl) R l' B' → Bs c.A w0 S0 p' w' → c2.lo = c.lo → c2.At = c.At → (∀ b, c2.A b → c.A b) → (∀ b, w'.heap.size ≤ b → c2.A b) → (∀ x b, p' x = some b → c2.A b) → ¬ c2.A w.heap.size →
      SF (c2.at (tblS tbl) l') σ' p' w' { a with defers := { target := .collected w.heap.size, args := #[] } :: a.defers } → w'.heap[w.heap.size]? = some (.deferred (some [])) →
      Q .normal { a with defers := { target := .collected w.heap.size, args := #[] } :: a.defers } w') :
    (Code.rangeFunc g #[ti, tx] assign body).wpIn (FR none) nn Try.prog Q a w := by
  unfold rangeB at h
  split at h
  · rename_i σ1 va vb hcv
    split at h
    · rename_i x f E hbf
      split at h
      · rename_i e te hbw hte
        split at h
        · rename_i hok
          simp only [Bool.and_eq_true, Nat.blt_eq] at hok
          obtain ⟨hE, hflat, hux, hp1, hp2, hti, htx⟩ := hok
          obtain ⟨hmem, hef⟩ := bwG_ok hbw
          have hE' := Nat.eq_of_beq_eq_true hE
          subst hef
          obtain ⟨IT, μ, hI0, hgo⟩ := h
          -- the change of names
          unfold conv at hcv
          split at hcv
          · rename_i hrb
            split at hcv
            · rename_i va' vb' hva hvb
              simp only [Option.some.injEq, Prod.mk.injEq] at hcv
              obtain ⟨rfl, rfl, rfl⟩ := hcv
              obtain ⟨p1, hb1, hf1⟩ := ren_ok (c := c.at (tblS tbl) l) hrb hb hf
              have hlt : l.take n = l := by rw [← hl]; exact List.take_length
              obtain ⟨A', hA'⟩ : ∃ A' : Nat → Prop, A' = fun b => c.A b ∧ b ≠ w.heap.size ∧ b ≠ w.heap.size + 1 := ⟨_, rfl⟩
              have hAn : ∀ b, w.heap.size + 2 ≤ b → A' b := fun b hb' => by
                rw [hA']
                exact ⟨hb.new b (by have := hb.but.size; omega), by omega, by omega⟩
              have hAc : ∀ b, A' b → c.A b := fun b h => by rw [hA'] at h; exact h.1
              have hAD : ¬ A' w.heap.size := fun h => by rw [hA'] at h; exact h.2.1 rfl
              have hAL : ¬ A' (w.heap.size + 1) := fun h => by rw [hA'] at h; exact h.2.2 rfl
              have hAw : ∀ b, b < w.heap.size → c.A b → A' b := fun b hlt ha => by rw [hA']; exact ⟨ha, by omega, by omega⟩
              clear hA'
              obtain ⟨c', hcv', hcA', hclo', hcT', hcs'⟩ : ∃ c' : Cx, c'.v = c.v ∧ c'.A = A' ∧ c'.lo = c.lo ∧ c'.At = c.At ∧ c'.snap = fun t => a.tmps.getD t undef := ⟨⟨c.v, A', c.lo, c.At, c.new, fun t => a.tmps.getD t undef⟩, rfl, rfl, rfl, rfl, rfl⟩
              have hsn : ∀ t v, a.tmps[t]? = some v → c'.snap t = v := fun t v hv => by
                rw [hcs']
                show a.tmps.getD t undef = v
                rw [Array.getD_eq_getD_getElem?, hv]
                rfl
              have hs1 : SF (c'.at (tblS tbl) l) ⟨snT (σ.ren (renOf σ [] ms)).t, (σ.ren (renOf σ [] ms)).m⟩ p1 w a :=
                SF.snap (c := c.at (tblS tbl) l) (c' := c'.at (tblS tbl) l) (fun b hlt ha => by show c'.A b; rw [hcA']; exact hAw b hlt ha) rfl hcT'.symm hsn hp1 hf1
              have hsk := keptS_ok (ts := []) (ms := ms) (kill := kill) (n := n) hs1
              obtain ⟨gc, T, A1, cap, te', hev, hgA, hgF, hgh, hte', hxr, hxl, F0, hRd⟩ := bwFact_ok hsk hbf
              obtain rfl := Option.some.inj (hte'.symm.trans hte)
              obtain ⟨els, ev, hels⟩ := flat_els hflat hRd
              have hgA : A' gc := by have : c'.A gc := hgA; rwa [hcA'] at this
              obtain ⟨xs, hxs⟩ : ∃ xs, (x.ev (evl (tblS tbl) l)).rs = xs := ⟨_, rfl⟩
              have hxs' : (x.ev (c'.at (tblS tbl) l).v).rs = xs := hxs
              rw [hxs'] at hgh hxl hRd
              simp only [hxs'] at hels
              obtain ⟨w1, hw1⟩ : ∃ w1 : World, w1 = (w.alloc (.deferred (some []))).alloc (.deferred none) := ⟨_, rfl⟩
              obtain ⟨S1, hS1⟩ : ∃ S1 : Nat → Prop, S1 = fun b => pinned p1 b ∨ b = w.heap.size ∨ b = w.heap.size + 1 := ⟨_, rfl⟩
              have hw1s : w1.heap.size = w.heap.size + 2 := by rw [hw1]; simp
              have hBs0 : ∀ o, Bs A' w1 S1 p1 ((w.alloc (.deferred (some []))).alloc o) := fun o => by
                refine ⟨hb1.inj, fun y b hy => by have := hb1.bd y b hy; simp; omega, ⟨by rw [hw1]; rfl, by rw [hw1]; rfl, by rw [hw1]; rfl, by rw [hw1s]; simp, fun k hk hn => ?_⟩, fun y b hy => .inl (by rw [hS1]; exact .inl ⟨y, hy⟩), fun b hb' => hAn b (by omega), fun y b hy => hAw b (hb1.bd y b hy) (hb1.pa y b hy), fun y b hy => ?_⟩
                · rw [hS1] at hn
                  have h1 : k ≠ w.heap.size := fun e => hn (.inr (.inl e))
                  have h2 : k ≠ w.heap.size + 1 := fun e => hn (.inr (.inr e))
                  have out : ∀ o, ((w.alloc (.deferred (some []))).alloc o).heap[k]? = w.heap[k]? := fun o => by rw [hget, if_neg (by simpa using h2), hget, if_neg h1]
                  rw [out, hw1, out]
                · rcases hb1.obj y b hy with ⟨cs', T', h2⟩ | ⟨es, clock, h2⟩
                  · exact .inl ⟨cs', T', heap_old (heap_old h2)⟩
                  · exact .inr ⟨es, clock, heap_old (heap_old h2)⟩
              have hSL : S1 (w.heap.size + 1) := by rw [hS1]; exact .inr (.inr rfl)
              have hlenv : ∀ {db : List D} {i : D}, db.length = vb'.length → (db ++ [i]).length = (vb' ++ [subX (lenX x) (.lit (.i 1))]).length := fun {db i} h => by simp [h]
              have htok : ∀ {db : List D} {i : D}, db.length = vb'.length → (l.take n ++ (db ++ [i])).getD (n + vb'.length) .u = i := fun {db i} h => by
                rw [hlt, List.getD_eq_getElem?_getD, List.getElem?_append_right (by omega), List.getElem?_append_right (by omega)]
                simp [hl, h]
              have hidx : ∀ {db : List D} {i : D} {l1 : List D}, db.length = vb'.length → l1.take (n + (vb'.length + 1)) = l.take n ++ (db ++ [i]) → (X.tok (n + vb'.length)).ev (evl (tblS tbl) l1) = i := fun {db i l1} h h1 => by
                show l1.getD (n + vb'.length) .u = i
                rw [← htok (i := i) h, ← h1]
                simp only [List.getD_eq_getElem?_getD]
                rw [List.getElem?_take_of_lt (by omega)]
              have hread : ∀ {db : List D} {i : D} {p : Pins} {W : World}, SF (c'.at (tblS tbl) (l.take n ++ (db ++ [i]))) (headS [] ms n (keptS [] ms kill n ⟨snT (σ.ren (renOf σ [] ms)).t, (σ.ren (renOf σ [] ms)).m⟩)) p W a → W.heap[gc]? = some (.cells #[.slice A1 xs.length cap] T (0, 0)) →
                  W.cell? ⟨gc, 0, none⟩ = some (.slice A1 xs.length cap) ∧ ∀ i, i < xs.length → ∃ b off, A1 = some ⟨b, off, none⟩ ∧ W.rangeAt b (off + i * te'.w) (els i) := fun {db i p W} hf hg => by
                obtain ⟨gc2, T2, A2, cap2, te2, hev2, -, -, hgh2, hte2, -, -, F2, hRd2⟩ := bwFact_ok (x := x) (f := e.2.1) (E := E) hf hbf
                rw [hev] at hev2
                obtain rfl : gc = gc2 := by
                  injection hev2 with _ _ h3
                  injection h3 with h3
                  injection h3 with h3
                  injection h3 with h3
                  injection h3 with h3
                  injection h3
                rw [hg] at hgh2
                have hx2 : (x.ev (c'.at (tblS tbl) (l.take n ++ (db ++ [i]))).v).rs = xs := by
                  rw [← hxs]
                  congr 1
                  refine X.q09 (n := n) (e := evl (tblS tbl) (l.take n ++ (db ++ [i]))) (e' := evl (tblS tbl) l) (fun k hk => ?_) rfl x hux
                  show (l.take n ++ (db ++ [i])).getD k .u = l.getD k .u
                  exact getD_take hk _ (by omega)
                rw [hx2] at hgh2 hRd2
                injection hgh2 with hgh2
                injection hgh2 with hgh2
                injection hgh2 with hgh2
                injection hgh2 with hgh2
                injection hgh2 with e1 e2 e3
                subst e1 e3
                obtain rfl := Option.some.inj (hte2.symm.trans hte)
                refine ⟨by rw [cell_of_row W gc 0 _ T (0, 0) hg]; rfl, fun j hj => ?_⟩
                obtain ⟨b, o, cs, e1, -, hr, hd⟩ := rdE_iff.1 hRd2 j hj
                have q1 := rd_encC 8 hflat hd
                have q2 := rd_encC 8 hflat ((hels j hj).2.2 W F2)
                rw [q1] at q2
                injection q2 with q2
                subst q2
                exact ⟨b, o, e1, by simpa using hr⟩
              have hhead : ∀ {db : List D} {i : D} {l2 : List D} {p : Pins} {W : World}, db.length = vb'.length → n ≤ l2.length → l2.take n = l → SF (c'.at (tblS tbl) l2) (keptS [] ms kill n ⟨snT (σ.ren (renOf σ [] ms)).t, (σ.ren (renOf σ [] ms)).m⟩) p W a → ItM c'.A p W ms db → SF (c'.at (tblS tbl) (l.take n ++ (db ++ [i]))) (headS [] ms n (keptS [] ms kill n ⟨snT (σ.ren (renOf σ [] ms)).t, (σ.ren (renOf σ [] ms)).m⟩)) p W a := fun {db i l2 p W} h1 h2 h3 h4 h5 =>
                head_ok (c := c'.at (tblS tbl) l2) (c' := c'.at (tblS tbl) (l.take n ++ (db ++ [i]))) (da := []) (db := db) rfl rfl ⟨rfl, rfl⟩ (fun k hk => by
                  show l2.getD k .u = (l.take n ++ (db ++ [i])).getD k .u
                  rw [getD_take hk _ (by omega), ← h3]
                  simp only [List.getD_eq_getElem?_getD]
                  rw [List.getElem?_take_of_lt hk]) (fun j hj => by
                  have hj : j < db.length := by simpa using hj
                  show (l.take n ++ (db ++ [i])).getD (n + j) .u = _
                  simp only [List.getD_eq_getElem?_getD]
                  rw [List.getElem?_append_right (by simp; omega)]
                  have e1 : n + j - (l.take n).length = j := by simp; omega
                  rw [e1, List.getElem?_append_left hj]
                  rfl) h4 rfl h5
              have hgcL : gc ≠ w.heap.size + 1 := fun e => hAL (by rw [← e]; exact hgA)
              refine bw_law (bw_in e hmem te' (by rw [hE']; exact hte)) (hen e hmem) hnn (gc := gc) (len := xs.length) (cap := cap) (A := A1) (els := els) (ev := ev) hev (by have hxl := Nat.le_trans hxl (LM_le _); unfold LIM at hxl; omega) (fun i hi => (hels i hi).1)
                (fun k W => ∃ (p : Pins) (db : List D), db.length = vb'.length ∧ IT (db ++ [.i ((xs.length : Int) - 1 - k)]) ∧ Bs A' w1 S1 p W ∧ SF (c'.at (tblS tbl) (l.take n ++ (db ++ [.i ((xs.length : Int) - 1 - k)]))) (headS [] ms n (keptS [] ms kill n ⟨snT (σ.ren (renOf σ [] ms)).t, (σ.ren (renOf σ [] ms)).m⟩)) p W a ∧ W.heap[gc]? = some (.cells #[.slice A1 xs.length cap] T (0, 0)) ∧ Free p gc)
                (fun k a1 W => ∃ (p : Pins) (db : List D) (n1 : Nat) (σa : St) (l1 : List D) (B1 : Nat → List D → Prop), db.length = vb'.length ∧ l1.length = n1 ∧ l1.take (n + (vb'.length + 1)) = l.take n ++ (db ++ [.i ((xs.length : Int) - 1 - k)]) ∧ B1 id = (fun st' => IT st' ∧ μ st' < μ (db ++ [.i ((xs.length : Int) - 1 - k)])) ∧
                  (toT Try.prog tbl ann c.lo z body [id] n1 σa (fun n2 r2 σb => roundE id ms kill (keptS [] ms kill n ⟨snT (σ.ren (renOf σ [] ms)).t, (σ.ren (renOf σ [] ms)).m⟩) (n + vb'.length) r2 σb)).go (tblS tbl) R l1 B1 ∧ Bs A' w1 S1 p W ∧ SF (c'.at (tblS tbl) l1) σa p W a1 ∧ a1.defers = [] ∧ a1.tmps.size = z ∧ W.heap[gc]? = some (.cells #[.slice A1 xs.length cap] T (0, 0)) ∧ Free p gc)
                (fun k W ⟨p, db, h1, h2, h3, h4, h5, h6⟩ => hread h4 h5) ?_ ?_ ?_ ?_ ?_ ?_
              · rintro k W o ⟨p, db, h1, h2, h3, h4, h5, h6⟩ -
                exact ⟨p, db, h1, h2, turn_bs h3 hAL hSL o, SF.same (by show Stab c'.A no no p W p _; rw [hcA']; exact turn_stab hAL h3.pa o) h4, (World.putObj_heap_other hgcL).trans h5, h6⟩
              · rintro k a1 W o ⟨p, db, n1, σa, l1, B1, h1, h2, h3, h4, h5, h6, h7, h8, h9, h10, h11⟩ -
                exact ⟨p, db, n1, σa, l1, B1, h1, h2, h3, h4, h5, turn_bs h6 hAL hSL o, SF.same (by show Stab c'.A no no p W p _; rw [hcA']; exact turn_stab hAL h6.pa o) h7, h8, h9, (World.putObj_heap_other hgcL).trans h10, h11⟩
              · intro o
                have hit := its_M hs1 hvb
                have hst : Stab c'.A no no p1 w p1 ((w.alloc (.deferred (some []))).alloc o) := by
                  refine ⟨by simp; omega, fun b hb ha hf => ⟨by rw [hget, if_neg (by simp; omega), hget, if_neg (by omega)], hf⟩, fun y b _ hy => hy, fun y b _ hy => ?_⟩
                  have := hb1.bd y b hy
                  rw [hget, if_neg (by simp; omega), hget, if_neg (by omega)]
                refine ⟨p1, _, evs_len _, ?_, hBs0 o, SF.same hst (hhead (evs_len _) (by omega) hlt hsk hit), heap_old (heap_old hgh), hgF⟩
                rw [evs_app] at hI0
                have e1 : X.evs (evl (tblS tbl) l) [subX (lenX x) (.lit (.i 1))] = [.i ((xs.length : Int) - 1 - (0 : Nat))] := by
                  show [(subX (lenX x) (.lit (.i 1))).ev (evl (tblS tbl) l)] = _
                  rw [subX_ev]
                  show [D.i (((lenX x).ev (evl (tblS tbl) l)).int - 1)] = _
                  rw [lenX_ev]
                  show [D.i (((x.ev (evl (tblS tbl) l)).rs.length : Int) - 1)] = _
                  rw [hxs]
                  simp
                rw [e1] at hI0
                exact hI0
              · rintro k W ⟨p, db, h1, h2, h3, h4, h5, h6⟩ hk1
                have hcond : ((leX (.lit (.i 0)) (.tok (n + vb'.length))).ev (evl (tblS tbl) (l.take n ++ (db ++ [D.i ((xs.length : Int) - 1 - k)])))).tt = true := by
                  rw [leX_ev, hidx (db := db) (i := .i ((xs.length : Int) - 1 - k)) h1 (by rw [List.take_of_length_le (by simp [h1]; omega)])]
                  show decide ((0 : Int) ≤ (xs.length : Int) - 1 - k) = true
                  simp
                  omega
                have hgk := (hgo _ (hlenv h1) h2).1 hcond
                have hli : (l.take n ++ (db ++ [D.i ((xs.length : Int) - 1 - k)])).length = n + (vb'.length + 1) := by simp [h1]; omega
                have htk : (X.tok (n + vb'.length)).ev (c'.at (tblS tbl) (l.take n ++ (db ++ [D.i ((xs.length : Int) - 1 - k)]))).v = .i ((xs.length : Int) - 1 - k) := htok h1
                have hx2 : (x.ev (c'.at (tblS tbl) (l.take n ++ (db ++ [D.i ((xs.length : Int) - 1 - k)]))).v).rs = xs := by
                  refine Eq.trans (congrArg D.rs ?_) hxs
                  refine X.q09 (n := n) (e := evl (tblS tbl) (l.take n ++ (db ++ [D.i ((xs.length : Int) - 1 - k)]))) (e' := evl (tblS tbl) l) (fun k hk => ?_) rfl x hux
                  exact getD_take hk _ (by omega)
                have hr0 : SF (c'.at (tblS tbl) (l.take n ++ (db ++ [D.i ((xs.length : Int) - 1 - k)]))) (headS [] ms n (keptS [] ms kill n ⟨snT (σ.ren (renOf σ [] ms)).t, (σ.ren (renOf σ [] ms)).m⟩)) p W { tmps := a.tmps, defers := [] } := ⟨h4.t, h4.m⟩
                have hr1 := hr0.put (t := ti) (x := .v (.tok (n + vb'.length)) (.int .i64) [] []) (v := .int .i64 ((xs.length : Int) - 1 - k)) (by show ti < a.tmps.size; omega) (mk_int htk (by have hxl := Nat.le_trans hxl (LM_le _); unfold LIM at hxl; simp [rngB]; omega))
                have hel := hels (xs.length - 1 - k) (by omega)
                have hr2 := hr1.put (t := tx) (x := .v (.get x (.tok (n + vb'.length))) te' [] []) (v := ev (xs.length - 1 - k)) (by show tx < (a.tmps.setIfInBounds ti _).size; simp; omega) ⟨els (xs.length - 1 - k), hel.1.1, Con.of_rd (by
                  have e1 : (X.get x (.tok (n + vb'.length))).ev (c'.at (tblS tbl) (l.take n ++ (db ++ [D.i ((xs.length : Int) - 1 - k)]))).v = xs[xs.length - 1 - k]'(by omega) := by
                    show (x.ev (c'.at (tblS tbl) (l.take n ++ (db ++ [D.i ((xs.length : Int) - 1 - k)]))).v).get ((X.tok (n + vb'.length)).ev (c'.at (tblS tbl) (l.take n ++ (db ++ [D.i ((xs.length : Int) - 1 - k)]))).v).int = _
                    rw [htk]
                    show (x.ev (c'.at (tblS tbl) (l.take n ++ (db ++ [D.i ((xs.length : Int) - 1 - k)]))).v).rs.getD ((xs.length : Int) - 1 - k).toNat .u = _
                    rw [hx2]
                    have e2 : ((xs.length : Int) - 1 - k).toNat = xs.length - 1 - k := by omega
                    rw [e2]
                    simp [List.getD_eq_getElem?_getD, List.getElem?_eq_getElem (show xs.length - 1 - k < xs.length by omega)]
                  rw [e1]
                  exact hel.2.2 W _)⟩
                have h3' : Bs c'.A W (pinned p) p W := by rw [hcA']; exact h3.anew
                rw [← hclo'] at hgk
                refine toT_ok (some (w.heap.size + 1)) (nn - 1 - 1) (c := c') (w0 := W) (S0 := pinned p) (d := []) (z := z) htb assign hgk hli h3' hr2 rfl (by simp; exact hz) (noPan_q hnp) (noPan_r hnp) fun n1 r1 σa l1 B1 p2 W2 a2 q1 q2 q3 q4 q5 q6 q7 q8 => ?_
                cases r1 with
                | normal =>
                  have q5' : Bs A' W (pinned p) p2 W2 := by rw [← hcA']; exact q5
                  have hfl : ∀ b, ¬ A' b → Free p b := fun b hb x hx => hb (h3.pa x b hx)
                  have hWs : w.heap.size + 2 ≤ W.heap.size := by have := h3.but.size; omega
                  have hgs := q5'.stays (b := gc) (Array.getElem?_eq_some_iff.1 h5).1 h6
                  rw [hclo'] at q4
                  exact ⟨⟨p2, db, n1, σa, l1, B1, h1, q1, q2, (q3 id List.mem_cons_self).trans (by unfold updB; rw [if_pos rfl]), q4, h3.comp q5', q6, q7, q8, hgs.1.trans h5, hgs.2⟩, (q5'.stays (by omega) (hfl _ hAL)).1, (q5'.stays (by omega) (hfl _ hAD)).1⟩
                | ret => exact q4.elim
                | exit i => exact q4.elim
              · rintro k a1 W ⟨p, db, n1, σa, l1, B1, h1, h2, h3, h4, h5, h6, h7, h8, h9, h10, h11⟩ hk1
                rw [← hclo'] at h5
                have h6' : Bs c'.A W (pinned p) p W := by rw [hcA']; exact h6.anew
                refine toT_ok (some (w.heap.size + 1)) (nn - 1 - 1) (c := c') (w0 := W) (S0 := pinned p) (d := []) (z := z) htb body h5 h2 h6' h7 h8 h9 (noPan_q hnp) (noPan_r hnp) fun n2 r2 σb l2 B2 p2 W2 a2 q1 q2 q3 q4 q5 q6 q7 q8 => ?_
                cases r2 with
                | normal =>
                  have q5' : Bs A' W (pinned p) p2 W2 := by rw [← hcA']; exact q5
                  unfold roundE at q4
                  simp only at q4
                  have hf2 := SF.un (c := c'.at (tblS tbl) l2) (q := dropQ kill σb) q5.inj q5.pa q6
                  have hb2 := q5.un (dropQ kill σb)
                  change SF _ (σb.drop kill) _ _ _ at hf2
                  split at q4
                  · rename_i σc va2 vb2 hcv2
                    split at q4
                    · rename_i hcov
                      unfold conv at hcv2
                      split at hcv2
                      · rename_i hrb2
                        split at hcv2
                        · rename_i wa wb hwa hwb
                          simp only [Option.some.injEq, Prod.mk.injEq] at hcv2
                          obtain ⟨rfl, rfl, rfl⟩ := hcv2
                          obtain ⟨p3, hb3, hf3⟩ := ren_ok (c := c'.at (tblS tbl) l2) hrb2 hb2 hf2
                          have hb3' : Bs A' W (pinned p) p3 W2 := by rw [← hcA']; exact hb3
                          have hit := its_M hf3 hwb
                          have hlen1 : n + (vb'.length + 1) ≤ n1 := by
                            have := congrArg List.length h3
                            simp [h1, h2] at this
                            omega
                          have hl2 : l2.take (n + (vb'.length + 1)) = l.take n ++ (db ++ [D.i ((xs.length : Int) - 1 - k)]) := by
                            rw [← h3, ← q2, List.take_take, Nat.min_eq_left hlen1]
                          have hl2n : l2.take n = l := by
                            have h1 : (l2.take (n + (vb'.length + 1))).take n = (l.take n ++ (db ++ [D.i ((xs.length : Int) - 1 - k)])).take n := by rw [hl2]
                            rw [List.take_take, Nat.min_eq_left (by omega)] at h1
                            rw [h1, List.take_append_of_le_length (by simp; omega), List.take_take, Nat.min_self, hlt]
                          have hnl : n ≤ l2.length := by
                            have := congrArg List.length hl2n
                            simp at this
                            omega
                          have hbk : B2 id (X.evs (evl (tblS tbl) l2) (wb ++ [subX (.tok (n + vb'.length)) (.lit (.i 1))])) := q4
                          rw [q3 id List.mem_cons_self, h4, evs_app] at hbk
                          have e1 : X.evs (evl (tblS tbl) l2) [subX (.tok (n + vb'.length)) (.lit (.i 1))] = [.i ((xs.length : Int) - 1 - (k + 1 : Nat))] := by
                            show [(subX (.tok (n + vb'.length)) (.lit (.i 1))).ev (evl (tblS tbl) l2)] = _
                            rw [subX_ev, hidx h1 hl2]
                            show [D.i (((xs.length : Int) - 1 - k) - 1)] = _
                            congr 2
                            omega
                          rw [e1] at hbk
                          have hcvr := covers_ok hcov hf3
                          have hoth := SF.other (a := a) (b := a2) (fun t => by
                            show a.tmps[t]? = some (c'.snap t) ∨ _
                            cases hv : a.tmps[t]? with
                            | none => exact .inr rfl
                            | some v => exact .inl (by rw [hsn t v hv])) (by omega) (fun t y hy => by
                            obtain ⟨u, -, e⟩ := lkA_mapK (f := fun t x => AV.sn t x) (sel_lk hy).1
                            exact ⟨u, e⟩) hcvr
                          have hgs := hb3'.stays (b := gc) (Array.getElem?_eq_some_iff.1 h10).1 h11
                          have hfl : ∀ b, ¬ A' b → Free p b := fun b hb x hx => hb (h6.pa x b hx)
                          have hWs : w.heap.size + 2 ≤ W.heap.size := by have := h6.but.size; omega
                          exact ⟨rfl, ⟨p3, _, by rw [evs_len, its_len hwb, its_len hvb], hbk.1, h6.comp hb3', hhead (by rw [evs_len, its_len hwb, its_len hvb]) hnl hl2n hoth hit, hgs.1.trans h10, hgs.2⟩, (hb3'.stays (by omega) (hfl _ hAL)).1, (hb3'.stays (by omega) (hfl _ hAD)).1⟩
                        · cases hcv2
                      · cases hcv2
                    · exact q4.elim
                  · exact q4.elim
                | ret => exact q4.elim
                | exit i => exact q4.elim
              · rintro W ⟨p, db, h1, h2, h3, h4, h5, h6⟩ hD
                have hcond : ((leX (.lit (.i 0)) (.tok (n + vb'.length))).ev (evl (tblS tbl) (l.take n ++ (db ++ [D.i ((xs.length : Int) - 1 - (xs.length : Nat))])))).tt = false := by
                  rw [leX_ev, hidx (db := db) (i := .i ((xs.length : Int) - 1 - (xs.length : Nat))) h1 (by rw [List.take_of_length_le (by simp [h1]; omega)])]
                  show decide ((0 : Int) ≤ (xs.length : Int) - 1 - (xs.length : Nat)) = false
                  simp
                  omega
                have hgk := (hgo _ (hlenv h1) h2).2 hcond
                have hun := SF.unsnap (σ := headS [] ms n (keptS [] ms kill n ⟨snT (σ.ren (renOf σ [] ms)).t, (σ.ren (renOf σ [] ms)).m⟩)) (c := c'.at (tblS tbl) (l.take n ++ (db ++ [D.i ((xs.length : Int) - 1 - (xs.length : Nat))]))) (c' := c'.at (tblS tbl) (l.take n ++ (db ++ [D.i ((xs.length : Int) - 1 - (xs.length : Nat))]))) (fun b _ ha => ha) rfl rfl hp2 h4
                have hWs : w.heap.size + 2 ≤ W.heap.size := by have := h3.but.size; omega
                refine hk _ _ _ _ p W c' (by simp [h1]; omega) (by rw [List.take_append_of_le_length (by simp; omega), List.take_take, Nat.min_self, hlt]) (fun j hj => by unfold updB; rw [if_neg hj]) hgk ?_ hclo' hcT' (fun b hb' => hAc b (by rwa [hcA'] at hb')) (fun b hb' => by rw [hcA']; exact hAn b (by omega)) (fun x b hx => by rw [hcA']; exact h3.pa x b hx) (fun h => hAD (by rwa [hcA'] at h)) ⟨hun.t, hun.m⟩ hD
                have hws : w0.heap.size ≤ w.heap.size := hb1.but.size
                have hSn : ∀ b, S1 b → S0 b ∨ w0.heap.size ≤ b := fun b hb' => by
                  rw [hS1] at hb'
                  rcases hb' with ⟨x, hx⟩ | e | e
                  · exact hb1.pin x b hx
                  · exact .inr (by omega)
                  · exact .inr (by omega)
                refine ⟨h3.inj, h3.bd, ⟨?_, ?_, ?_, by have := h3.but.size; omega, fun j hj hn => ?_⟩, fun x b hx => ?_, hb.new, fun x b hx => hAc b (h3.pa x b hx), h3.obj⟩
                · exact (h3.but.os.trans (by rw [hw1]; rfl)).trans hb1.but.os
                · exact (h3.but.tape.trans (by rw [hw1]; rfl)).trans hb1.but.tape
                · exact (h3.but.output.trans (by rw [hw1]; rfl)).trans hb1.but.output
                · refine (h3.but.block j (by omega) fun hs => ?_).trans ?_
                  · rcases hSn j hs with h | h
                    · exact hn h
                    · omega
                  · rw [hw1, hget, if_neg (by simp; omega), hget, if_neg (by omega)]
                    exact hb1.but.block j hj hn
                · rcases h3.pin x b hx with h | h
                  · exact hSn b h
                  · exact .inr (by omega)
            · cases hcv
          · cases hcv
        · exact h.elim
      · exact h.elim
    · exact h.elim
  · exact h.2.elim
end
end Go.Proofs.Ytaoamndcdjelnaa


namespace Go.Proofs.Ytaoamndcdjelnaa
open Go.RowKit
set_option linter.unusedVariables false
set_option maxRecDepth 100000

def markD (D : Nat) : Deferred := { target := .collected D, args := #[] }
def Dfs (A : Nat → Prop) (lb : Nat) (d : List Deferred) (w : World) (ds : List Deferred) : Prop := ∃ Ds : List Nat, ds = Ds.map markD ++ d ∧ Ds.Nodup ∧ ∀ D ∈ Ds, lb ≤ D ∧ w.heap[D]? = some (.deferred (some [])) ∧ ¬ A D

def toU (P : Program) (tbl : Tbl) (ann : Ann) (lo z : Nat) : Code → Nat → St → (Nat → ResD → St → Tree) → Tree
  | .seq x y, n, σ, k => toU P tbl ann lo z x n σ fun n' r σ' => match r with
    | .normal => toU P tbl ann lo z y n' σ' k
    | .ret => k n' .ret σ'
    | .exit i => k n' (.exit i) σ'
  | .cond c x y, n, σ, k => (match opd σ [] c with
    | some (.v b .bool _ _) => .br b (toU P tbl ann lo z x n σ k) (toU P tbl ann lo z y n σ k)
    | _ => .bad (1000000 + firstId x))
  | .block id c, n, σ, k => toU P tbl ann lo z c n σ fun n' r σ' => match r with
    | .exit i => if Nat.beq i id then k n' .normal σ' else k n' (.exit i) σ'
    | .ret => k n' .ret σ'
    | .normal => k n' .normal σ'
  | .rangeFunc g ps assign body, n, σ, k => (match lkA ann.heads (firstId assign - 1), ps.toList with
    | some h, [ti, tx] => rangeB P tbl ann lo z (firstId assign - 1) (heads h (σ.drop h.kill)).2 h.kill g ti tx assign body n (σ.drop h.kill) fun n' σ' => k n' .normal σ'
    | _, _ => .bad (15000000 + firstId assign))
  | cd, n, σ, k => toT P tbl ann lo z cd [] n σ k

theorem Bs.up {A A' : Nat → Prop} {p p' : Pins} {w w' w0 : World} {S0 : Nat → Prop} (h : Bs A w0 S0 p w) (h' : Bs A' w (pinned p) p' w') (hA : ∀ b, A' b → A b) : Bs A w0 S0 p' w' :=
  h.comp ⟨h'.inj, h'.bd, h'.but, h'.pin, fun b hb => h.new b (Nat.le_trans h.but.size hb), fun x b hx => hA b (h'.pa x b hx), h'.obj⟩

section
variable {lo z : Nat} {tbl : Tbl}

theorem toU_ok {nn : Nat} (hnn : 3 ≤ nn) (htb : TblOk tbl) (hnp : noPan tbl = true) {ann : Ann} {R : List D → Prop} (hen : ∀ e ∈ bwTab, ∀ (args : Array Value) (w : World), (callFunc e.2.1 args).run Try.prog w = .ok (.enter e.2.1 args) w) :
    ∀ (cd : Code) {c : Cx} {n : Nat} {σ : St} {k : Nat → ResD → St → Tree} {l : List D} {B : Nat → List D → Prop} {p : Pins} {w : World} {a : Act} {Q : Exit → Act → World → Prop},
    (toU Try.prog tbl ann lo z cd n σ k).go (tblS tbl) R l B → c.lo = lo → l.length = n → Bs c.A w (pinned p) p w → SF (c.at (tblS tbl) l) σ p w a → a.tmps.size = z →
    (∀ n' r σ' l' B' p' w' a' (c2 : Cx), l'.length = n' → l'.take n = l → (k n' r σ').go (tblS tbl) R l' B' → c2.lo = lo → c2.At = c.At → (∀ b, c2.A b → c.A b) → Bs c.A w (pinned p) p' w' → Bs c2.A w' (pinned p') p' w' → SF (c2.at (tblS tbl) l') σ' p' w' a' → Dfs c2.A w.heap.size a.defers w' a'.defers → a'.tmps.size = z → Q r.exit' a' w') → cd.wpIn (FR none) nn Try.prog Q a w := by
  intro cd
  induction cd with
  | seq x y ihx ihy =>
    intro c n σ k l B p w a Q h hlo hl hb hf hz hk
    simp only [toU] at h
    refine wpIn_seq (ihx h hlo hl hb hf hz fun n' r σ' l' B' p' w' a' c1 hl' hpre hgo hlo1 hT1 hA1 hb' hbn hf' hd' hz' => ?_)
    cases r with
    | normal =>
      refine ihy hgo hlo1 hl' hbn hf' hz' fun n2 r2 σ2 l2 B2 p2 w2 a2 c2 hl2 hpre2 hgo2 hlo2 hT2 hA2 hb2 hbn2 hf2 hd2 hz2 => hk n2 r2 σ2 l2 B2 p2 w2 a2 c2 hl2 ?_ hgo2 hlo2 (hT2.trans hT1) (fun b h => hA1 b (hA2 b h)) (hb'.up hb2 hA1) hbn2 hf2 ?_ hz2
      · have hnn : n ≤ n' := by
          have := congrArg List.length hpre
          simp at this
          omega
        rw [← hpre, ← hpre2, List.take_take, Nat.min_eq_left hnn]
      · obtain ⟨D1, e1, n1, g1⟩ := hd'
        obtain ⟨D2, e2, n2, g2⟩ := hd2
        have hlt : ∀ D ∈ D1, D < w'.heap.size := fun D hD => (Array.getElem?_eq_some_iff.1 (g1 D hD).2.1).1
        refine ⟨D2 ++ D1, by rw [e2, e1]; simp, List.nodup_append.2 ⟨n2, n1, fun x hx y hy e => ?_⟩, fun D hD => ?_⟩
        · have h1 := (g2 x hx).1
          have h2 := hlt y hy
          omega
        · rcases List.mem_append.1 hD with h1 | h1
          · exact ⟨Nat.le_trans hb'.but.size (g2 D h1).1, (g2 D h1).2⟩
          · have hs := hb2.stays (hlt D h1) (fun x hx => (g1 D h1).2.2 (hbn.pa x D hx))
            exact ⟨(g1 D h1).1, hs.1.trans (g1 D h1).2.1, fun h => (g1 D h1).2.2 (hA2 D h)⟩
    | ret => exact hk n' .ret σ' l' B' p' w' a' c1 hl' hpre hgo hlo1 hT1 hA1 hb' hbn hf' hd' hz'
    | exit i => exact hk n' (.exit i) σ' l' B' p' w' a' c1 hl' hpre hgo hlo1 hT1 hA1 hb' hbn hf' hd' hz'
  | cond b x y ihx ihy =>
    intro c n σ k l B p w a Q h hlo hl hb hf hz hk
    simp only [toU] at h
    split at h
    · rename_i q _ _ hc
      obtain ⟨u, e1, e2⟩ := pd_bool (q07 hf rfl hc)
      have e1' : (q.ev (evl (tblS tbl) l)) = .b u := e1
      cases u with
      | true => exact wpIn_cond_true e2 (ihx (h.1 (by rw [e1']; rfl)) hlo hl hb hf hz hk)
      | false => exact wpIn_cond_false e2 (ihy (h.2 (by rw [e1']; rfl)) hlo hl hb hf hz hk)
    · exact h.elim
  | block id cd ih =>
    intro c n σ k l B p w a Q h hlo hl hb hf hz hk
    simp only [toU] at h
    refine wpIn_block (ih h hlo hl hb hf hz fun n' r σ' l' B' p' w' a' c1 hl' hpre hgo hlo1 hT1 hA1 hb' hbn hf' hd' hz' => ?_)
    cases r with
    | normal => exact hk n' .normal σ' l' B' p' w' a' c1 hl' hpre hgo hlo1 hT1 hA1 hb' hbn hf' hd' hz'
    | ret => exact hk n' .ret σ' l' B' p' w' a' c1 hl' hpre hgo hlo1 hT1 hA1 hb' hbn hf' hd' hz'
    | exit i =>
      show Exit.inBlock id Q (.exit i) a' w'
      simp only at hgo
      by_cases hi : i = id
      · rw [if_pos (by rw [hi]; exact Nat.beq_refl id)] at hgo
        simp only [Exit.inBlock, if_pos hi]
        exact hk n' .normal σ' l' B' p' w' a' c1 hl' hpre hgo hlo1 hT1 hA1 hb' hbn hf' hd' hz'
      · rw [if_neg (fun e => hi (Nat.eq_of_beq_eq_true e))] at hgo
        simp only [Exit.inBlock, if_neg hi]
        exact hk n' (.exit i) σ' l' B' p' w' a' c1 hl' hpre hgo hlo1 hT1 hA1 hb' hbn hf' hd' hz'
  | rangeFunc g ps assign body iha ihb =>
    intro c n σ k l B p w a Q h hlo hl hb hf hz hk
    simp only [toU] at h
    split at h
    · rename_i hh ti tx hann hps
      have hps' : ps = #[ti, tx] := by
        apply Array.ext'
        exact hps
      subst hps'
      have hb1 := hb.un (dropQ hh.kill σ)
      have hf1 := SF.un (c := c.at (tblS tbl) l) (q := dropQ hh.kill σ) hb.inj hb.pa hf
      rw [← hlo] at h
      refine rangeB_ok (c := c) (σ := σ.drop hh.kill) hnn htb hnp h hl hb1 hf1 hz hen fun n' σ' l' B' p' w' c2 hl' hpre _ hgo hb' hlo2 hT2 hA2 hnew hpa hnD hf' hD => ?_
      exact hk n' .normal σ' l' B' p' w' _ c2 hl' hpre hgo (hlo2.trans hlo) hT2 hA2 hb' ⟨hb'.inj, hb'.bd, But.refl _ _, fun x b hx => .inl ⟨x, hx⟩, hnew, hpa, hb'.obj⟩ hf' ⟨[w.heap.size], rfl, by simp, fun D hD' => by
        obtain rfl : D = w.heap.size := by simpa using hD'
        exact ⟨Nat.le_refl _, hD, hnD⟩⟩ hz
    · exact h.elim
  | _ =>
    intro c n σ k l B p w a Q h hlo hl hb hf hz hk
    subst hlo
    exact toT_ok none nn (c := c) (w0 := w) (S0 := pinned p) (d := a.defers) (z := z) htb _ h hl hb hf rfl hz (noPan_q hnp) (noPan_r hnp) fun n' r σ' l' B' p' w' a' hl' hpre _ hgo hb' hf' hd' hz' => hk n' r σ' l' B' p' w' a' c hl' hpre hgo rfl rfl (fun b h => h) hb' hb'.anew hf' ⟨[], by rw [hd']; rfl, by simp, fun D hD => by cases hD⟩ hz'
end
end Go.Proofs.Ytaoamndcdjelnaa


namespace Go.Proofs.Ytaoamndcdjelnaa
open Go.RowKit
set_option linter.unusedVariables false
set_option maxRecDepth 100000

def treeU (P : Program) (tbl : Tbl) (ann : Ann) (ct : Ct) (fn : Func) (cd : Code) : Tree :=
  toU P tbl ann ct.ar.length fn.ntmps cd (dataN ct.ars) (begS ct) (endT ct fn.results.toList)

def shut (w : World) (D : Nat) : World := w.putObj D (.deferred none)
def shutAll (w : World) (Ds : List Nat) : World := Ds.foldl shut w

theorem marks_end {F : Fence} {n : Nat} {fn : Func} {tmps : Array Value} {R : Ending → World → Prop} : ∀ (Ds : List Nat) (w : World), Ds.Nodup → (∀ D ∈ Ds, w.heap[D]? = some (.deferred (some []))) → LeavesIn F n Try.prog fn tmps R [] .returning (shutAll w Ds) → LeavesInM F n Try.prog fn tmps R (Ds.map markD) .returning w
  | [], w, _, _, h => h
  | D :: Ds, w, hn, hd, h => by
    obtain ⟨h1, h2⟩ := List.nodup_cons.1 hn
    exact ⟨by simp, .inl ⟨D, _, rfl, run_takeDeferred (hd D List.mem_cons_self), marks_end Ds _ h2 (fun D' hD' => (World.putObj_heap_other (fun e => h1 (by rw [← e]; exact hD'))).trans (hd D' (List.mem_cons_of_mem _ hD'))) h⟩⟩

theorem marks_same {A : Nat → Prop} {p : Pins} (pa : ∀ x b, p x = some b → A b) : ∀ (Ds : List Nat) (w : World), (∀ D ∈ Ds, ¬ A D) → Stab A no no p w p (shutAll w Ds)
  | [], w, _ => Stab.refl _ _ _ _ _
  | D :: Ds, w, h => by
    have h1 := turn_stab (w := w) (h D List.mem_cons_self) pa (.deferred none)
    have h2 := marks_same pa Ds (w.putObj D (.deferred none)) fun D' hD' => h D' (List.mem_cons_of_mem _ hD')
    exact ⟨Nat.le_trans h1.size h2.size, fun b hb ha hf => ⟨(h2.free b (Nat.lt_of_lt_of_le hb h1.size) ha hf).1.trans (h1.free b hb ha hf).1, hf⟩, fun x b _ hx => hx, fun x b _ hx => (h2.con x b rfl hx).trans (h1.con x b rfl hx)⟩

theorem marks_bs {A A' : Nat → Prop} {p : Pins} {w0 : World} {S0 : Nat → Prop} (pa : ∀ x b, p x = some b → A' b) : ∀ (Ds : List Nat) (w : World), Bs A w0 S0 p w → (∀ D ∈ Ds, w0.heap.size ≤ D ∧ ¬ A' D) → Bs A w0 S0 p (shutAll w Ds)
  | [], w, h, _ => h
  | D :: Ds, w, h, hD => by
    obtain ⟨h1, h2⟩ := hD D List.mem_cons_self
    refine marks_bs pa Ds (w.putObj D (.deferred none)) ⟨h.inj, fun x b hx => by simpa using h.bd x b hx, ⟨h.but.os, h.but.tape, h.but.output, by simpa using h.but.size, fun k hk hn => (World.putObj_heap_other (by omega)).trans (h.but.block k hk hn)⟩, h.pin, h.new, h.pa, fun x b hx => (h.obj x b hx).same (World.putObj_heap_other (fun e => h2 (by rw [← e]; exact pa x b hx)))⟩ fun D' hD' => hD D' (List.mem_cons_of_mem _ hD')

theorem ResL.chA {A A' : Nat → Prop} {p : Pins} {w : World} (hA : ∀ b, b < w.heap.size → A b → A' b) : ∀ {rs : List (Ty × Bool)} {k : Nat} {vs : List Value} {ds : List D}, ResL A p w rs k vs ds → ResL A' p w rs k vs ds
  | [], _, _, _, h => h
  | (t, own) :: l, k, vs, ds, ⟨v, r, d, ds', e1, e2, ⟨cs, hp, hc⟩, h⟩ => ⟨v, r, d, ds', e1, e2, ⟨cs, hp, hc.chA hA⟩, ResL.chA hA h⟩
theorem RefL.chA {A A' : Nat → Prop} {p p' : Pins} {w : World} (hA : ∀ b, b < w.heap.size → A b → A' b) : ∀ {all : List (Nat × Ar)} {ds : List D}, RefL A p p' w all ds → RefL A' p p' w all ds
  | [], _, h => h
  | (i, r) :: l, ds, h => by
    cases r with
    | ref t =>
      obtain ⟨d, ds', e, ⟨g, cs, T, h1, h2, h3, hc⟩, h⟩ := h
      exact ⟨d, ds', e, ⟨g, cs, T, h1, h2, h3, hc.chA hA⟩, RefL.chA hA h⟩
    | mref t =>
      obtain ⟨d, ds', e, ⟨g, h1, h2, hc⟩, h⟩ := h
      exact ⟨d, ds', e, ⟨g, h1, h2, hc.chA hA⟩, RefL.chA hA h⟩
    | _ => exact RefL.chA hA (all := l) h

def noMr : Ar → Bool
  | .mref _ => false
  | _ => true
set_option maxHeartbeats 1000000 in
theorem fok_ofU {ct : Ct} {g : List D → Option (List D)} {tbl : Tbl} (ann : Ann) (fn : Func) (cd : Code) (htb : TblOk tbl) (hbw : ∀ e ∈ bwTab, ∀ (args : Array Value) (w : World), (callFunc e.2.1 args).run Try.prog w = .ok (.enter e.2.1 args) w) (hf : Try.prog.funcs[ct.f]? = some fn) (hb : fn.body = some cd)
    (hen : ∀ args w, (callFunc ct.f args).run Try.prog w = .ok (.enter ct.f args) w) (hsz : ct.ar.length ≤ fn.ntmps)
    (h : ∀ ds outs, WfA ct.ars ds → g ds = some outs → (treeU Try.prog tbl ann ct fn cd).go (tblS tbl) (fun o => o = outs) ds fun _ _ => False) (hnp : noPan tbl = true := by rfl) (hmr : (ct.all.all fun e => noMr e.2) = true := by rfl) : FOk ct g := by
  refine ⟨hen, fun A p w vs us ds outs hg hpre hvl hargs => callsIn_wide.1 (callsIn_of_wp_marks (F := FR none) (n := 5) hf hb trivial ?_)⟩
  obtain ⟨hwf, hdl, -⟩ := hargs.wf
  rw [all_map] at hwf hdl
  have hgo := h ds outs hwf hg
  let c : Cx := ⟨evl (tblS tbl) ds, A, ct.ar.length, fun k g => (k < ct.ar.length ∨ VB ≤ k) → p (k * 16) = some g, fun k g hk h2 h => absurd h (by omega), fun q => (vs ++ us).getD q undef⟩
  have hb0 : Bs c.A w (pinned p) p w := ⟨hpre.inj, hpre.bd, But.refl _ _, fun x b hx => .inl ⟨x, hx⟩, hpre.new, hpre.pa, hpre.obj⟩
  have hsf : SF (c.at (tblS tbl) ds) (begS ct) p w { tmps := vs.toArray ++ Array.replicate (fn.ntmps - vs.toArray.size) undef, defers := [] } := by
    refine ⟨fun t x hx => ?_, begM_ok (c := c.at (tblS tbl) ds) (A := A) rfl (fun k => rfl) hargs fun e he => List.mem_iff_getElem?.1 he⟩
    obtain ⟨h1, h2⟩ := begT_ok (c := c.at (tblS tbl) ds) (A := A) (n0 := ct.ar.length) rfl rfl rfl hargs (fun k => rfl) _ _ t x hx
    have hlt : t < vs.length := by omega
    refine ⟨(vs ++ us).getD t undef, ?_, h2⟩
    show (vs.toArray ++ _)[t]? = _
    rw [Array.getElem?_append_left (by simpa using hlt), List.getD_eq_getElem?_getD, List.getElem?_append_left hlt]
    simp [List.getElem?_eq_getElem hlt]
  refine toU_ok (nn := 5) (by omega) htb hnp hbw cd (c := c) hgo rfl hdl hb0 hsf (by simp; omega) fun n' r σ' l' B' p' w' a' c2 hl' hpre' hgo' hlo2 hT2 hA2 hb' hbn hf' hd' hz' => ?_
  obtain ⟨Ds, hds, hnd, hDs⟩ := hd'
  have hds : a'.defers = Ds.map markD := by rw [hds]; simp
  have hst := marks_same hbn.pa Ds w' fun D hD => (hDs D hD).2.2
  have hbF := marks_bs hbn.pa Ds w' hb' fun D hD => ⟨(hDs D hD).1, (hDs D hD).2.2⟩
  have hfF : SF (c2.at (tblS tbl) l') σ' p' (shutAll w' Ds) a' := SF.same hst hf'
  have hbnF : Bs c2.A (shutAll w' Ds) (pinned p') p' (shutAll w' Ds) := ⟨hbF.inj, hbF.bd, But.refl _ _, fun x b hx => .inl ⟨x, hx⟩, fun b hb => hbn.new b (Nat.le_trans hst.size hb), hbn.pa, hbF.obj⟩
  have fin' : ∀ xs, fin ct fn.results.toList σ' = some xs → X.evs (evl (tblS tbl) l') xs = outs → ∃ v, (results fn a'.tmps).run Try.prog (shutAll w' Ds) = .ok v (shutAll w' Ds) ∧ ((∃ T, ct.pn = some T ∧ outs = [.u] ∧ (Ending.returned v) = .panicked (panCh T) ∧ But (pinned p) w (shutAll w' Ds)) ∨ ∃ rs p2, (Ending.returned v) = .returned (retV rs) ∧ Bs A w (pinned p) p2 (shutAll w' Ds) ∧ ResL A p2 (shutAll w' Ds) ct.rs ct.ar.length rs (outs.take ct.rs.length) ∧ RefL A p p2 (shutAll w' Ds) ct.all (outs.drop ct.rs.length)) := by
    intro xs hfin hout
    unfold fin at hfin
    simp only at hfin
    split at hfin
    · rename_i hok
      simp only [Bool.and_eq_true] at hok
      split at hfin
      · rename_i xa xb hxa hxb
        injection hfin with hfin
        subst hfin
        have hb1 := hbnF.un (fun y => !hasN ((resRen σ' (fn.results.toList.zip ct.rs) ct.ar.length ++ refRen σ' ct.all).map (·.1) ++ (refKeys ct.all ++ cellKeys σ' fn.results.toList)) y)
        have hf1 := SF.un (c := c2.at (tblS tbl) l') (q := fun y => !hasN ((resRen σ' (fn.results.toList.zip ct.rs) ct.ar.length ++ refRen σ' ct.all).map (·.1) ++ (refKeys ct.all ++ cellKeys σ' fn.results.toList)) y) hbnF.inj hbnF.pa hfF
        obtain ⟨p2, hb2, hf2⟩ := ren_ok (c := c2.at (tblS tbl) l') hok.1 hb1 hf1
        obtain ⟨l, h1, h2, h3⟩ := resX_ok hf2 (Nat.eq_of_beq_eq_true hok.2) hxa
        have h4 := refX_ok (p0 := p) (n0 := ct.ar.length) hf2 hT2 (fun e he => all_key he) (fun i t hm => (List.all_eq_true.1 hmr _ hm |> fun h => by cases h)) hxb
        have hev : X.evs (evl (tblS tbl) l') xa ++ X.evs (evl (tblS tbl) l') xb = outs := by rw [← evs_app]; exact hout
        have hla : (X.evs (evl (tblS tbl) l') xa).length = ct.rs.length := by rw [evs_len, h3]
        refine ⟨_, results_run h1, .inr ⟨l, p2, rfl, hbF.up hb2 hA2, ResL.chA (A := c2.A) (fun b _ h => hA2 b h) ?_, RefL.chA (A := c2.A) (fun b _ h => hA2 b h) ?_⟩⟩
        · rw [← hev, List.take_append_of_le_length (by omega), ← hla, List.take_length]
          exact h2
        · rw [← hev, ← hla, List.drop_left]
          exact h4
      · cases hfin
    · cases hfin
  have last : ∀ xs, fin ct fn.results.toList σ' = some xs → X.evs (evl (tblS tbl) l') xs = outs → LeavesInM (FR none) 5 Try.prog fn a'.tmps (fun e w' => (∃ T, ct.pn = some T ∧ outs = [.u] ∧ e = .panicked (panCh T) ∧ But (pinned p) w w') ∨ ∃ rs p', e = .returned (retV rs) ∧ Bs A w (pinned p) p' w' ∧ ResL A p' w' ct.rs ct.ar.length rs (outs.take ct.rs.length) ∧ RefL A p p' w' ct.all (outs.drop ct.rs.length)) a'.defers .returning w' := fun xs hx ho => by
    rw [hds]
    exact marks_end Ds w' hnd (fun D hD => (hDs D hD).2.1) (fin' xs hx ho)
  cases r with
  | exit i => exact hgo'.elim
  | normal =>
    simp only [endT] at hgo'
    split at hgo'
    · rename_i xs hx
      exact last xs hx hgo'
    · exact hgo'.elim
  | ret =>
    simp only [endT] at hgo'
    split at hgo'
    · rename_i xs hx
      exact last xs hx hgo'
    · exact hgo'.elim
end Go.Proofs.Ytaoamndcdjelnaa


namespace Go.Proofs.Ytaoamndcdjelnaa
open Go.RowKit
set_option linter.unusedVariables false
set_option linter.unusedSimpArgs false

theorem int_i (n : Int) : (D.i n).int = n := rfl
theorem tt_b (x : Bool) : (D.b x).tt = x := by cases x <;> rfl
theorem rs_r (l : List D) : (D.r l).rs = l := rfl
theorem str_s (x : ByteArray) : (D.s x).str = x := rfl
theorem ms_mp (l : List D) : (D.mp l).ms = l := rfl
theorem i_inj (m n : Int) : (D.i m = D.i n) = (m = n) := by simp
theorem b_inj (m n : Bool) : (D.b m = D.b n) = (m = n) := by simp
theorem s_inj (m n : ByteArray) : (D.s m = D.s n) = (m = n) := by simp
theorem q00 {S : Nat → List D → Option (List D)} {R : List D → Prop} {ns : List X} {t : Tree} {l : List D} {B : Nat → List D → Prop} : (Tree.need ns t).go S R l B = (allSay (evl S l) ns ∧ t.go S R l B) := rfl
theorem go_br {S : Nat → List D → Option (List D)} {R : List D → Prop} {x : X} {t e : Tree} {l : List D} {B : Nat → List D → Prop} : (Tree.br x t e).go S R l B = (((x.ev (evl S l)).tt = true → t.go S R l B) ∧ ((x.ev (evl S l)).tt = false → e.go S R l B)) := rfl
theorem q01 {S : Nat → List D → Option (List D)} {R : List D → Prop} {xs : List X} {l : List D} {B : Nat → List D → Prop} : (Tree.leaf xs).go S R l B = R (X.evs (evl S l) xs) := rfl
theorem q02 {S : Nat → List D → Option (List D)} {R : List D → Prop} {id : Nat} {xs : List X} {l : List D} {B : Nat → List D → Prop} : (Tree.back id xs).go S R l B = B id (X.evs (evl S l) xs) := rfl
theorem go_loop {S : Nat → List D → Option (List D)} {R : List D → Prop} {id n : Nat} {init : List X} {body : Tree} {l : List D} {B : Nat → List D → Prop} : (Tree.loop id n init body).go S R l B = ∃ (I : List D → Prop) (μ : List D → Nat), I (X.evs (evl S l) init) ∧
      ∀ st, st.length = init.length → I st → body.go S R (l.take n ++ st) (updB B id fun st' => I st' ∧ μ st' < μ st) := rfl
theorem rng64 {n : Int} : rngB .i64 n = true ↔ -9223372036854775808 ≤ n ∧ n ≤ 9223372036854775807 := by simp [rngB]

section
variable {α : Type} [Inhabited α]
theorem get_map (e : α → D) {l : List α} {i : Nat} (h : i < l.length) : (l.map e).getD i .u = e (l.getD i default) := by
  simp [List.getD_eq_getElem?_getD, h]
theorem get_r (e : α → D) {l : List α} {i : Int} (h0 : 0 ≤ i) (h : i < l.length) : (D.r (l.map e)).get i = e (l.getD i.toNat default) := get_map e (by omega)
theorem get_n (e : α → D) {l : List α} {i : Nat} (h : i < l.length) : (D.r (l.map e)).get (i : Int) = e (l.getD i default) := get_map e (by simpa using h)
omit [Inhabited α] in
theorem map_inj {e : α → D} (he : ∀ a b, e a = e b → a = b) : ∀ {l m : List α}, l.map e = m.map e → l = m
  | [], [], _ => rfl
  | a :: l, b :: m, h => by
    simp only [List.map_cons, List.cons.injEq] at h
    rw [he a b h.1, map_inj he h.2]
  | [], _ :: _, h => by simp at h
  | _ :: _, [], h => by simp at h
omit [Inhabited α] in
theorem of_all {e : α → D} {P : α → Prop} {l : List D} (h : ∀ x ∈ l, ∃ a, x = e a ∧ P a) : ∃ m : List α, l = m.map e ∧ ∀ a ∈ m, P a := by
  induction l with
  | nil => exact ⟨[], rfl, fun a ha => by cases ha⟩
  | cons x l ih =>
    obtain ⟨a, rfl, ha⟩ := h x List.mem_cons_self
    obtain ⟨m, rfl, hm⟩ := ih fun y hy => h y (List.mem_cons_of_mem _ hy)
    refine ⟨a :: m, rfl, fun b hb => ?_⟩
    rcases List.mem_cons.1 hb with rfl | hb
    · exact ha
    · exact hm b hb
theorem getD_mem {l : List α} {i : Nat} (h : i < l.length) : l.getD i default ∈ l := by
  rw [List.getD_eq_getElem?_getD, List.getElem?_eq_getElem h]
  exact List.getElem_mem h
theorem take_snoc {l : List α} {k : Nat} (h : k < l.length) : l.take (k + 1) = l.take k ++ [l.getD k default] := by
  rw [List.take_add_one, List.getElem?_eq_getElem h]
  simp [List.getD_eq_getElem?_getD, h]
end

theorem all_yes {n : Nat} {P : Nat → Bool} (h : ∀ j, j < n → P j = true) : (List.range n).all P = true := by
  rw [List.all_eq_true]
  exact fun j hj => h j (List.mem_range.1 hj)
theorem all_not {n k : Nat} {P : Nat → Bool} (hk : k < n) (h : P k = false) : (List.range n).all P = false := by
  cases ha : (List.range n).all P with
  | false => rfl
  | true => rw [List.all_eq_true.1 ha k (List.mem_range.2 hk)] at h; cases h
theorem all_of {n k : Nat} {P : Nat → Bool} (h : (List.range n).all P = true) (hk : k < n) : P k = true := List.all_eq_true.1 h k (List.mem_range.2 hk)
theorem upto_succ {P : Nat → Prop} {k : Nat} (h : ∀ j, j < k → P j) (hk : P k) : ∀ j, j < k + 1 → P j := fun j hj => by
  rcases Nat.lt_succ_iff_lt_or_eq.1 hj with h1 | h1
  · exact h j h1
  · exact h1 ▸ hk

theorem wfL2 {ds : List D} {t u : Ty} (h : WfL ds [t, u]) : ∃ a b, ds = [a, b] ∧ Wf a t ∧ Wf b u := by
  match ds, h with
  | [], h => cases h
  | [a], h => obtain ⟨t, ts, e, h1, h2⟩ := h; rw [h2] at e; cases e
  | [a, b], h =>
    obtain ⟨t, ts, e, h1, t2, ts2, e2, h2, -⟩ := h
    injection e with e e'
    subst e e'
    injection e2 with e2 e2'
    subst e2
    exact ⟨a, b, rfl, h1, h2⟩
  | a :: b :: c :: l, h => obtain ⟨t, ts, e, h1, t2, ts2, e2, h2, t3, ts3, e3, -⟩ := h; subst e2 e3; cases e
theorem wfL_cons {ds : List D} {t : Ty} {ts : List Ty} (h : WfL ds (t :: ts)) : ∃ a r, ds = a :: r ∧ Wf a t ∧ WfL r ts := by
  match ds, h with
  | [], h => cases h
  | a :: r, h =>
    obtain ⟨t, ts, e, h1, h2⟩ := h
    injection e with e e'
    subst e e'
    exact ⟨a, r, rfl, h1, h2⟩
theorem Wf.st_of {d : D} {S : TypeId} {fs : List Ty} (h : Wf d (.st S)) (hf : flds S = some fs) : ∃ ds, d = .a ds ∧ WfL ds fs := by
  obtain ⟨ds, fs', rfl, hf', hl⟩ := h.st
  rw [hf] at hf'
  injection hf' with hf'
  subst hf'
  exact ⟨ds, rfl, hl⟩
theorem Wf.row_of {d : D} {E : TypeId} {te : Ty} (h : Wf d (.row E)) (hE : tyOf E = some te) : ∃ l, d = .r l ∧ l.length ≤ LM te ∧ ∀ x ∈ l, Wf x te := by
  obtain ⟨l, te', rfl, hE', h1, h2⟩ := h.row
  rw [hE] at hE'
  injection hE' with hE'
  subst hE'
  exact ⟨l, rfl, h1, h2⟩
end Go.Proofs.Ytaoamndcdjelnaa


namespace Go.Proofs.Ytaoamndcdjelnaa
open Go.RowKit
set_option linter.unusedVariables false
set_option linter.unusedSimpArgs false
set_option maxRecDepth 100000

def isDf (o : Oper) : Bool := match o.op with
  | .defer _ => true
  | _ => false
def cutD : Code → Option (List Code × Nat × List Oper × Code)
  | .seq (.region id ops false) y => if ops.toList.any isDf then some ([], id, ops.toList, y) else (cutD y).map fun r => (.region id ops false :: r.1, r.2)
  | .seq x y => (cutD y).map fun r => (x :: r.1, r.2)
  | _ => none
def preWp (P : Program) (Q : Exit → Act → World → Prop) : List Code → (Act → World → Prop) → Act → World → Prop
  | [], K => K
  | x :: xs, K => fun a w => x.wp P (Exit.then (preWp P Q xs K) Q) a w
theorem cutD_wp {P : Program} {Q : Exit → Act → World → Prop} : ∀ {cd : Code} {xs : List Code} {id : Nat} {ops : List Oper} {post : Code}, cutD cd = some (xs, id, ops, post) → ∀ {a : Act} {w : World}, preWp P Q xs (fun a w => (Code.seq (.region id ops.toArray false) post).wp P Q a w) a w → cd.wp P Q a w
  | .seq x y, xs, id, ops, post, h, a, w, hw => by
    unfold cutD at h
    split at h
    · rename_i id' ops' y' e
      injection e with e1 e2
      subst e1 e2
      split at h
      · simp only [Option.some.injEq, Prod.mk.injEq] at h
        obtain ⟨rfl, rfl, rfl, rfl⟩ := h
        exact hw
      · obtain ⟨⟨xs1, r1⟩, h1, h2⟩ := Option.map_eq_some_iff.1 h
        simp only [Prod.mk.injEq] at h2
        obtain ⟨rfl, rfl⟩ := h2
        refine wp_seq (wp_mono hw fun e a w hq => ?_)
        cases e with
        | normal => exact cutD_wp h1 hq
        | _ => exact hq
    · rename_i x' y' hne e
      injection e with e1 e2
      subst e1 e2
      obtain ⟨⟨xs1, r1⟩, h1, h2⟩ := Option.map_eq_some_iff.1 h
      simp only [Prod.mk.injEq] at h2
      obtain ⟨rfl, rfl⟩ := h2
      refine wp_seq (wp_mono hw fun e a w hq => ?_)
      cases e with
      | normal => exact cutD_wp h1 hq
      | _ => exact hq
    · cases h
  | .skip, _, _, _, _, h, _, _, _ => by simp [cutD] at h
  | .region _ _ _, _, _, _, _, h, _, _, _ => by simp [cutD] at h
  | .cond _ _ _, _, _, _, _, h, _, _, _ => by simp [cutD] at h
  | .block _ _, _, _, _, _, h, _, _, _ => by simp [cutD] at h
  | .exit _, _, _, _, _, h, _, _, _ => by simp [cutD] at h
  | .ret, _, _, _, _, h, _, _, _ => by simp [cutD] at h
  | .loop _, _, _, _, _, h, _, _, _ => by simp [cutD] at h
  | .label _, _, _, _, _, h, _, _, _ => by simp [cutD] at h
  | .scope _, _, _, _, _, h, _, _, _ => by simp [cutD] at h
  | .goto _, _, _, _, _, h, _, _, _ => by simp [cutD] at h
  | .rangeFunc _ _ _ _, _, _, _, _, h, _, _, _ => by simp [cutD] at h
def defT (o : Oper) : Option Nat := match o.op, o.dst, o.guard with
  | .defer c, none, none => (match c.callee, c.args.toList with
    | .value (.tmp t), [] => some t
    | _, _ => none)
  | _, _, _ => none

mutual
def noSnA : AV → Bool
  | .sn _ _ => false
  | .tup l => noSnL l
  | .gd _ a => noSnA a
  | .fn _ l => noSnL l
  | .bx _ _ a => noSnA a
  | .ax _ _ _ a => noSnA a
  | .fr _ a => noSnA a
  | .pt _ _ _ a => noSnA a
  | _ => true
def noSnL : List AV → Bool
  | [] => true
  | a :: l => noSnA a && noSnL l
end
section
variable {c : Cx} {s : Nat → Value} {p : Pins} {w : World}
mutual
theorem pd_snap : ∀ (a : AV) (v : Value), noSnA a = true → AV.pd c p w a v → AV.pd { c with snap := s } p w a v
  | .sn _ _, v, h, _ => by simp [noSnA] at h
  | .tup l, v, h, hp => by
    obtain ⟨vs, e, hl⟩ := hp
    exact ⟨vs, e, pds_snap l vs (by simpa [noSnA] using h) hl⟩
  | .gd cs a, v, h, hp => ⟨fun hh => pd_snap a v (by simpa [noSnA] using h) (hp.1 hh), hp.2⟩
  | .fn f l, v, h, hp => by
    obtain ⟨vs, e, hl⟩ := hp
    exact ⟨vs, e, pds_snap l vs (by simpa [noSnA] using h) hl⟩
  | .bx k T a, v, h, hp => by
    obtain ⟨g, u, h1, h2, h3, h4⟩ := hp
    exact ⟨g, u, h1, h2, h3, pd_snap a u (by simpa [noSnA] using h) h4⟩
  | .ax k T n a, v, h, hp => by
    obtain ⟨g, cs, h1, h2, h3, h4, h5⟩ := hp
    exact ⟨g, cs, h1, h2, h3, h4, pd_snap a _ (by simpa [noSnA] using h) h5⟩
  | .fr T a, v, h, hp => by
    obtain ⟨g, u, h1, h2, h3, h4, h5⟩ := hp
    exact ⟨g, u, h1, h2, h3, h4, pd_snap a u (by simpa [noSnA] using h) h5⟩
  | .pt pin i E a, v, h, hp => ⟨hp.1, pd_snap a v (by simpa [noSnA] using h) hp.2⟩
  | .any, v, _, hp => hp
  | .undef, v, _, hp => hp
  | .v _ _ _ _, v, _, hp => hp
  | .nilS, v, _, hp => hp
  | .nilP, v, _, hp => hp
  | .ref _ _ _ _, v, _, hp => hp
  | .rd _ _ _ _, v, _, hp => hp
  | .nb _ _, v, _, hp => hp
  | .ar _ _ _, v, _, hp => hp
  | .lv _ _, v, _, hp => hp
theorem pds_snap : ∀ (l : List AV) (vs : List Value), noSnL l = true → pds c p w l vs → pds { c with snap := s } p w l vs
  | [], vs, _, hp => hp
  | a :: l, vs, h, hp => by
    simp only [noSnL, Bool.and_eq_true] at h
    obtain ⟨v, r, e, h1, h2⟩ := hp
    exact ⟨v, r, e, pd_snap a v h.1 h1, pds_snap l r h.2 h2⟩
end
end

def preT (P : Program) (tbl : Tbl) (ann : Ann) (lo z : Nat) : List Code → Nat → St → (Nat → ResD → St → Tree) → Tree
  | [], n, σ, k => k n .normal σ
  | x :: xs, n, σ, k => toT P tbl ann lo z x [] n σ fun n' r σ' => match r with
    | .normal => preT P tbl ann lo z xs n' σ' k
    | .ret => k n' .ret σ'
    | .exit i => k n' (.exit i) σ'
def holdT (t : Nat) (σ : St) : Option St := match lkA σ.t t with
  | some (.fn f l) => if (σ.t.all fun e => noSnA e.2) then some ⟨putA σ.t t (.sn (VB + t) (.fn f l)), σ.m⟩ else none
  | _ => none
def freeT (t : Nat) (σ : St) : Option (FuncId × St) := match lkA σ.t t with
  | some (.sn q (.fn f l)) => if Nat.beq q (VB + t) then some (f, ⟨putA σ.t t (.fn f l), σ.m⟩) else none
  | _ => none
def offT (k : Nat) (σ : St) : St := ⟨σ.t.filter fun e => e.1 != k, σ.m⟩
def lastT (P : Program) (tbl : Tbl) (ct : Ct) (fn : Func) (fd : FuncId) (t : Nat) : Nat → ResD → St → Tree := fun n r σ => match r with
  | .exit i => .bad (8000000 + i)
  | _ => match freeT t σ with
    | some (f, σ1) => if Nat.beq f fd && Nat.blt (fn.ntmps - 1) fn.ntmps then (match doCall tbl σ1 [] (fn.ntmps - 1) (.tmp t) [] with
      | some (ns, σ2) => needT ns (endT ct fn.results.toList n .ret (offT (fn.ntmps - 1) σ2))
      | none => .bad 9100000) else .bad 9200000
    | none => .bad 9300000
def midT (P : Program) (tbl : Tbl) (ann : Ann) (ct : Ct) (fn : Func) (fd : FuncId) (ops : List Oper) (post : Code) (n : Nat) (σ : St) : Tree := match ops with
  | [mk, df] => (match defT df with
    | some t => if mk.guard.isNone && dstB ct.ar.length fn.ntmps mk then (match stepG P tbl (dsts [mk, df]) σ mk with
      | some (N, σ1) => (match holdT t σ1 with
        | some σ2 => needT N (toT P tbl ann ct.ar.length fn.ntmps post [] n σ2 (lastT P tbl ct fn fd t))
        | none => .bad 9400000)
      | none => .bad 9500000) else .bad 9600000
    | none => .bad 9700000)
  | _ => .bad 9800000
def treeD (P : Program) (tbl : Tbl) (ann : Ann) (ct : Ct) (fn : Func) (fd : FuncId) (cd : Code) : Tree := match cutD cd with
  | some (xs, _, ops, post) => preT P tbl ann ct.ar.length fn.ntmps xs (dataN ct.ars) (begS ct) fun n r σ => match r with
    | .normal => midT P tbl ann ct fn fd ops post n σ
    | r => endT ct fn.results.toList n r σ
  | none => .bad 9900000

def FOkD (ct : Ct) (g : List D → Option (List D)) : Prop := ∀ (A : Nat → Prop) (p : Pins) (w : World) (vs us : List Value) (ds outs : List D) (u : FrameMode), g ds = some outs → Pre ct.ar.length A p w → vs.length = ct.ar.length → ArgsOk (vs ++ us) A p w ct.all (vs ++ us) ds →
    CallsD Try.prog ct.f vs.toArray u w fun e u' w' => u' = u ∧ ∃ rs p', e = .returned (retV rs) ∧ Bs A w (pinned p) p' w' ∧ ResL A p' w' ct.rs ct.ar.length rs (outs.take ct.rs.length) ∧ RefL A p p' w' ct.all (outs.drop ct.rs.length)
theorem fokD_of {ct : Ct} {g : List D → Option (List D)} {tbl : Tbl} (ann : Ann) (fn : Func) (cd : Code) (htb : TblOk tbl) (hf : Try.prog.funcs[ct.f]? = some fn) (hb : fn.body = some cd) (hsz : ct.ar.length ≤ fn.ntmps)
    (h : ∀ ds outs, WfA ct.ars ds → g ds = some outs → (treeOf Try.prog tbl ann ct fn cd).go (tblS tbl) (fun o => o = outs) ds fun _ _ => False) (hnp : noPan tbl = true := by rfl) : FOkD ct g :=
  fun A p w vs us ds outs u hg hpre hvl hargs => callsD_of_wp hf hb (fok_wp (P := fun e w' => ∃ rs p', e = .returned (retV rs) ∧ Bs A w (pinned p) p' w' ∧ ResL A p' w' ct.rs ct.ar.length rs (outs.take ct.rs.length) ∧ RefL A p p' w' ct.all (outs.drop ct.rs.length)) ann fn cd htb hf hb hsz hpre hvl hargs (fun hw => h ds outs hw hg)
    (fun o rs p' w' ho h1 h2 h3 => ⟨rs, p', rfl, h1, by rw [← ho]; exact h2, by rw [← ho]; exact h3⟩) (fun e he T hT => (noPan_no hnp he hT).elim) (fun _ e he T hT => (noPan_no hnp he hT).elim))

section
variable {c : Cx} {p : Pins} {w w0 : World} {S0 : Nat → Prop} {a : Act} {σ σ' : St} {d : List Deferred} {z : Nat} {tbl : Tbl}
theorem preT_ok (htb : TblOk tbl) {ann : Ann} {R : List D → Prop} (hnp : noPan tbl = true) {Q : Exit → Act → World → Prop} {K : Act → World → Prop} : ∀ (xs : List Code) {n : Nat} {σ : St} {k : Nat → ResD → St → Tree} {l : List D} {B : Nat → List D → Prop} {p : Pins} {w : World} {a : Act},
    (preT Try.prog tbl ann c.lo z xs n σ k).go (tblS tbl) R l B → l.length = n → Bs c.A w0 S0 p w → SF (c.at (tblS tbl) l) σ p w a → a.defers = d → a.tmps.size = z →
    (∀ n' r σ' l' B' p' w' a', l'.length = n' → (k n' r σ').go (tblS tbl) R l' B' → Bs c.A w0 S0 p' w' → SF (c.at (tblS tbl) l') σ' p' w' a' → a'.defers = d → a'.tmps.size = z → Exit.then K Q r.exit' a' w') → preWp Try.prog Q xs K a w
  | [], n, σ, k, l, B, p, w, a, h, hl, hb, hf, hd, hz, hk => hk n .normal σ l B p w a hl h hb hf hd hz
  | x :: xs, n, σ, k, l, B, p, w, a, h, hl, hb, hf, hd, hz, hk => by
    refine (wpIn_wide (n := 0)).1 ?_
    refine toT_ok none 0 htb x h hl hb hf hd hz (noPan_q hnp) (noPan_r hnp) fun n' r σ' l' B' p' w' a' hl' _ _ hgo hb' hf' hd' hz' => ?_
    cases r with
    | normal => exact preT_ok htb hnp xs hgo hl' hb' hf' hd' hz' hk
    | ret => exact hk n' .ret σ' l' B' p' w' a' hl' hgo hb' hf' hd' hz'
    | exit i => exact hk n' (.exit i) σ' l' B' p' w' a' hl' hgo hb' hf' hd' hz'
theorem holdT_ok {t : Nat} (h : holdT t σ = some σ') (hf : SF c σ p w a) : SF { c with snap := fun q => if q = VB + t then a.eval (.tmp t) else c.snap q } σ' p w a ∧ ∃ f vs, a.eval (.tmp t) = .func (.func f) #[] vs := by
  unfold holdT at h
  split at h
  · rename_i f l hx
    split at h
    · rename_i hok
      simp only [List.all_eq_true] at hok
      injection h with h
      subst h
      refine ⟨⟨fun k y hy => ?_, fun k e he => hf.m k e he⟩, ?_⟩
      · by_cases hk : t = k
        · subst hk
          have hy : lkA (putA σ.t t (.sn (VB + t) (.fn f l))) t = some y := hy
          rw [putA_self] at hy
          injection hy with hy
          subst hy
          obtain ⟨v, hv, hp⟩ := hf.t t _ hx
          refine ⟨v, hv, ?_, pd_snap _ v (hok _ (q1c hx)) hp⟩
          show v = if VB + t = VB + t then a.eval (.tmp t) else _
          rw [if_pos rfl]
          show v = a.tmps.getD t undef
          simp [Array.getD_eq_getD_getElem?, hv]
        · have hy : lkA (putA σ.t t (.sn (VB + t) (.fn f l))) k = some y := hy
          rw [putA_ne hk] at hy
          obtain ⟨v, hv, hp⟩ := hf.t k y hy
          exact ⟨v, hv, pd_snap y v (hok _ (q1c hy)) hp⟩
      · obtain ⟨v, hv, vs, e, -⟩ := hf.t t _ hx
        refine ⟨f, vs.toArray, ?_⟩
        show a.tmps.getD t undef = _
        rw [← e]
        simp [Array.getD_eq_getD_getElem?, hv]
    · cases h
  · cases h
theorem defT_ok {o : Oper} {t : Nat} (h : defT o = some t) {f : FuncId} {caps : Array Value} (hv : a.eval (.tmp t) = .func (.func f) #[] caps) {K : Act → World → Prop} {Q : Exit → Act → World → Prop} (hk : K { a with defers := { target := .fn (.func f) caps, args := #[] } :: a.defers } w) :
    o.guard = none ∧ o.wp Try.prog a w K Q := by
  unfold defT at h
  split at h
  · rename_i cl ho hdst hg
    split at h
    · rename_i t' hcal hargs
      injection h with h
      subst h
      refine ⟨hg, ?_⟩
      obtain ⟨callee, ⟨args⟩, tys⟩ := cl
      simp only at hcal hargs
      subst hcal hargs
      have hrun : (execOp a.eval o).run Try.prog w = .ok (.defer { target := .fn (.func f) caps, args := #[] }) w := by
        generalize a.eval = r at *
        simp [execOp, ho, resolve, Deferred.ofValue, hv]
      unfold Oper.wp
      rw [hrun]
      show K ({ a with defers := _ :: a.defers }.put o.dst undef) w
      rw [hdst]
      exact hk
    · cases h
  · cases h
theorem freeT_ok {t : Nat} {f : FuncId} (h : freeT t σ = some (f, σ')) (hf : SF c σ p w a) : SF c σ' p w a ∧ a.eval (.tmp t) = c.snap (VB + t) ∧ ∃ vs, a.eval (.tmp t) = .func (.func f) #[] vs := by
  unfold freeT at h
  split at h
  · rename_i q f' l hx
    split at h
    · rename_i hq
      simp only [Option.some.injEq, Prod.mk.injEq] at h
      obtain ⟨rfl, rfl⟩ := h
      obtain ⟨v, hv, he, hp⟩ := hf.t t _ hx
      have hq := Nat.eq_of_beq_eq_true hq
      have hev : a.eval (.tmp t) = v := by
        show a.tmps.getD t undef = _
        simp [Array.getD_eq_getD_getElem?, hv]
      obtain ⟨vs, e2, -⟩ : ∃ vs, v = .func (.func f') #[] vs.toArray ∧ True := let ⟨vs, e, _⟩ := hp; ⟨vs, e, trivial⟩
      refine ⟨⟨fun k y hy => ?_, hf.m⟩, ?_, vs.toArray, hev.trans e2⟩
      · by_cases hk : t = k
        · subst hk
          have hy : lkA (putA σ.t t (.fn f' l)) t = some y := hy
          rw [putA_self] at hy
          injection hy with hy
          subst hy
          exact ⟨v, hv, hp⟩
        · have hy : lkA (putA σ.t t (.fn f' l)) k = some y := hy
          rw [putA_ne hk] at hy
          exact hf.t k y hy
      · rw [hev, ← hq, ← he]
    · cases h
  · cases h
theorem offT_ok {k : Nat} {v : Value} (hf : SF c σ p w (a.put (some k) v)) : SF c (offT k σ) p w a := by
  refine ⟨fun t x hx => ?_, hf.m⟩
  have hx : lkA (σ.t.filter fun e => e.1 != k) t = some x := hx
  have hne : t ≠ k := fun e => by
    subst e
    obtain ⟨h1, h2⟩ := filter_lkq (q := fun n => n != t) hx
    simp at h2
  obtain ⟨h1, -⟩ := filter_lkq (q := fun n => n != k) hx
  obtain ⟨u, hu, hp⟩ := hf.t t x h1
  refine ⟨u, ?_, hp⟩
  have e : (a.put (some k) v).tmps[t]? = a.tmps[t]? := by
    simp [Act.put, Array.getElem?_setIfInBounds, hne.symm]
  rw [← e]
  exact hu
end

theorem fat_defer {ct : Ct} {tbl : Tbl} (ann : Ann) (fn : Func) (fd : FuncId) (cd : Code) (htb : TblOk tbl) (hfd : ∀ e ∈ tbl, e.1.f = fd → FOkD e.1 e.2) (hf : Try.prog.funcs[ct.f]? = some fn) (hb : fn.body = some cd) (hsz : ct.ar.length ≤ fn.ntmps) (hnp : noPan tbl = true)
    {ds outs : List D} (h : (treeD Try.prog tbl ann ct fn fd cd).go (tblS tbl) (fun o => o = outs) ds fun _ _ => False) : FAt ct ds outs := by
  intro A p w vs us hpre hvl hargs
  obtain ⟨hwf, hdl, -⟩ := hargs.wf
  rw [all_map] at hwf hdl
  obtain ⟨hb0, hsf⟩ := start_run (tbl := tbl) (fn := fn) hsz hpre hvl hargs
  refine calls_of_wp_defers hf hb ?_
  generalize hR : (fun (e : Ending) (w' : World) => (∃ T, ct.pn = some T ∧ outs = [.u] ∧ e = .panicked (panCh T) ∧ But (pinned p) w w') ∨ ∃ rs p', e = .returned (retV rs) ∧ Bs A w (pinned p) p' w' ∧ ResL A p' w' ct.rs ct.ar.length rs (outs.take ct.rs.length) ∧ RefL A p p' w' ct.all (outs.drop ct.rs.length)) = R
  have hfin : ∀ {c : Cx} {σ' : St} {l' : List D} {p' : Pins} {w' : World} {a' : Act} {n' : Nat} {B' : Nat → List D → Prop}, c.A = A → c.At = (fun k g => (k < ct.ar.length ∨ VB ≤ k) → p (k * 16) = some g) → (∀ i, i < VB → c.snap i = (vs ++ us).getD i undef) → Bs c.A w (pinned p) p' w' → SF (c.at (tblS tbl) l') σ' p' w' a' → (endT ct fn.results.toList n' .ret σ').go (tblS tbl) (fun o => o = outs) l' B' → Leaves Try.prog fn a'.tmps R [] .returning w' := by
    intro c σ' l' p' w' a' n' B' h1 h2 h3 hb' hf' hgo'
    simp only [endT] at hgo'
    split at hgo'
    · rename_i xs hx
      obtain ⟨rs, p2, e1, e2, e3, e4⟩ := fin_run h1 h2 h3 hargs hb' hf' hx
      have ho : X.evs (evl (tblS tbl) l') xs = outs := hgo'
      refine ⟨_, e1, ?_⟩
      rw [← hR]
      exact .inr ⟨rs, p2, rfl, e2, by rw [← ho]; exact e3, by rw [← ho]; exact e4⟩
    · exact hgo'.elim
  unfold treeD at h
  split at h
  · rename_i xs id ops post hcut
    refine cutD_wp hcut (preT_ok (c := cxA tbl ct A p vs us ds) (S0 := pinned p) (w0 := w) (d := []) (z := fn.ntmps) htb hnp xs h hdl hb0 hsf rfl (by simp; omega) fun n' r σ' l' B' p' w' a' hl' hgo' hb' hf' hd' hz' => ?_)
    cases r with
    | exit i => exact hgo'.elim
    | ret =>
      show Leaves Try.prog fn a'.tmps R a'.defers .returning w'
      rw [hd']
      exact hfin (c := cxA tbl ct A p vs us ds) rfl rfl (fun _ _ => rfl) hb' hf' hgo'
    | normal =>
      show (Code.seq (.region id ops.toArray false) post).wp Try.prog _ a' w'
      rcases ops with _ | ⟨mk, _ | ⟨df, _ | ⟨x, l⟩⟩⟩
      · exact (show False from hgo').elim
      · exact (show False from hgo').elim
      · simp only [midT] at hgo'
        split at hgo'
        · rename_i t hdt
          split at hgo'
          · rename_i hmk
            simp only [Bool.and_eq_true, Option.isNone_iff_eq_none] at hmk
            split at hgo'
            · rename_i N σ1 hst
              split at hgo'
              · rename_i σ2 hhold
                obtain ⟨hN, hgo2⟩ := needT_ok hgo'
                refine wp_seq (wp_region ?_)
                have hw0 : Region.wanted mk (yielded ([mk, df].toArray) a'.tmps) = true := by simp [Region.wanted, hmk.1]
                have hstep := stepG_wp (c := (cxA tbl ct A p vs us ds).at (tblS tbl) l') (ops := [mk, df].toArray) (ds := dsts [mk, df]) (Q := Exit.then (post.wp Try.prog (bodyPostD Try.prog fn R)) (bodyPostD Try.prog fn R)) (K := wpOps Try.prog [mk, df].toArray (Exit.then (post.wp Try.prog (bodyPostD Try.prog fn R)) (bodyPostD Try.prog fn R)) [1]) htb rfl rfl hb' hf' hd' hz' hmk.2 hst hN (noPan_q hnp) fun a1 w1 hpost => ?_
                · rw [if_pos hw0] at hstep
                  show wpOps Try.prog [mk, df].toArray _ [0, 1] a' w'
                  simp only [wpOps, List.getElem?_toArray, List.getElem?_cons_zero]
                  rw [if_pos hw0]
                  exact .inl hstep.2
                · obtain ⟨p1, hb1, hf1, hd1, hz1⟩ := hpost
                  obtain ⟨hf2, f, caps, hV⟩ := holdT_ok hhold hf1
                  generalize hcx : ({ cxA tbl ct A p vs us ds with snap := fun q => if q = VB + t then a1.eval (.tmp t) else (cxA tbl ct A p vs us ds).snap q } : Cx) = cx
                  have hcA : cx.A = A := by rw [← hcx]; rfl
                  have hcAt : cx.At = (fun k g => (k < ct.ar.length ∨ VB ≤ k) → p (k * 16) = some g) := by rw [← hcx]; rfl
                  have hcs : ∀ i, i < VB → cx.snap i = (vs ++ us).getD i undef := fun i hi => by
                    rw [← hcx]
                    show (if i = VB + t then _ else _) = _
                    rw [if_neg (by omega)]
                    rfl
                  have hct : cx.snap (VB + t) = a1.eval (.tmp t) := by
                    rw [← hcx]
                    show (if VB + t = VB + t then _ else _) = _
                    rw [if_pos rfl]
                  have hlo : cx.lo = ct.ar.length := by rw [← hcx]; rfl
                  have hf3 : SF (cx.at (tblS tbl) l') σ2 p1 w1 a1 := by rw [← hcx]; exact hf2
                  have hb3 : Bs cx.A w (pinned p) p1 w1 := by rw [hcA]; exact hb1
                  clear hcx
                  have hdf := defT_ok (a := a1) (w := w1) (K := wpOps Try.prog [mk, df].toArray (Exit.then (post.wp Try.prog (bodyPostD Try.prog fn R)) (bodyPostD Try.prog fn R)) []) (Q := Exit.then (post.wp Try.prog (bodyPostD Try.prog fn R)) (bodyPostD Try.prog fn R)) hdt hV
                  have hmain : post.wp Try.prog (bodyPostD Try.prog fn R) { a1 with defers := { target := .fn (.func f) caps, args := #[] } :: a1.defers } w1 := by
                    refine (wpIn_wide (n := 0)).1 ?_
                    refine toT_ok none 0 (c := cx) (S0 := pinned p) (w0 := w) (d := [{ target := .fn (.func f) caps, args := #[] }]) (z := fn.ntmps) htb post (by rw [hlo]; exact hgo2) hl' hb3 (SF.mk (fun t x hx => hf3.t t x hx) (fun k e he => hf3.m k e he)) (by rw [hd1]) hz1 (noPan_q hnp) (noPan_r hnp) fun n2 r σ3 l2 B2 p2 w2 a3 hl2 _ _ hgo3 hb4 hf4 hd4 hz4 => ?_
                    have hend : (lastT Try.prog tbl ct fn fd t n2 .ret σ3).go (tblS tbl) (fun o => o = outs) l2 B2 → Leaves Try.prog fn a3.tmps R a3.defers .returning w2 := fun hgo3 => by
                      simp only [lastT] at hgo3
                      split at hgo3
                      · rename_i f' σ4 hfree
                        split at hgo3
                        · rename_i hff
                          simp only [Bool.and_eq_true, Nat.blt_eq] at hff
                          split at hgo3
                          · rename_i ns σ5 hcall
                            obtain ⟨hns, hgo4⟩ := needT_ok hgo3
                            obtain ⟨hf5, hsn, vs5, hfv⟩ := freeT_ok hfree hf4
                            obtain ⟨e, A0, p0, caps', us', ds', outs', hmem, hev, hg0, hpre0, hlen0, hargs0, -, hafter⟩ := call_core (c := cx.at (tblS tbl) l2) (S0 := pinned p) (w0 := w) htb rfl hb4 hf5 rfl hd4 hz4 hff.2 hcall hns
                            have hval : Value.func (.func f) #[] caps = .func (.func e.1.f) #[] caps'.toArray := by
                              rw [← hev, hsn, ← hV]
                              exact hct.symm
                            have he1 : f = e.1.f := by injection hval with h1 _ _; injection h1
                            have he2 : caps = caps'.toArray := by injection hval
                            have hfe : e.1.f = fd := by
                              have h0 : Value.func (.func f') #[] vs5 = .func (.func e.1.f) #[] caps'.toArray := by rw [← hfv, hev]
                              have h1 : f' = e.1.f := by injection h0 with h1 _ _; injection h1
                              rw [← h1]
                              exact Nat.eq_of_beq_eq_true hff.1
                            rw [hd4]
                            subst he1 he2
                            have hD := hfd e hmem hfe A0 p0 w2 caps' us' ds' outs' .returning hg0 hpre0 hlen0 hargs0
                            have hen := (htb e hmem).enter caps'.toArray w2
                            refine leaves_cons (by simp) (f := e.1.f) (args := caps'.toArray) (by simp [invoke, hen]) (hD.mono ?_)
                            rintro e' u' w3 ⟨rfl, rs, p3, rfl, hbs, hres, hrefs⟩
                            obtain ⟨p4, hb5, hf6, -, -⟩ := hafter rs p3 w3 hbs hres hrefs
                            exact hfin (c := cx) hcA hcAt hcs hb5 (offT_ok hf6) hgo4
                          · exact (show False from hgo3).elim
                        · exact (show False from hgo3).elim
                      · exact (show False from hgo3).elim
                    cases r with
                    | exit i => exact (show False from hgo3).elim
                    | ret => exact hend hgo3
                    | normal => exact hend hgo3
                  obtain ⟨hg1, hw1⟩ := hdf hmain
                  have hw2 : Region.wanted df (yielded ([mk, df].toArray) a1.tmps) = true := by simp [Region.wanted, hg1]
                  show wpOps Try.prog [mk, df].toArray _ [1] a1 w1
                  simp only [wpOps, List.getElem?_toArray, List.getElem?_cons_succ, List.getElem?_cons_zero]
                  rw [if_pos hw2]
                  exact .inl hw1
              · exact hgo'.elim
            · exact hgo'.elim
          · exact hgo'.elim
        · exact hgo'.elim
      · exact (show False from hgo').elim
  · exact h.elim
end Go.Proofs.Ytaoamndcdjelnaa


namespace Go.Proofs.Ytaoamndcdjelnaa
open Go.RowKit
set_option linter.unusedVariables false
set_option maxRecDepth 100000

abbrev T_Cells : Ty := .row 29
abbrev T_Symbols : Ty := .row 66
abbrev T_Undos : Ty := .row 68
abbrev T_Wakes : Ty := .row 61
abbrev T_Store : Ty := .st 26
abbrev T_Cell : Ty := .st 28
abbrev T_Wake : Ty := .st 60
abbrev T_Symbol : Ty := .st 65
abbrev T_Undo : Ty := .st 67
def q0c : Ct := ⟨7, [.val (.st 26)], [(.st 26, true)], [], none⟩
theorem enter_ref30_Clone (args : Array Value) (w : World) : (callFunc q0c.f args).run Try.prog w = .ok (.enter q0c.f args) w := by kernel_rfl
def ann_ref30_Clone : Ann := ⟨[0, 1, 2, 3], []⟩
def q36 : Tree := (.need [(.le (.len (.fld (.tok 0) 0)) (.lit (.i 8796093021952)))] (.need [(.le (.len (.fld (.tok 0) 1)) (.lit (.i 5864062014634)))] (.need [(.le (.len (.fld (.tok 0) 2)) (.lit (.i 5864062014634)))] (.need [(.le (.len (.fld (.tok 0) 3)) (.lit (.i 3518437208780)))] (.leaf [(.set (.set (.set (.set (.tok 0) 0 (.app (.lit (.r [])) (.fld (.tok 0) 0))) 1 (.app (.lit (.r [])) (.fld (.tok 0) 1))) 2 (.app (.lit (.r [])) (.fld (.tok 0) 2))) 3 (.app (.lit (.r [])) (.fld (.tok 0) 3)))])))))
set_option maxRecDepth 100000 in
theorem code_ref30_Clone : ∀ cd, Try.f7.body = some cd → treeOf Try.prog [] ann_ref30_Clone q0c Try.f7 cd = q36 := by
  intro cd h
  injection h with h
  subst h
  kernel_rfl
theorem fok_ref30_Clone {g : List D → Option (List D)}  (h : ∀ ds outs, WfA q0c.ars ds → g ds = some outs → q36.go (tblS []) (fun o => o = outs) ds fun _ _ => False) : FOk q0c g :=
  q0a ann_ref30_Clone Try.f7 _ .nil rfl rfl enter_ref30_Clone (by decide) fun ds outs hw hg => by rw [code_ref30_Clone  _ rfl]; exact h ds outs hw hg

def q1h : Ct := ⟨52, [.rref (.st 26), .val (.int .i64), .val (.int .i64)], [(.bool, false)], [], none⟩
theorem enter_trail_marked (args : Array Value) (w : World) : (callFunc q1h.f args).run Try.prog w = .ok (.enter q1h.f args) w := by kernel_rfl
def ann_trail_marked : Ann := ⟨[0, 1, 2, 6], []⟩
def q2y : Tree := (.leaf [(.and (.and (.and (.le (.lit (.i 0)) (.tok 1)) (.le (.tok 1) (.len (.fld (.tok 0) 2)))) (.le (.lit (.i 0)) (.tok 2))) (.le (.tok 2) (.len (.fld (.tok 0) 0))))])
set_option maxRecDepth 100000 in
theorem code_trail_marked : ∀ cd, Try.f52.body = some cd → treeOf Try.prog [] ann_trail_marked q1h Try.f52 cd = q2y := by
  intro cd h
  injection h with h
  subst h
  kernel_rfl
theorem fok_trail_marked {g : List D → Option (List D)}  (h : ∀ ds outs, WfA q1h.ars ds → g ds = some outs → q2y.go (tblS []) (fun o => o = outs) ds fun _ _ => False) : FOk q1h g :=
  q0a ann_trail_marked Try.f52 _ .nil rfl rfl enter_trail_marked (by decide) fun ds outs hw hg => by rw [code_trail_marked  _ rfl]; exact h ds outs hw hg

def q13 : Ct := ⟨54, [.rref (.st 26), .val (.int .i64)], [(.bool, false)], [], none⟩
theorem enter_trail_in (args : Array Value) (w : World) : (callFunc q13.f args).run Try.prog w = .ok (.enter q13.f args) w := by kernel_rfl
def ann_trail_in : Ann := ⟨[0, 1, 4], []⟩
def tree_trail_in : Tree := (.leaf [(.and (.le (.lit (.i 0)) (.tok 1)) (.lt (.tok 1) (.len (.fld (.tok 0) 0))))])
set_option maxRecDepth 100000 in
theorem code_trail_in : ∀ cd, Try.f54.body = some cd → treeOf Try.prog [] ann_trail_in q13 Try.f54 cd = tree_trail_in := by
  intro cd h
  injection h with h
  subst h
  kernel_rfl
theorem fok_trail_in {g : List D → Option (List D)}  (h : ∀ ds outs, WfA q13.ars ds → g ds = some outs → tree_trail_in.go (tblS []) (fun o => o = outs) ds fun _ _ => False) : FOk q13 g :=
  q0a ann_trail_in Try.f54 _ .nil rfl rfl enter_trail_in (by decide) fun ds outs hw hg => by rw [code_trail_in  _ rfl]; exact h ds outs hw hg

def q1f : Ct := ⟨25, [.ref (.st 26), .val (.int .i64), .val (.int .i64)], [(.int .i64, false)], [], none⟩
theorem enter_trail_Undo (args : Array Value) (w : World) : (callFunc q1f.f args).run Try.prog w = .ok (.enter q1f.f args) w := by kernel_rfl
def ann_trail_Undo : Ann := ⟨[0, 1, 2, 3, 6, 8, 13, 20, 21, 22, 26], [(4, ⟨[], [0], [8, 23, 24, 25, 26, 27, 28, 29, 30, 31, 32, 33, 34, 35], []⟩)]⟩
def q3g : Tree := (.need [(.ok 0 [(.tok 0), (.tok 1), (.tok 2)])] (.br (.not (.call 0 0 [(.tok 0), (.tok 1), (.tok 2)])) (.leaf [(.lit (.i 1)), (.tok 0)]) (.need [(.le (.lit (.i 0)) (.tok 1)), (.le (.tok 1) (.len (.fld (.tok 0) 2)))] (.loop 4 3 [(.tok 0), (.sub (.len (.cut (.fld (.tok 0) 2) (.tok 1) (.len (.fld (.tok 0) 2)))) (.lit (.i 1)))] (.br (.le (.lit (.i 0)) (.tok 4)) (.need [(.ok 1 [(.tok 3), (.fld (.get (.cut (.fld (.tok 0) 2) (.tok 1) (.len (.fld (.tok 0) 2))) (.tok 4)) 0)])] (.br (.call 1 0 [(.tok 3), (.fld (.get (.cut (.fld (.tok 0) 2) (.tok 1) (.len (.fld (.tok 0) 2))) (.tok 4)) 0)]) (.need [(.le (.lit (.i 0)) (.fld (.get (.cut (.fld (.tok 0) 2) (.tok 1) (.len (.fld (.tok 0) 2))) (.tok 4)) 0)), (.lt (.fld (.get (.cut (.fld (.tok 0) 2) (.tok 1) (.len (.fld (.tok 0) 2))) (.tok 4)) 0) (.len (.fld (.tok 3) 0)))] (.back 4 [(.set (.tok 3) 0 (.put (.fld (.tok 3) 0) (.fld (.get (.cut (.fld (.tok 0) 2) (.tok 1) (.len (.fld (.tok 0) 2))) (.tok 4)) 0) (.fld (.get (.cut (.fld (.tok 0) 2) (.tok 1) (.len (.fld (.tok 0) 2))) (.tok 4)) 1))), (.sub (.tok 4) (.lit (.i 1)))])) (.back 4 [(.tok 3), (.sub (.tok 4) (.lit (.i 1)))]))) (.need [(.le (.lit (.i 0)) (.tok 1)), (.le (.tok 1) (.len (.fld (.tok 3) 2)))] (.need [(.le (.lit (.i 0)) (.tok 2)), (.le (.tok 2) (.len (.fld (.set (.tok 3) 2 (.cut (.fld (.tok 3) 2) (.lit (.i 0)) (.tok 1))) 0)))] (.leaf [(.lit (.i 0)), (.set (.set (.tok 3) 2 (.cut (.fld (.tok 3) 2) (.lit (.i 0)) (.tok 1))) 0 (.cut (.fld (.set (.tok 3) 2 (.cut (.fld (.tok 3) 2) (.lit (.i 0)) (.tok 1))) 0) (.lit (.i 0)) (.tok 2)))]))))))))
set_option maxRecDepth 100000 in
theorem code_trail_Undo (g0 g1 : List D → Option (List D)) : ∀ cd, Try.f25.body = some cd → treeU Try.prog [(q1h, g0), (q13, g1)] ann_trail_Undo q1f Try.f25 cd = q3g := by
  intro cd h
  injection h with h
  subst h
  kernel_rfl
theorem fok_trail_Undo {g0 g1 : List D → Option (List D)} {g : List D → Option (List D)} (h0 : FOk q1h g0) (h1 : FOk q13 g1) (h : ∀ ds outs, WfA q1f.ars ds → g ds = some outs → q3g.go (tblS [(q1h, g0), (q13, g1)]) (fun o => o = outs) ds fun _ _ => False) : FOk q1f g :=
  fok_ofU ann_trail_Undo Try.f25 _ (.cons h0 (.cons h1 .nil)) bw_enter2 rfl rfl enter_trail_Undo (by decide) fun ds outs hw hg => by rw [code_trail_Undo g0 g1 _ rfl]; exact h ds outs hw hg

def q0u : Ct := ⟨24, [.rref (.int .i64), .cell 33 5, .rref (.int .i64), .rref (.int .i64), .rref (.int .i64)], [], [(.cell 1, .ref (.st 26))], none⟩
theorem enter_unify_Unify_1 (args : Array Value) (w : World) : (callFunc q0u.f args).run Try.prog w = .ok (.enter q0u.f args) w := by kernel_rfl
def q2z : Ann := ⟨[0, 1, 2, 3, 4, 6], []⟩
def q27 : Tree := (.br (.not (.eq (.tok 0) (.lit (.i 0)))) (.need [(.ok 0 [(.tok 4), (.tok 1), (.tok 2)])] (.need [(.le (.lit (.i 0)) (.tok 3)), (.le (.tok 3) (.len (.fld (.call 0 1 [(.tok 4), (.tok 1), (.tok 2)]) 3)))] (.leaf [(.set (.call 0 1 [(.tok 4), (.tok 1), (.tok 2)]) 3 (.cut (.fld (.call 0 1 [(.tok 4), (.tok 1), (.tok 2)]) 3) (.lit (.i 0)) (.tok 3)))]))) (.leaf [(.tok 4)]))
set_option maxRecDepth 100000 in
theorem q4f (g0 : List D → Option (List D)) : ∀ cd, Try.f24.body = some cd → treeOf Try.prog [(q1f, g0)] q2z q0u Try.f24 cd = q27 := by
  intro cd h
  injection h with h
  subst h
  kernel_rfl
theorem fok_unify_Unify_1 {g0 : List D → Option (List D)} {g : List D → Option (List D)} (h0 : FOk q1f g0) (h : ∀ ds outs, WfA q0u.ars ds → g ds = some outs → q27.go (tblS [(q1f, g0)]) (fun o => o = outs) ds fun _ _ => False) : FOk q0u g :=
  q0a q2z Try.f24 _ (.cons h0 .nil) rfl rfl enter_unify_Unify_1 (by decide) fun ds outs hw hg => by rw [q4f g0 _ rfl]; exact h ds outs hw hg

def q1m : Ct := ⟨46, [.val (.st 26), .val (.int .i64)], [(.int .i64, false)], [], none⟩
theorem enter_cells_arity (args : Array Value) (w : World) : (callFunc q1m.f args).run Try.prog w = .ok (.enter q1m.f args) w := by kernel_rfl
def ann_cells_arity : Ann := ⟨[0, 1, 2, 4, 13], []⟩
def q32 : Tree := (.br (.or (.lt (.tok 1) (.lit (.i 0))) (.le (.len (.fld (.tok 0) 1)) (.tok 1))) (.leaf [(.lit (.i (-1)))]) (.need [(.le (.lit (.i 0)) (.tok 1)), (.lt (.tok 1) (.len (.fld (.tok 0) 1)))] (.leaf [(.fld (.get (.fld (.tok 0) 1) (.tok 1)) 1)])))
set_option maxRecDepth 100000 in
theorem code_cells_arity : ∀ cd, Try.f46.body = some cd → treeOf Try.prog [] ann_cells_arity q1m Try.f46 cd = q32 := by
  intro cd h
  injection h with h
  subst h
  kernel_rfl
theorem fok_cells_arity {g : List D → Option (List D)}  (h : ∀ ds outs, WfA q1m.ars ds → g ds = some outs → q32.go (tblS []) (fun o => o = outs) ds fun _ _ => False) : FOk q1m g :=
  q0a ann_cells_arity Try.f46 _ .nil rfl rfl enter_cells_arity (by decide) fun ds outs hw hg => by rw [code_cells_arity  _ rfl]; exact h ds outs hw hg

def q1g : Ct := ⟨48, [.val (.st 26), .val (.int .i64)], [(.int .i64, false)], [], none⟩
theorem enter_cells_tag (args : Array Value) (w : World) : (callFunc q1g.f args).run Try.prog w = .ok (.enter q1g.f args) w := by kernel_rfl
def ann_cells_tag : Ann := ⟨[0, 1, 2, 4, 13], []⟩
def q47 : Tree := (.br (.or (.lt (.tok 1) (.lit (.i 0))) (.le (.len (.fld (.tok 0) 0)) (.tok 1))) (.leaf [(.lit (.i (-1)))]) (.need [(.le (.lit (.i 0)) (.tok 1)), (.lt (.tok 1) (.len (.fld (.tok 0) 0)))] (.leaf [(.fld (.get (.fld (.tok 0) 0) (.tok 1)) 0)])))
set_option maxRecDepth 100000 in
theorem code_cells_tag : ∀ cd, Try.f48.body = some cd → treeOf Try.prog [] ann_cells_tag q1g Try.f48 cd = q47 := by
  intro cd h
  injection h with h
  subst h
  kernel_rfl
theorem fok_cells_tag {g : List D → Option (List D)}  (h : ∀ ds outs, WfA q1g.ars ds → g ds = some outs → q47.go (tblS []) (fun o => o = outs) ds fun _ _ => False) : FOk q1g g :=
  q0a ann_cells_tag Try.f48 _ .nil rfl rfl enter_cells_tag (by decide) fun ds outs hw hg => by rw [code_cells_tag  _ rfl]; exact h ds outs hw hg

def q06 : Ct := ⟨23, [.val (.st 26), .val (.st 28)], [(.bool, false)], [], none⟩
theorem enter_cells_ValidCell (args : Array Value) (w : World) : (callFunc q06.f args).run Try.prog w = .ok (.enter q06.f args) w := by kernel_rfl
def q3w : Ann := ⟨[0, 1, 2, 3, 4, 5, 7, 8, 10, 17, 29, 36], []⟩
def q2j : Tree := (.br (.eq (.fld (.tok 1) 0) (.lit (.i 1))) (.leaf [(.lit (.b .true))]) (.br (.eq (.fld (.tok 1) 0) (.lit (.i 2))) (.need [(.ok 0 [(.tok 0), (.fld (.tok 1) 1)])] (.leaf [(.eq (.call 0 0 [(.tok 0), (.fld (.tok 1) 1)]) (.lit (.i 0)))])) (.br (.eq (.fld (.tok 1) 0) (.lit (.i 0))) (.need [(.ok 1 [(.tok 0), (.fld (.tok 1) 1)])] (.leaf [(.and (.le (.lit (.i 0)) (.call 1 0 [(.tok 0), (.fld (.tok 1) 1)])) (.not (.eq (.call 1 0 [(.tok 0), (.fld (.tok 1) 1)]) (.lit (.i 4)))))])) (.br (.eq (.fld (.tok 1) 0) (.lit (.i 3))) (.need [(.ok 1 [(.tok 0), (.fld (.tok 1) 1)])] (.leaf [(.eq (.call 1 0 [(.tok 0), (.fld (.tok 1) 1)]) (.lit (.i 4)))])) (.br (.eq (.fld (.tok 1) 0) (.lit (.i 5))) (.need [(.ok 1 [(.tok 0), (.fld (.tok 1) 1)])] (.leaf [(.eq (.call 1 0 [(.tok 0), (.fld (.tok 1) 1)]) (.lit (.i 5)))])) (.leaf [(.lit (.b .false))]))))))
set_option maxRecDepth 100000 in
theorem code_cells_ValidCell (g0 g1 : List D → Option (List D)) : ∀ cd, Try.f23.body = some cd → treeOf Try.prog [(q1m, g0), (q1g, g1)] q3w q06 Try.f23 cd = q2j := by
  intro cd h
  injection h with h
  subst h
  kernel_rfl
theorem fok_cells_ValidCell {g0 g1 : List D → Option (List D)} {g : List D → Option (List D)} (h0 : FOk q1m g0) (h1 : FOk q1g g1) (h : ∀ ds outs, WfA q06.ars ds → g ds = some outs → q2j.go (tblS [(q1m, g0), (q1g, g1)]) (fun o => o = outs) ds fun _ _ => False) : FOk q06 g :=
  q0a q3w Try.f23 _ (.cons h0 (.cons h1 .nil)) rfl rfl enter_cells_ValidCell (by decide) fun ds outs hw hg => by rw [code_cells_ValidCell g0 g1 _ rfl]; exact h ds outs hw hg

def q15 : Ct := ⟨81, [.rref (.st 26), .val (.int .i64)], [(.bool, false)], [], none⟩
theorem enter_trail_settable (args : Array Value) (w : World) : (callFunc q15.f args).run Try.prog w = .ok (.enter q15.f args) w := by kernel_rfl
def q4j : Ann := ⟨[0, 1, 4, 5, 14, 15, 21, 23], []⟩
def q2n : Tree := (.need [(.le (.lit (.i 0)) (.tok 1)), (.lt (.tok 1) (.len (.fld (.tok 0) 0)))] (.br (.eq (.fld (.get (.fld (.tok 0) 0) (.tok 1)) 0) (.lit (.i 0))) (.leaf [(.eq (.get (.fld (.tok 0) 0) (.tok 1)) (.mk [(.lit (.i 0)), (.tok 1)]))]) (.br (.eq (.fld (.get (.fld (.tok 0) 0) (.tok 1)) 0) (.lit (.i 5))) (.leaf [(.lit (.b .true))]) (.br (.eq (.fld (.get (.fld (.tok 0) 0) (.tok 1)) 0) (.lit (.i 1))) (.br (.eq (.fld (.get (.fld (.tok 0) 0) (.tok 1)) 0) (.lit (.i 1))) (.need [(.imp (.le (.lit (.i 2)) (.tok 1)) (.rng .i64 (.sub (.tok 1) (.lit (.i 2))))), (.imp (.le (.lit (.i 2)) (.tok 1)) (.le (.lit (.i 0)) (.sub (.tok 1) (.lit (.i 2))))), (.imp (.le (.lit (.i 2)) (.tok 1)) (.lt (.sub (.tok 1) (.lit (.i 2))) (.len (.fld (.tok 0) 0))))] (.leaf [(.and (.le (.lit (.i 2)) (.tok 1)) (.eq (.fld (.get (.fld (.tok 0) 0) (.sub (.tok 1) (.lit (.i 2)))) 0) (.lit (.i 5))))])) (.leaf [(.lit (.b .false))])) (.br (.eq (.fld (.get (.fld (.tok 0) 0) (.tok 1)) 0) (.lit (.i 2))) (.br (.eq (.fld (.get (.fld (.tok 0) 0) (.tok 1)) 0) (.lit (.i 2))) (.need [(.imp (.le (.lit (.i 2)) (.tok 1)) (.rng .i64 (.sub (.tok 1) (.lit (.i 2))))), (.imp (.le (.lit (.i 2)) (.tok 1)) (.le (.lit (.i 0)) (.sub (.tok 1) (.lit (.i 2))))), (.imp (.le (.lit (.i 2)) (.tok 1)) (.lt (.sub (.tok 1) (.lit (.i 2))) (.len (.fld (.tok 0) 0))))] (.leaf [(.and (.le (.lit (.i 2)) (.tok 1)) (.eq (.fld (.get (.fld (.tok 0) 0) (.sub (.tok 1) (.lit (.i 2)))) 0) (.lit (.i 5))))])) (.leaf [(.lit (.b .false))])) (.br (.eq (.fld (.get (.fld (.tok 0) 0) (.tok 1)) 0) (.lit (.i 3))) (.need [(.imp (.le (.lit (.i 2)) (.tok 1)) (.rng .i64 (.sub (.tok 1) (.lit (.i 2))))), (.imp (.le (.lit (.i 2)) (.tok 1)) (.le (.lit (.i 0)) (.sub (.tok 1) (.lit (.i 2))))), (.imp (.le (.lit (.i 2)) (.tok 1)) (.lt (.sub (.tok 1) (.lit (.i 2))) (.len (.fld (.tok 0) 0))))] (.leaf [(.and (.le (.lit (.i 2)) (.tok 1)) (.eq (.fld (.get (.fld (.tok 0) 0) (.sub (.tok 1) (.lit (.i 2)))) 0) (.lit (.i 5))))])) (.leaf [(.lit (.b .false))])))))))
set_option maxRecDepth 100000 in
theorem code_trail_settable : ∀ cd, Try.f81.body = some cd → treeOf Try.prog [] q4j q15 Try.f81 cd = q2n := by
  intro cd h
  injection h with h
  subst h
  kernel_rfl
theorem fok_trail_settable {g : List D → Option (List D)}  (h : ∀ ds outs, WfA q15.ars ds → g ds = some outs → q2n.go (tblS []) (fun o => o = outs) ds fun _ _ => False) : FOk q15 g :=
  q0a q4j Try.f81 _ .nil rfl rfl enter_trail_settable (by decide) fun ds outs hw hg => by rw [code_trail_settable  _ rfl]; exact h ds outs hw hg

def q1t : Ct := ⟨83, [.val (.st 28)], [(.st 28, false)], [], none⟩
theorem enter_trail_kept (args : Array Value) (w : World) : (callFunc q1t.f args).run Try.prog w = .ok (.enter q1t.f args) w := by kernel_rfl
def ann_trail_kept : Ann := ⟨[0, 1, 2, 5], []⟩
def q3h : Tree := (.br (.eq (.fld (.tok 0) 0) (.lit (.i 5))) (.leaf [(.set (.tok 0) 0 (.lit (.i 0)))]) (.leaf [(.tok 0)]))
set_option maxRecDepth 100000 in
theorem code_trail_kept : ∀ cd, Try.f83.body = some cd → treeOf Try.prog [] ann_trail_kept q1t Try.f83 cd = q3h := by
  intro cd h
  injection h with h
  subst h
  kernel_rfl
theorem fok_trail_kept {g : List D → Option (List D)}  (h : ∀ ds outs, WfA q1t.ars ds → g ds = some outs → q3h.go (tblS []) (fun o => o = outs) ds fun _ _ => False) : FOk q1t g :=
  q0a ann_trail_kept Try.f83 _ .nil rfl rfl enter_trail_kept (by decide) fun ds outs hw hg => by rw [code_trail_kept  _ rfl]; exact h ds outs hw hg

def q1n : Ct := ⟨82, [.rref (.st 26), .val (.st 28), .val (.int .i64)], [(.bool, false)], [], none⟩
theorem enter_trail_comes (args : Array Value) (w : World) : (callFunc q1n.f args).run Try.prog w = .ok (.enter q1n.f args) w := by kernel_rfl
def ann_trail_comes : Ann := ⟨[0, 1, 2, 4, 6, 7, 13, 14, 15, 25, 29, 40], [(2, ⟨[(6, .bool, false), (14, .int .i64, false)], [4], [15, 16, 17, 18, 19, 20, 21, 22, 23, 24, 25, 26, 27, 28, 29, 30, 31, 32, 33, 34, 35, 36, 37, 7, 38, 39, 40, 41, 42], []⟩)]⟩
def q31 : Tree := (.need [(.rng .i64 (.add (.len (.fld (.tok 0) 0)) (.lit (.i 1))))] (.loop 2 3 [(.lit (.b .false)), (.lit (.i 0)), (.tok 1)] (.br (.lt (.tok 4) (.add (.len (.fld (.tok 0) 0)) (.lit (.i 1)))) (.need [(.imp (.not (.not (.eq (.fld (.tok 5) 0) (.lit (.i 0))))) (.ok 0 [(.tok 0), (.fld (.tok 5) 1)]))] (.br (.or (.not (.eq (.fld (.tok 5) 0) (.lit (.i 0)))) (.not (.call 0 0 [(.tok 0), (.fld (.tok 5) 1)]))) (.leaf [(.lit (.b .false))]) (.br (.eq (.fld (.tok 5) 1) (.tok 2)) (.leaf [(.lit (.b .true))]) (.need [(.le (.lit (.i 0)) (.fld (.tok 5) 1)), (.lt (.fld (.tok 5) 1) (.len (.fld (.tok 0) 0)))] (.br (.eq (.get (.fld (.tok 0) 0) (.fld (.tok 5) 1)) (.tok 5)) (.leaf [(.lit (.b .false))]) (.need [(.rng .i64 (.add (.tok 4) (.lit (.i 1))))] (.back 2 [(.tok 3), (.add (.tok 4) (.lit (.i 1))), (.get (.fld (.tok 0) 0) (.fld (.tok 5) 1))]))))))) (.leaf [(.lit (.b .false))]))))
set_option maxRecDepth 100000 in
theorem code_trail_comes (g0 : List D → Option (List D)) : ∀ cd, Try.f82.body = some cd → treeOf Try.prog [(q13, g0)] ann_trail_comes q1n Try.f82 cd = q31 := by
  intro cd h
  injection h with h
  subst h
  kernel_rfl
theorem fok_trail_comes {g0 : List D → Option (List D)} {g : List D → Option (List D)} (h0 : FOk q13 g0) (h : ∀ ds outs, WfA q1n.ars ds → g ds = some outs → q31.go (tblS [(q13, g0)]) (fun o => o = outs) ds fun _ _ => False) : FOk q1n g :=
  q0a ann_trail_comes Try.f82 _ (.cons h0 .nil) rfl rfl enter_trail_comes (by decide) fun ds outs hw hg => by rw [code_trail_comes g0 _ rfl]; exact h ds outs hw hg

def q0v : Ct := ⟨57, [.ref (.st 26), .val (.int .i64), .val (.st 28)], [(.int .i64, false)], [], none⟩
theorem enter_trail_Set (args : Array Value) (w : World) : (callFunc q0v.f args).run Try.prog w = .ok (.enter q0v.f args) w := by kernel_rfl
def ann_trail_Set : Ann := ⟨[0, 1, 2, 5, 6, 35], []⟩
def q49 : Tree := (.need [(.imp (.not (.or (.or (.not (.call 0 0 [(.tok 0), (.tok 1)])) (.not (.call 1 0 [(.tok 0), (.tok 2)]))) (.not (.call 2 0 [(.tok 0), (.tok 1)])))) (.ok 4 [(.tok 0), (.call 3 0 [(.tok 2)]), (.tok 1)])), (.imp (.not (.or (.or (.not (.call 0 0 [(.tok 0), (.tok 1)])) (.not (.call 1 0 [(.tok 0), (.tok 2)]))) (.not (.call 2 0 [(.tok 0), (.tok 1)])))) (.ok 3 [(.tok 2)])), (.imp (.not (.or (.or (.not (.call 0 0 [(.tok 0), (.tok 1)])) (.not (.call 1 0 [(.tok 0), (.tok 2)]))) (.not (.call 2 0 [(.tok 0), (.tok 1)])))) (.ok 3 [(.tok 2)])), (.imp (.not (.or (.not (.call 0 0 [(.tok 0), (.tok 1)])) (.not (.call 1 0 [(.tok 0), (.tok 2)])))) (.ok 2 [(.tok 0), (.tok 1)])), (.imp (.not (.not (.call 0 0 [(.tok 0), (.tok 1)]))) (.ok 1 [(.tok 0), (.tok 2)])), (.ok 0 [(.tok 0), (.tok 1)])] (.br (.or (.or (.or (.not (.call 0 0 [(.tok 0), (.tok 1)])) (.not (.call 1 0 [(.tok 0), (.tok 2)]))) (.not (.call 2 0 [(.tok 0), (.tok 1)]))) (.call 4 0 [(.tok 0), (.call 3 0 [(.tok 2)]), (.tok 1)])) (.leaf [(.lit (.i 1)), (.tok 0)]) (.need [(.le (.lit (.i 0)) (.tok 1)), (.lt (.tok 1) (.len (.fld (.tok 0) 0))), (.le (.add (.len (.fld (.tok 0) 2)) (.lit (.i 1))) (.lit (.i 5864062014634)))] (.need [(.ok 3 [(.tok 2)]), (.le (.lit (.i 0)) (.tok 1)), (.lt (.tok 1) (.len (.fld (.set (.tok 0) 2 (.app (.fld (.tok 0) 2) (.row [(.mk [(.tok 1), (.get (.fld (.tok 0) 0) (.tok 1))])]))) 0)))] (.leaf [(.lit (.i 0)), (.set (.set (.tok 0) 2 (.app (.fld (.tok 0) 2) (.row [(.mk [(.tok 1), (.get (.fld (.tok 0) 0) (.tok 1))])]))) 0 (.put (.fld (.set (.tok 0) 2 (.app (.fld (.tok 0) 2) (.row [(.mk [(.tok 1), (.get (.fld (.tok 0) 0) (.tok 1))])]))) 0) (.tok 1) (.call 3 0 [(.tok 2)])))])))))
set_option maxRecDepth 100000 in
theorem code_trail_Set (g0 g1 g2 g3 g4 : List D → Option (List D)) : ∀ cd, Try.f57.body = some cd → treeOf Try.prog [(q13, g0), (q06, g1), (q15, g2), (q1t, g3), (q1n, g4)] ann_trail_Set q0v Try.f57 cd = q49 := by
  intro cd h
  injection h with h
  subst h
  kernel_rfl
theorem fok_trail_Set {g0 g1 g2 g3 g4 : List D → Option (List D)} {g : List D → Option (List D)} (h0 : FOk q13 g0) (h1 : FOk q06 g1) (h2 : FOk q15 g2) (h3 : FOk q1t g3) (h4 : FOk q1n g4) (h : ∀ ds outs, WfA q0v.ars ds → g ds = some outs → q49.go (tblS [(q13, g0), (q06, g1), (q15, g2), (q1t, g3), (q1n, g4)]) (fun o => o = outs) ds fun _ _ => False) : FOk q0v g :=
  q0a ann_trail_Set Try.f57 _ (.cons h0 (.cons h1 (.cons h2 (.cons h3 (.cons h4 .nil))))) rfl rfl enter_trail_Set (by decide) fun ds outs hw hg => by rw [code_trail_Set g0 g1 g2 g3 g4 _ rfl]; exact h ds outs hw hg

def q0f : Ct := ⟨44, [.val (.st 26), .val (.st 28)], [(.st 28, false)], [], none⟩
theorem enter_cells_Deref (args : Array Value) (w : World) : (callFunc q0f.f args).run Try.prog w = .ok (.enter q0f.f args) w := by kernel_rfl
def ann_cells_Deref : Ann := ⟨[0, 1, 2, 3, 4, 8, 12, 13, 14, 34], [(4, ⟨[(13, .int .i64, false)], [3], [14, 15, 16, 17, 18, 19, 20, 21, 22, 23, 24, 25, 26, 27, 28, 29, 30, 31, 32, 33, 34, 35, 36, 37, 38, 39, 40, 41], []⟩)]⟩
def q3a : Tree := (.need [(.ok 0 [(.tok 0), (.tok 1)])] (.br (.not (.call 0 0 [(.tok 0), (.tok 1)])) (.leaf [(.lit (.a [(.i 0), (.i 0)]))]) (.loop 4 2 [(.lit (.i 0)), (.tok 1)] (.br (.lt (.tok 2) (.len (.fld (.tok 0) 0))) (.need [(.imp (.not (.or (.not (.eq (.fld (.tok 3) 0) (.lit (.i 0)))) (.lt (.call 1 0 [(.tok 0), (.fld (.tok 3) 1)]) (.lit (.i 0))))) (.le (.lit (.i 0)) (.fld (.tok 3) 1))), (.imp (.not (.or (.not (.eq (.fld (.tok 3) 0) (.lit (.i 0)))) (.lt (.call 1 0 [(.tok 0), (.fld (.tok 3) 1)]) (.lit (.i 0))))) (.lt (.fld (.tok 3) 1) (.len (.fld (.tok 0) 0)))), (.imp (.not (.or (.not (.eq (.fld (.tok 3) 0) (.lit (.i 0)))) (.lt (.call 1 0 [(.tok 0), (.fld (.tok 3) 1)]) (.lit (.i 0))))) (.le (.lit (.i 0)) (.fld (.tok 3) 1))), (.imp (.not (.or (.not (.eq (.fld (.tok 3) 0) (.lit (.i 0)))) (.lt (.call 1 0 [(.tok 0), (.fld (.tok 3) 1)]) (.lit (.i 0))))) (.lt (.fld (.tok 3) 1) (.len (.fld (.tok 0) 0)))), (.imp (.not (.not (.eq (.fld (.tok 3) 0) (.lit (.i 0))))) (.ok 1 [(.tok 0), (.fld (.tok 3) 1)]))] (.br (.or (.or (.not (.eq (.fld (.tok 3) 0) (.lit (.i 0)))) (.lt (.call 1 0 [(.tok 0), (.fld (.tok 3) 1)]) (.lit (.i 0)))) (.eq (.get (.fld (.tok 0) 0) (.fld (.tok 3) 1)) (.tok 3))) (.leaf [(.tok 3)]) (.need [(.le (.lit (.i 0)) (.fld (.tok 3) 1)), (.lt (.fld (.tok 3) 1) (.len (.fld (.tok 0) 0)))] (.need [(.rng .i64 (.add (.tok 2) (.lit (.i 1))))] (.back 4 [(.add (.tok 2) (.lit (.i 1))), (.get (.fld (.tok 0) 0) (.fld (.tok 3) 1))]))))) (.leaf [(.tok 3)])))))
set_option maxRecDepth 100000 in
theorem code_cells_Deref (g0 g1 : List D → Option (List D)) : ∀ cd, Try.f44.body = some cd → treeOf Try.prog [(q06, g0), (q1g, g1)] ann_cells_Deref q0f Try.f44 cd = q3a := by
  intro cd h
  injection h with h
  subst h
  kernel_rfl
theorem fok_cells_Deref {g0 g1 : List D → Option (List D)} {g : List D → Option (List D)} (h0 : FOk q06 g0) (h1 : FOk q1g g1) (h : ∀ ds outs, WfA q0f.ars ds → g ds = some outs → q3a.go (tblS [(q06, g0), (q1g, g1)]) (fun o => o = outs) ds fun _ _ => False) : FOk q0f g :=
  q0a ann_cells_Deref Try.f44 _ (.cons h0 (.cons h1 .nil)) rfl rfl enter_cells_Deref (by decide) fun ds outs hw hg => by rw [code_cells_Deref g0 g1 _ rfl]; exact h ds outs hw hg

def q1z : Ct := ⟨86, [.val (.st 26), .val (.int .i64)], [(.bool, false)], [], none⟩
theorem enter_attr_in (args : Array Value) (w : World) : (callFunc q1z.f args).run Try.prog w = .ok (.enter q1z.f args) w := by kernel_rfl
def ann_attr_in : Ann := ⟨[0, 1, 2, 4], []⟩
def tree_attr_in : Tree := (.leaf [(.and (.le (.lit (.i 0)) (.tok 1)) (.lt (.tok 1) (.len (.fld (.tok 0) 0))))])
set_option maxRecDepth 100000 in
theorem code_attr_in : ∀ cd, Try.f86.body = some cd → treeOf Try.prog [] ann_attr_in q1z Try.f86 cd = tree_attr_in := by
  intro cd h
  injection h with h
  subst h
  kernel_rfl
theorem fok_attr_in {g : List D → Option (List D)}  (h : ∀ ds outs, WfA q1z.ars ds → g ds = some outs → tree_attr_in.go (tblS []) (fun o => o = outs) ds fun _ _ => False) : FOk q1z g :=
  q0a ann_attr_in Try.f86 _ .nil rfl rfl enter_attr_in (by decide) fun ds outs hw hg => by rw [code_attr_in  _ rfl]; exact h ds outs hw hg

def q1d : Ct := ⟨84, [.val (.st 26), .val (.st 28)], [(.st 28, false), (.bool, false)], [], none⟩
theorem enter_attr_variable (args : Array Value) (w : World) : (callFunc q1d.f args).run Try.prog w = .ok (.enter q1d.f args) w := by kernel_rfl
def ann_attr_variable : Ann := ⟨[0, 1, 2, 3, 4, 5, 9, 15, 16, 23], []⟩
def q2r : Tree := (.need [(.ok 0 [(.tok 0), (.tok 1)])] (.br (.not (.call 0 0 [(.tok 0), (.tok 1)])) (.leaf [(.lit (.a [(.i 0), (.i 0)])), (.lit (.b .false))]) (.need [(.ok 1 [(.tok 0), (.tok 1)])] (.br (.eq (.fld (.call 1 0 [(.tok 0), (.tok 1)]) 0) (.lit (.i 0))) (.need [(.ok 2 [(.tok 0), (.fld (.call 1 0 [(.tok 0), (.tok 1)]) 1)])] (.leaf [(.call 1 0 [(.tok 0), (.tok 1)]), (.call 2 0 [(.tok 0), (.fld (.call 1 0 [(.tok 0), (.tok 1)]) 1)])])) (.br (.eq (.fld (.call 1 0 [(.tok 0), (.tok 1)]) 0) (.lit (.i 5))) (.need [(.imp (.call 2 0 [(.tok 0), (.fld (.call 1 0 [(.tok 0), (.tok 1)]) 1)]) (.ok 2 [(.tok 0), (.add (.fld (.call 1 0 [(.tok 0), (.tok 1)]) 1) (.lit (.i 2)))])), (.imp (.call 2 0 [(.tok 0), (.fld (.call 1 0 [(.tok 0), (.tok 1)]) 1)]) (.rng .i64 (.add (.fld (.call 1 0 [(.tok 0), (.tok 1)]) 1) (.lit (.i 2))))), (.ok 2 [(.tok 0), (.fld (.call 1 0 [(.tok 0), (.tok 1)]) 1)])] (.leaf [(.call 1 0 [(.tok 0), (.tok 1)]), (.and (.call 2 0 [(.tok 0), (.fld (.call 1 0 [(.tok 0), (.tok 1)]) 1)]) (.call 2 0 [(.tok 0), (.add (.fld (.call 1 0 [(.tok 0), (.tok 1)]) 1) (.lit (.i 2)))]))])) (.leaf [(.lit (.a [(.i 0), (.i 0)])), (.lit (.b .false))]))))))
set_option maxRecDepth 100000 in
theorem code_attr_variable (g0 g1 g2 : List D → Option (List D)) : ∀ cd, Try.f84.body = some cd → treeOf Try.prog [(q06, g0), (q0f, g1), (q1z, g2)] ann_attr_variable q1d Try.f84 cd = q2r := by
  intro cd h
  injection h with h
  subst h
  kernel_rfl
theorem fok_attr_variable {g0 g1 g2 : List D → Option (List D)} {g : List D → Option (List D)} (h0 : FOk q06 g0) (h1 : FOk q0f g1) (h2 : FOk q1z g2) (h : ∀ ds outs, WfA q1d.ars ds → g ds = some outs → q2r.go (tblS [(q06, g0), (q0f, g1), (q1z, g2)]) (fun o => o = outs) ds fun _ _ => False) : FOk q1d g :=
  q0a ann_attr_variable Try.f84 _ (.cons h0 (.cons h1 (.cons h2 .nil))) rfl rfl enter_attr_variable (by decide) fun ds outs hw hg => by rw [code_attr_variable g0 g1 g2 _ rfl]; exact h ds outs hw hg

def q23 : Ct := ⟨102, [.val (.st 28)], [(.st 28, false)], [], none⟩
theorem enter_attr_kept (args : Array Value) (w : World) : (callFunc q23.f args).run Try.prog w = .ok (.enter q23.f args) w := by kernel_rfl
def ann_attr_kept : Ann := ⟨[0, 1, 2, 5], []⟩
def q46 : Tree := (.br (.eq (.fld (.tok 0) 0) (.lit (.i 5))) (.leaf [(.set (.tok 0) 0 (.lit (.i 0)))]) (.leaf [(.tok 0)]))
set_option maxRecDepth 100000 in
theorem code_attr_kept : ∀ cd, Try.f102.body = some cd → treeOf Try.prog [] ann_attr_kept q23 Try.f102 cd = q46 := by
  intro cd h
  injection h with h
  subst h
  kernel_rfl
theorem fok_attr_kept {g : List D → Option (List D)}  (h : ∀ ds outs, WfA q23.ars ds → g ds = some outs → q46.go (tblS []) (fun o => o = outs) ds fun _ _ => False) : FOk q23 g :=
  q0a ann_attr_kept Try.f102 _ .nil rfl rfl enter_attr_kept (by decide) fun ds outs hw hg => by rw [code_attr_kept  _ rfl]; exact h ds outs hw hg

def q25 : Ct := ⟨85, [.ref (.st 26), .val (.st 28), .val (.st 28)], [(.int .i64, false)], [], none⟩
theorem enter_attr_bind (args : Array Value) (w : World) : (callFunc q25.f args).run Try.prog w = .ok (.enter q25.f args) w := by kernel_rfl
def ann_attr_bind : Ann := ⟨[0, 1, 2, 4, 5, 6, 7, 8, 37], []⟩
def q4d : Tree := (.need [(.ok 0 [(.tok 2)]), (.ok 0 [(.tok 2)]), (.le (.lit (.i 0)) (.add (.fld (.tok 1) 1) (.lit (.i 2)))), (.lt (.add (.fld (.tok 1) 1) (.lit (.i 2))) (.len (.fld (.tok 0) 0))), (.rng .i64 (.add (.fld (.tok 1) 1) (.lit (.i 2)))), (.le (.lit (.i 0)) (.add (.fld (.tok 1) 1) (.lit (.i 1)))), (.lt (.add (.fld (.tok 1) 1) (.lit (.i 1))) (.len (.fld (.tok 0) 0))), (.rng .i64 (.add (.fld (.tok 1) 1) (.lit (.i 1))))] (.need [(.ok 1 [(.tok 0), (.fld (.tok 1) 1), (.tok 2)])] (.br (.not (.eq (.call 1 0 [(.tok 0), (.fld (.tok 1) 1), (.tok 2)]) (.lit (.i 0)))) (.leaf [(.call 1 0 [(.tok 0), (.fld (.tok 1) 1), (.tok 2)]), (.call 1 1 [(.tok 0), (.fld (.tok 1) 1), (.tok 2)])]) (.need [(.le (.add (.len (.fld (.call 1 1 [(.tok 0), (.fld (.tok 1) 1), (.tok 2)]) 3)) (.lit (.i 1))) (.lit (.i 3518437208780)))] (.leaf [(.lit (.i 0)), (.set (.call 1 1 [(.tok 0), (.fld (.tok 1) 1), (.tok 2)]) 3 (.app (.fld (.call 1 1 [(.tok 0), (.fld (.tok 1) 1), (.tok 2)]) 3) (.row [(.mk [(.fld (.get (.fld (.tok 0) 0) (.add (.fld (.tok 1) 1) (.lit (.i 1)))) 1), (.get (.fld (.tok 0) 0) (.add (.fld (.tok 1) 1) (.lit (.i 2)))), (.call 0 0 [(.tok 2)])])])))])))))
set_option maxRecDepth 100000 in
theorem code_attr_bind (g0 g1 : List D → Option (List D)) : ∀ cd, Try.f85.body = some cd → treeOf Try.prog [(q23, g0), (q0v, g1)] ann_attr_bind q25 Try.f85 cd = q4d := by
  intro cd h
  injection h with h
  subst h
  kernel_rfl
theorem fok_attr_bind {g0 g1 : List D → Option (List D)} {g : List D → Option (List D)} (h0 : FOk q23 g0) (h1 : FOk q0v g1) (h : ∀ ds outs, WfA q25.ars ds → g ds = some outs → q4d.go (tblS [(q23, g0), (q0v, g1)]) (fun o => o = outs) ds fun _ _ => False) : FOk q25 g :=
  q0a ann_attr_bind Try.f85 _ (.cons h0 (.cons h1 .nil)) rfl rfl enter_attr_bind (by decide) fun ds outs hw hg => by rw [code_attr_bind g0 g1 _ rfl]; exact h ds outs hw hg

def q0z : Ct := ⟨103, [.val (.int .i64)], [(.bool, false)], [], none⟩
theorem enter_cmp_isNaN_int64 (args : Array Value) (w : World) : (callFunc q0z.f args).run Try.prog w = .ok (.enter q0z.f args) w := by kernel_rfl
def q42 : Ann := ⟨[0, 2], []⟩
def q2k : Tree := (.leaf [(.not (.eq (.tok 0) (.tok 0)))])
set_option maxRecDepth 100000 in
theorem code_cmp_isNaN_int64 : ∀ cd, Try.f103.body = some cd → treeOf Try.prog [] q42 q0z Try.f103 cd = q2k := by
  intro cd h
  injection h with h
  subst h
  kernel_rfl
theorem fok_cmp_isNaN_int64 {g : List D → Option (List D)}  (h : ∀ ds outs, WfA q0z.ars ds → g ds = some outs → q2k.go (tblS []) (fun o => o = outs) ds fun _ _ => False) : FOk q0z g :=
  q0a q42 Try.f103 _ .nil rfl rfl enter_cmp_isNaN_int64 (by decide) fun ds outs hw hg => by rw [code_cmp_isNaN_int64  _ rfl]; exact h ds outs hw hg

def q0r : Ct := ⟨88, [.val (.int .i64), .val (.int .i64)], [(.int .i64, false)], [], none⟩
theorem enter_cmp_Compare_int64 (args : Array Value) (w : World) : (callFunc q0r.f args).run Try.prog w = .ok (.enter q0r.f args) w := by kernel_rfl
def q3e : Ann := ⟨[0, 1, 4, 5, 6, 11, 12, 13, 16, 19], []⟩
def q29 : Tree := (.need [(.ok 0 [(.tok 0)])] (.need [(.ok 0 [(.tok 1)])] (.br (.call 0 0 [(.tok 0)]) (.br (.call 0 0 [(.tok 1)]) (.leaf [(.lit (.i 0))]) (.leaf [(.lit (.i (-1)))])) (.br (.call 0 0 [(.tok 1)]) (.leaf [(.lit (.i 1))]) (.br (.lt (.tok 0) (.tok 1)) (.leaf [(.lit (.i (-1)))]) (.br (.lt (.tok 1) (.tok 0)) (.leaf [(.lit (.i 1))]) (.leaf [(.lit (.i 0))])))))))
set_option maxRecDepth 100000 in
theorem code_cmp_Compare_int64 (g0 : List D → Option (List D)) : ∀ cd, Try.f88.body = some cd → treeOf Try.prog [(q0z, g0)] q3e q0r Try.f88 cd = q29 := by
  intro cd h
  injection h with h
  subst h
  kernel_rfl
theorem fok_cmp_Compare_int64 {g0 : List D → Option (List D)} {g : List D → Option (List D)} (h0 : FOk q0z g0) (h : ∀ ds outs, WfA q0r.ars ds → g ds = some outs → q29.go (tblS [(q0z, g0)]) (fun o => o = outs) ds fun _ _ => False) : FOk q0r g :=
  q0a q3e Try.f88 _ (.cons h0 .nil) rfl rfl enter_cmp_Compare_int64 (by decide) fun ds outs hw hg => by rw [code_cmp_Compare_int64 g0 _ rfl]; exact h ds outs hw hg

def q20 : Ct := ⟨87, [.val (.row 3)], [(.int .i64, false)], [], none⟩
theorem enter_cmp_Or_int (args : Array Value) (w : World) : (callFunc q20.f args).run Try.prog w = .ok (.enter q20.f args) w := by kernel_rfl
def ann_cmp_Or_int : Ann := ⟨[0, 2, 3, 5, 6, 7, 8, 9, 14], [(3, ⟨[(2, .int .i64, false), (8, .int .i64, false)], [], [9, 10, 11, 5, 12, 13, 14, 15, 16], []⟩)]⟩
def q3j : Tree := (.loop 3 1 [(.lit (.i 0)), (.lit (.i 0))] (.br (.lt (.tok 2) (.len (.tok 0))) (.need [(.le (.lit (.i 0)) (.tok 2)), (.lt (.tok 2) (.len (.tok 0)))] (.br (.not (.eq (.get (.tok 0) (.tok 2)) (.lit (.i 0)))) (.leaf [(.get (.tok 0) (.tok 2))]) (.need [(.rng .i64 (.add (.tok 2) (.lit (.i 1))))] (.back 3 [(.tok 1), (.add (.tok 2) (.lit (.i 1)))])))) (.leaf [(.lit (.i 0))])))
set_option maxRecDepth 100000 in
theorem code_cmp_Or_int : ∀ cd, Try.f87.body = some cd → treeOf Try.prog [] ann_cmp_Or_int q20 Try.f87 cd = q3j := by
  intro cd h
  injection h with h
  subst h
  kernel_rfl
theorem fok_cmp_Or_int {g : List D → Option (List D)}  (h : ∀ ds outs, WfA q20.ars ds → g ds = some outs → q3j.go (tblS []) (fun o => o = outs) ds fun _ _ => False) : FOk q20 g :=
  q0a ann_cmp_Or_int Try.f87 _ .nil rfl rfl enter_cmp_Or_int (by decide) fun ds outs hw hg => by rw [code_cmp_Or_int  _ rfl]; exact h ds outs hw hg

def q24 : Ct := ⟨58, [.ref (.st 26), .val (.st 28), .val (.st 28)], [(.int .i64, false)], [], none⟩
theorem enter_attr_Bind (args : Array Value) (w : World) : (callFunc q24.f args).run Try.prog w = .ok (.enter q24.f args) w := by kernel_rfl
def ann_attr_Bind : Ann := ⟨[0, 1, 2, 4, 5, 6, 7, 8, 9, 11, 34, 40, 44, 53, 61, 107], []⟩
def q4c : Tree := (.need [(.ok 0 [(.tok 0), (.tok 1)]), (.ok 0 [(.tok 0), (.tok 1)])] (.need [(.imp (.not (.or (.not (.call 0 1 [(.tok 0), (.tok 1)])) (.not (.eq (.fld (.call 0 0 [(.tok 0), (.tok 1)]) 0) (.lit (.i 5)))))) (.ok 1 [(.tok 0), (.tok 2)]))] (.br (.or (.or (.not (.call 0 1 [(.tok 0), (.tok 1)])) (.not (.eq (.fld (.call 0 0 [(.tok 0), (.tok 1)]) 0) (.lit (.i 5))))) (.not (.call 1 0 [(.tok 0), (.tok 2)]))) (.leaf [(.lit (.i 1)), (.tok 0)]) (.need [(.ok 2 [(.tok 0), (.tok 2)]), (.ok 2 [(.tok 0), (.tok 2)])] (.br (.eq (.call 2 0 [(.tok 0), (.tok 2)]) (.call 0 0 [(.tok 0), (.tok 1)])) (.leaf [(.lit (.i 0)), (.tok 0)]) (.br (.eq (.fld (.call 2 0 [(.tok 0), (.tok 2)]) 0) (.lit (.i 0))) (.need [(.ok 3 [(.tok 0), (.fld (.call 2 0 [(.tok 0), (.tok 2)]) 1), (.call 0 0 [(.tok 0), (.tok 1)])])] (.leaf [(.call 3 0 [(.tok 0), (.fld (.call 2 0 [(.tok 0), (.tok 2)]) 1), (.call 0 0 [(.tok 0), (.tok 1)])]), (.call 3 1 [(.tok 0), (.fld (.call 2 0 [(.tok 0), (.tok 2)]) 1), (.call 0 0 [(.tok 0), (.tok 1)])])])) (.br (.not (.eq (.fld (.call 2 0 [(.tok 0), (.tok 2)]) 0) (.lit (.i 5)))) (.need [(.ok 4 [(.tok 0), (.call 0 0 [(.tok 0), (.tok 1)]), (.call 2 0 [(.tok 0), (.tok 2)])])] (.leaf [(.call 4 0 [(.tok 0), (.call 0 0 [(.tok 0), (.tok 1)]), (.call 2 0 [(.tok 0), (.tok 2)])]), (.call 4 1 [(.tok 0), (.call 0 0 [(.tok 0), (.tok 1)]), (.call 2 0 [(.tok 0), (.tok 2)])])])) (.need [(.imp (.not (.not (.call 5 0 [(.tok 0), (.fld (.call 2 0 [(.tok 0), (.tok 2)]) 1)]))) (.ok 5 [(.tok 0), (.add (.fld (.call 2 0 [(.tok 0), (.tok 2)]) 1) (.lit (.i 2)))])), (.imp (.not (.not (.call 5 0 [(.tok 0), (.fld (.call 2 0 [(.tok 0), (.tok 2)]) 1)]))) (.rng .i64 (.add (.fld (.call 2 0 [(.tok 0), (.tok 2)]) 1) (.lit (.i 2))))), (.imp (.not (.not (.call 5 0 [(.tok 0), (.fld (.call 2 0 [(.tok 0), (.tok 2)]) 1)]))) (.rng .i64 (.add (.fld (.call 2 0 [(.tok 0), (.tok 2)]) 1) (.lit (.i 2))))), (.ok 5 [(.tok 0), (.fld (.call 2 0 [(.tok 0), (.tok 2)]) 1)])] (.br (.or (.not (.call 5 0 [(.tok 0), (.fld (.call 2 0 [(.tok 0), (.tok 2)]) 1)])) (.not (.call 5 0 [(.tok 0), (.add (.fld (.call 2 0 [(.tok 0), (.tok 2)]) 1) (.lit (.i 2)))]))) (.leaf [(.lit (.i 1)), (.tok 0)]) (.need [(.ok 7 [(.row [(.call 6 0 [(.fld (.get (.fld (.tok 0) 0) (.add (.fld (.call 0 0 [(.tok 0), (.tok 1)]) 1) (.lit (.i 1)))) 1), (.fld (.get (.fld (.tok 0) 0) (.add (.fld (.call 2 0 [(.tok 0), (.tok 2)]) 1) (.lit (.i 1)))) 1)]), (.call 6 0 [(.fld (.call 0 0 [(.tok 0), (.tok 1)]) 1), (.fld (.call 2 0 [(.tok 0), (.tok 2)]) 1)])])]), (.ok 6 [(.fld (.call 0 0 [(.tok 0), (.tok 1)]) 1), (.fld (.call 2 0 [(.tok 0), (.tok 2)]) 1)]), (.ok 6 [(.fld (.get (.fld (.tok 0) 0) (.add (.fld (.call 0 0 [(.tok 0), (.tok 1)]) 1) (.lit (.i 1)))) 1), (.fld (.get (.fld (.tok 0) 0) (.add (.fld (.call 2 0 [(.tok 0), (.tok 2)]) 1) (.lit (.i 1)))) 1)]), (.le (.lit (.i 0)) (.add (.fld (.call 2 0 [(.tok 0), (.tok 2)]) 1) (.lit (.i 1)))), (.lt (.add (.fld (.call 2 0 [(.tok 0), (.tok 2)]) 1) (.lit (.i 1))) (.len (.fld (.tok 0) 0))), (.rng .i64 (.add (.fld (.call 2 0 [(.tok 0), (.tok 2)]) 1) (.lit (.i 1)))), (.le (.lit (.i 0)) (.add (.fld (.call 0 0 [(.tok 0), (.tok 1)]) 1) (.lit (.i 1)))), (.lt (.add (.fld (.call 0 0 [(.tok 0), (.tok 1)]) 1) (.lit (.i 1))) (.len (.fld (.tok 0) 0))), (.rng .i64 (.add (.fld (.call 0 0 [(.tok 0), (.tok 1)]) 1) (.lit (.i 1))))] (.br (.lt (.lit (.i 0)) (.call 7 0 [(.row [(.call 6 0 [(.fld (.get (.fld (.tok 0) 0) (.add (.fld (.call 0 0 [(.tok 0), (.tok 1)]) 1) (.lit (.i 1)))) 1), (.fld (.get (.fld (.tok 0) 0) (.add (.fld (.call 2 0 [(.tok 0), (.tok 2)]) 1) (.lit (.i 1)))) 1)]), (.call 6 0 [(.fld (.call 0 0 [(.tok 0), (.tok 1)]) 1), (.fld (.call 2 0 [(.tok 0), (.tok 2)]) 1)])])])) (.need [(.ok 4 [(.tok 0), (.call 0 0 [(.tok 0), (.tok 1)]), (.call 2 0 [(.tok 0), (.tok 2)])])] (.leaf [(.call 4 0 [(.tok 0), (.call 0 0 [(.tok 0), (.tok 1)]), (.call 2 0 [(.tok 0), (.tok 2)])]), (.call 4 1 [(.tok 0), (.call 0 0 [(.tok 0), (.tok 1)]), (.call 2 0 [(.tok 0), (.tok 2)])])])) (.need [(.ok 4 [(.tok 0), (.call 2 0 [(.tok 0), (.tok 2)]), (.call 0 0 [(.tok 0), (.tok 1)])])] (.leaf [(.call 4 0 [(.tok 0), (.call 2 0 [(.tok 0), (.tok 2)]), (.call 0 0 [(.tok 0), (.tok 1)])]), (.call 4 1 [(.tok 0), (.call 2 0 [(.tok 0), (.tok 2)]), (.call 0 0 [(.tok 0), (.tok 1)])])])))))))))))))
set_option maxRecDepth 100000 in
theorem code_attr_Bind (g0 g1 g2 g3 g4 g5 g6 g7 : List D → Option (List D)) : ∀ cd, Try.f58.body = some cd → treeOf Try.prog [(q1d, g0), (q06, g1), (q0f, g2), (q0v, g3), (q25, g4), (q1z, g5), (q0r, g6), (q20, g7)] ann_attr_Bind q24 Try.f58 cd = q4c := by
  intro cd h
  injection h with h
  subst h
  kernel_rfl
theorem fok_attr_Bind {g0 g1 g2 g3 g4 g5 g6 g7 : List D → Option (List D)} {g : List D → Option (List D)} (h0 : FOk q1d g0) (h1 : FOk q06 g1) (h2 : FOk q0f g2) (h3 : FOk q0v g3) (h4 : FOk q25 g4) (h5 : FOk q1z g5) (h6 : FOk q0r g6) (h7 : FOk q20 g7) (h : ∀ ds outs, WfA q24.ars ds → g ds = some outs → q4c.go (tblS [(q1d, g0), (q06, g1), (q0f, g2), (q0v, g3), (q25, g4), (q1z, g5), (q0r, g6), (q20, g7)]) (fun o => o = outs) ds fun _ _ => False) : FOk q24 g :=
  q0a ann_attr_Bind Try.f58 _ (.cons h0 (.cons h1 (.cons h2 (.cons h3 (.cons h4 (.cons h5 (.cons h6 (.cons h7 .nil)))))))) rfl rfl enter_attr_Bind (by decide) fun ds outs hw hg => by rw [code_attr_Bind g0 g1 g2 g3 g4 g5 g6 g7 _ rfl]; exact h ds outs hw hg

def q1u : Ct := ⟨28, [.ref (.st 26), .val (.st 28), .val (.st 28)], [(.bool, false)], [], none⟩
theorem enter_unify_bind (args : Array Value) (w : World) : (callFunc q1u.f args).run Try.prog w = .ok (.enter q1u.f args) w := by kernel_rfl
def ann_unify_bind : Ann := ⟨[0, 1, 2, 4, 5, 6, 7, 29, 39, 48], []⟩
def q3l : Tree := (.br (.and (.eq (.fld (.tok 2) 0) (.lit (.i 0))) (.or (.not (.eq (.fld (.tok 1) 0) (.lit (.i 0)))) (.lt (.fld (.tok 1) 1) (.fld (.tok 2) 1)))) (.need [(.ok 0 [(.tok 0), (.fld (.tok 2) 1), (.tok 1)])] (.leaf [(.eq (.call 0 0 [(.tok 0), (.fld (.tok 2) 1), (.tok 1)]) (.lit (.i 0))), (.call 0 1 [(.tok 0), (.fld (.tok 2) 1), (.tok 1)])])) (.br (.eq (.fld (.tok 1) 0) (.lit (.i 0))) (.need [(.ok 0 [(.tok 0), (.fld (.tok 1) 1), (.tok 2)])] (.leaf [(.eq (.call 0 0 [(.tok 0), (.fld (.tok 1) 1), (.tok 2)]) (.lit (.i 0))), (.call 0 1 [(.tok 0), (.fld (.tok 1) 1), (.tok 2)])])) (.br (.eq (.fld (.tok 1) 0) (.lit (.i 5))) (.need [(.ok 1 [(.tok 0), (.tok 1), (.tok 2)])] (.leaf [(.eq (.call 1 0 [(.tok 0), (.tok 1), (.tok 2)]) (.lit (.i 0))), (.call 1 1 [(.tok 0), (.tok 1), (.tok 2)])])) (.br (.eq (.fld (.tok 2) 0) (.lit (.i 5))) (.need [(.ok 1 [(.tok 0), (.tok 2), (.tok 1)])] (.leaf [(.eq (.call 1 0 [(.tok 0), (.tok 2), (.tok 1)]) (.lit (.i 0))), (.call 1 1 [(.tok 0), (.tok 2), (.tok 1)])])) (.leaf [(.lit (.b .false)), (.tok 0)])))))
set_option maxRecDepth 100000 in
theorem code_unify_bind (g0 g1 : List D → Option (List D)) : ∀ cd, Try.f28.body = some cd → treeOf Try.prog [(q0v, g0), (q24, g1)] ann_unify_bind q1u Try.f28 cd = q3l := by
  intro cd h
  injection h with h
  subst h
  kernel_rfl
theorem fok_unify_bind {g0 g1 : List D → Option (List D)} {g : List D → Option (List D)} (h0 : FOk q0v g0) (h1 : FOk q24 g1) (h : ∀ ds outs, WfA q1u.ars ds → g ds = some outs → q3l.go (tblS [(q0v, g0), (q24, g1)]) (fun o => o = outs) ds fun _ _ => False) : FOk q1u g :=
  q0a ann_unify_bind Try.f28 _ (.cons h0 (.cons h1 .nil)) rfl rfl enter_unify_bind (by decide) fun ds outs hw hg => by rw [code_unify_bind g0 g1 _ rfl]; exact h ds outs hw hg

def q0j : Ct := ⟨27, [.val (.st 28), .val (.st 28), .cell 33 3], [(.bool, false)], [(.cell 2, .ref (.st 26))], none⟩
theorem enter_unify_Unify_2 (args : Array Value) (w : World) : (callFunc q0j.f args).run Try.prog w = .ok (.enter q0j.f args) w := by kernel_rfl
def ann_unify_Unify_2 : Ann := ⟨[0, 1, 2, 3, 4, 5], []⟩
def q2q : Tree := (.need [(.ok 0 [(.tok 2), (.tok 0), (.tok 1)])] (.leaf [(.call 0 0 [(.tok 2), (.tok 0), (.tok 1)]), (.call 0 1 [(.tok 2), (.tok 0), (.tok 1)])]))
set_option maxRecDepth 100000 in
theorem code_unify_Unify_2 (g0 : List D → Option (List D)) : ∀ cd, Try.f27.body = some cd → treeOf Try.prog [(q1u, g0)] ann_unify_Unify_2 q0j Try.f27 cd = q2q := by
  intro cd h
  injection h with h
  subst h
  kernel_rfl
theorem fok_unify_Unify_2 {g0 : List D → Option (List D)} {g : List D → Option (List D)} (h0 : FOk q1u g0) (h : ∀ ds outs, WfA q0j.ars ds → g ds = some outs → q2q.go (tblS [(q1u, g0)]) (fun o => o = outs) ds fun _ _ => False) : FOk q0j g :=
  q0a ann_unify_Unify_2 Try.f27 _ (.cons h0 .nil) rfl rfl enter_unify_Unify_2 (by decide) fun ds outs hw hg => by rw [code_unify_Unify_2 g0 _ rfl]; exact h ds outs hw hg

def q0i : Ct := ⟨55, [.rref (.st 26), .val (.st 28)], [(.int .i64, false)], [], none⟩
theorem enter_unify_symbol (args : Array Value) (w : World) : (callFunc q0i.f args).run Try.prog w = .ok (.enter q0i.f args) w := by kernel_rfl
def ann_unify_symbol : Ann := ⟨[0, 1, 3, 4, 34], []⟩
def q2x : Tree := (.need [(.imp (.not (.or (.or (.not (.eq (.fld (.tok 1) 0) (.lit (.i 3)))) (.lt (.fld (.tok 1) 1) (.lit (.i 0)))) (.le (.len (.fld (.tok 0) 0)) (.fld (.tok 1) 1)))) (.le (.lit (.i 0)) (.fld (.tok 1) 1))), (.imp (.not (.or (.or (.not (.eq (.fld (.tok 1) 0) (.lit (.i 3)))) (.lt (.fld (.tok 1) 1) (.lit (.i 0)))) (.le (.len (.fld (.tok 0) 0)) (.fld (.tok 1) 1)))) (.lt (.fld (.tok 1) 1) (.len (.fld (.tok 0) 0))))] (.br (.or (.or (.or (.not (.eq (.fld (.tok 1) 0) (.lit (.i 3)))) (.lt (.fld (.tok 1) 1) (.lit (.i 0)))) (.le (.len (.fld (.tok 0) 0)) (.fld (.tok 1) 1))) (.not (.eq (.fld (.get (.fld (.tok 0) 0) (.fld (.tok 1) 1)) 0) (.lit (.i 4))))) (.leaf [(.lit (.i (-1)))]) (.need [(.le (.lit (.i 0)) (.fld (.tok 1) 1)), (.lt (.fld (.tok 1) 1) (.len (.fld (.tok 0) 0)))] (.leaf [(.fld (.get (.fld (.tok 0) 0) (.fld (.tok 1) 1)) 1)]))))
set_option maxRecDepth 100000 in
theorem code_unify_symbol : ∀ cd, Try.f55.body = some cd → treeOf Try.prog [] ann_unify_symbol q0i Try.f55 cd = q2x := by
  intro cd h
  injection h with h
  subst h
  kernel_rfl
theorem fok_unify_symbol {g : List D → Option (List D)}  (h : ∀ ds outs, WfA q0i.ars ds → g ds = some outs → q2x.go (tblS []) (fun o => o = outs) ds fun _ _ => False) : FOk q0i g :=
  q0a ann_unify_symbol Try.f55 _ .nil rfl rfl enter_unify_symbol (by decide) fun ds outs hw hg => by rw [code_unify_symbol  _ rfl]; exact h ds outs hw hg

def q0k : Ct := ⟨56, [.rref (.st 26), .val (.st 28)], [(.row 29, false)], [], none⟩
theorem enter_unify_arguments (args : Array Value) (w : World) : (callFunc q0k.f args).run Try.prog w = .ok (.enter q0k.f args) w := by kernel_rfl
def q3y : Ann := ⟨[0, 1, 3, 4, 5, 6, 7, 21, 43], []⟩
def q2i : Tree := (.need [(.ok 0 [(.tok 0), (.tok 1)])] (.br (.or (.lt (.call 0 0 [(.tok 0), (.tok 1)]) (.lit (.i 0))) (.le (.len (.fld (.tok 0) 1)) (.call 0 0 [(.tok 0), (.tok 1)]))) (.leaf [(.lit (.r []))]) (.need [(.rng .i64 (.add (.fld (.tok 1) 1) (.lit (.i 1))))] (.need [(.le (.lit (.i 0)) (.call 0 0 [(.tok 0), (.tok 1)])), (.lt (.call 0 0 [(.tok 0), (.tok 1)]) (.len (.fld (.tok 0) 1)))] (.br (.lt (.ite (.lt (.len (.fld (.tok 0) 0)) (.fn 9 [(.add (.fld (.tok 1) 1) (.lit (.i 1))), (.fld (.get (.fld (.tok 0) 1) (.call 0 0 [(.tok 0), (.tok 1)])) 1)])) (.len (.fld (.tok 0) 0)) (.fn 9 [(.add (.fld (.tok 1) 1) (.lit (.i 1))), (.fld (.get (.fld (.tok 0) 1) (.call 0 0 [(.tok 0), (.tok 1)])) 1)])) (.add (.fld (.tok 1) 1) (.lit (.i 1)))) (.leaf [(.lit (.r []))]) (.need [(.le (.lit (.i 0)) (.add (.fld (.tok 1) 1) (.lit (.i 1)))), (.le (.add (.fld (.tok 1) 1) (.lit (.i 1))) (.ite (.lt (.len (.fld (.tok 0) 0)) (.fn 9 [(.add (.fld (.tok 1) 1) (.lit (.i 1))), (.fld (.get (.fld (.tok 0) 1) (.call 0 0 [(.tok 0), (.tok 1)])) 1)])) (.len (.fld (.tok 0) 0)) (.fn 9 [(.add (.fld (.tok 1) 1) (.lit (.i 1))), (.fld (.get (.fld (.tok 0) 1) (.call 0 0 [(.tok 0), (.tok 1)])) 1)]))), (.le (.ite (.lt (.len (.fld (.tok 0) 0)) (.fn 9 [(.add (.fld (.tok 1) 1) (.lit (.i 1))), (.fld (.get (.fld (.tok 0) 1) (.call 0 0 [(.tok 0), (.tok 1)])) 1)])) (.len (.fld (.tok 0) 0)) (.fn 9 [(.add (.fld (.tok 1) 1) (.lit (.i 1))), (.fld (.get (.fld (.tok 0) 1) (.call 0 0 [(.tok 0), (.tok 1)])) 1)])) (.len (.fld (.tok 0) 0)))] (.leaf [(.cut (.fld (.tok 0) 0) (.add (.fld (.tok 1) 1) (.lit (.i 1))) (.ite (.lt (.len (.fld (.tok 0) 0)) (.fn 9 [(.add (.fld (.tok 1) 1) (.lit (.i 1))), (.fld (.get (.fld (.tok 0) 1) (.call 0 0 [(.tok 0), (.tok 1)])) 1)])) (.len (.fld (.tok 0) 0)) (.fn 9 [(.add (.fld (.tok 1) 1) (.lit (.i 1))), (.fld (.get (.fld (.tok 0) 1) (.call 0 0 [(.tok 0), (.tok 1)])) 1)])))])))))))
set_option maxRecDepth 100000 in
theorem code_unify_arguments (g0 : List D → Option (List D)) : ∀ cd, Try.f56.body = some cd → treeOf Try.prog [(q0i, g0)] q3y q0k Try.f56 cd = q2i := by
  intro cd h
  injection h with h
  subst h
  kernel_rfl
theorem fok_unify_arguments {g0 : List D → Option (List D)} {g : List D → Option (List D)} (h0 : FOk q0i g0) (h : ∀ ds outs, WfA q0k.ars ds → g ds = some outs → q2i.go (tblS [(q0i, g0)]) (fun o => o = outs) ds fun _ _ => False) : FOk q0k g :=
  q0a q3y Try.f56 _ (.cons h0 .nil) rfl rfl enter_unify_arguments (by decide) fun ds outs hw hg => by rw [code_unify_arguments g0 _ rfl]; exact h ds outs hw hg

def q0n : Ct := ⟨26, [.ref (.st 26), .val (.st 28), .val (.st 28), .fn 27 [4]], [(.int .i64, false)], [(.cap 3 0, .cell 33 0)], none⟩
theorem enter_unify_process_u (args : Array Value) (w : World) : (callFunc q0n.f args).run Try.prog w = .ok (.enter q0n.f args) w := by kernel_rfl
def q43 : Ann := ⟨[0, 1, 2, 3, 5, 6, 8, 9, 10, 11, 12, 13, 14, 15, 16, 23, 27, 59, 72, 86], [(3, ⟨[(8, .int .i64, false), (9, .row 93, false), (10, .int .i64, false)], [0], [21, 22, 23, 26, 27, 28, 29, 30, 31, 32, 33, 11, 34, 35, 36, 37, 38, 39, 40, 41, 42, 43, 44, 45, 46, 47, 48, 49, 50, 12, 13, 51, 52, 53, 54, 55, 56, 57, 58, 59, 60, 61, 62, 63, 64, 65, 66, 67, 68, 69, 70, 71, 72, 73, 74, 75, 76, 77, 78, 14, 15, 79, 80, 81, 82, 83, 84, 16, 85, 86, 89, 90, 91, 92, 93, 94, 95, 96, 97, 98, 99, 100, 87, 88, 24, 25], []⟩),
  (15, ⟨[(9, .row 93, false), (16, .int .i64, false)], [], [85, 86, 89, 90, 91, 92, 93, 94, 95, 96, 97, 98, 99, 100, 87, 88], []⟩)]⟩
def q2d : Tree := (.loop 3 3 [(.lit (.i 0)), (.row [(.mk [(.tok 1), (.tok 2)])]), (.lit (.i 0)), (.tok 0)] (.br (.lt (.lit (.i 0)) (.len (.tok 4))) (.br (.eq (.tok 5) (.lit (.i 1048576))) (.leaf [(.lit (.i 2)), (.tok 6)]) (.need [(.rng .i64 (.sub (.len (.tok 4)) (.lit (.i 1)))), (.le (.lit (.i 0)) (.sub (.len (.tok 4)) (.lit (.i 1)))), (.lt (.sub (.len (.tok 4)) (.lit (.i 1))) (.len (.tok 4)))] (.need [(.rng .i64 (.sub (.len (.tok 4)) (.lit (.i 1)))), (.le (.lit (.i 0)) (.sub (.len (.tok 4)) (.lit (.i 1)))), (.le (.sub (.len (.tok 4)) (.lit (.i 1))) (.len (.tok 4)))] (.need [(.ok 1 [(.tok 6), (.fld (.get (.tok 4) (.sub (.len (.tok 4)) (.lit (.i 1)))) 1)]), (.ok 1 [(.tok 6), (.fld (.get (.tok 4) (.sub (.len (.tok 4)) (.lit (.i 1)))) 1)]), (.ok 1 [(.tok 6), (.fld (.get (.tok 4) (.sub (.len (.tok 4)) (.lit (.i 1)))) 0)]), (.ok 1 [(.tok 6), (.fld (.get (.tok 4) (.sub (.len (.tok 4)) (.lit (.i 1)))) 0)]), (.ok 1 [(.tok 6), (.fld (.get (.tok 4) (.sub (.len (.tok 4)) (.lit (.i 1)))) 0)])] (.need [(.imp (.not (.eq (.call 1 0 [(.tok 6), (.fld (.get (.tok 4) (.sub (.len (.tok 4)) (.lit (.i 1)))) 0)]) (.call 1 0 [(.tok 6), (.fld (.get (.tok 4) (.sub (.len (.tok 4)) (.lit (.i 1)))) 1)]))) (.ok 0 [(.call 1 0 [(.tok 6), (.fld (.get (.tok 4) (.sub (.len (.tok 4)) (.lit (.i 1)))) 0)]), (.call 1 0 [(.tok 6), (.fld (.get (.tok 4) (.sub (.len (.tok 4)) (.lit (.i 1)))) 1)]), (.tok 6)]))] (.br (.or (.eq (.call 1 0 [(.tok 6), (.fld (.get (.tok 4) (.sub (.len (.tok 4)) (.lit (.i 1)))) 0)]) (.call 1 0 [(.tok 6), (.fld (.get (.tok 4) (.sub (.len (.tok 4)) (.lit (.i 1)))) 1)])) (.call 0 0 [(.call 1 0 [(.tok 6), (.fld (.get (.tok 4) (.sub (.len (.tok 4)) (.lit (.i 1)))) 0)]), (.call 1 0 [(.tok 6), (.fld (.get (.tok 4) (.sub (.len (.tok 4)) (.lit (.i 1)))) 1)]), (.tok 6)])) (.need [(.rng .i64 (.add (.tok 5) (.lit (.i 1))))] (.back 3 [(.tok 3), (.cut (.tok 4) (.lit (.i 0)) (.sub (.len (.tok 4)) (.lit (.i 1)))), (.add (.tok 5) (.lit (.i 1))), (.ite (.not (.eq (.call 1 0 [(.tok 6), (.fld (.get (.tok 4) (.sub (.len (.tok 4)) (.lit (.i 1)))) 0)]) (.call 1 0 [(.tok 6), (.fld (.get (.tok 4) (.sub (.len (.tok 4)) (.lit (.i 1)))) 1)]))) (.call 0 1 [(.call 1 0 [(.tok 6), (.fld (.get (.tok 4) (.sub (.len (.tok 4)) (.lit (.i 1)))) 0)]), (.call 1 0 [(.tok 6), (.fld (.get (.tok 4) (.sub (.len (.tok 4)) (.lit (.i 1)))) 1)]), (.tok 6)]) (.tok 6))])) (.need [(.imp (.not (.lt (.call 2 0 [(.ite (.not (.eq (.call 1 0 [(.tok 6), (.fld (.get (.tok 4) (.sub (.len (.tok 4)) (.lit (.i 1)))) 0)]) (.call 1 0 [(.tok 6), (.fld (.get (.tok 4) (.sub (.len (.tok 4)) (.lit (.i 1)))) 1)]))) (.call 0 1 [(.call 1 0 [(.tok 6), (.fld (.get (.tok 4) (.sub (.len (.tok 4)) (.lit (.i 1)))) 0)]), (.call 1 0 [(.tok 6), (.fld (.get (.tok 4) (.sub (.len (.tok 4)) (.lit (.i 1)))) 1)]), (.tok 6)]) (.tok 6)), (.call 1 0 [(.tok 6), (.fld (.get (.tok 4) (.sub (.len (.tok 4)) (.lit (.i 1)))) 0)])]) (.lit (.i 0)))) (.ok 2 [(.ite (.not (.eq (.call 1 0 [(.tok 6), (.fld (.get (.tok 4) (.sub (.len (.tok 4)) (.lit (.i 1)))) 0)]) (.call 1 0 [(.tok 6), (.fld (.get (.tok 4) (.sub (.len (.tok 4)) (.lit (.i 1)))) 1)]))) (.call 0 1 [(.call 1 0 [(.tok 6), (.fld (.get (.tok 4) (.sub (.len (.tok 4)) (.lit (.i 1)))) 0)]), (.call 1 0 [(.tok 6), (.fld (.get (.tok 4) (.sub (.len (.tok 4)) (.lit (.i 1)))) 1)]), (.tok 6)]) (.tok 6)), (.call 1 0 [(.tok 6), (.fld (.get (.tok 4) (.sub (.len (.tok 4)) (.lit (.i 1)))) 1)])])), (.imp (.not (.lt (.call 2 0 [(.ite (.not (.eq (.call 1 0 [(.tok 6), (.fld (.get (.tok 4) (.sub (.len (.tok 4)) (.lit (.i 1)))) 0)]) (.call 1 0 [(.tok 6), (.fld (.get (.tok 4) (.sub (.len (.tok 4)) (.lit (.i 1)))) 1)]))) (.call 0 1 [(.call 1 0 [(.tok 6), (.fld (.get (.tok 4) (.sub (.len (.tok 4)) (.lit (.i 1)))) 0)]), (.call 1 0 [(.tok 6), (.fld (.get (.tok 4) (.sub (.len (.tok 4)) (.lit (.i 1)))) 1)]), (.tok 6)]) (.tok 6)), (.call 1 0 [(.tok 6), (.fld (.get (.tok 4) (.sub (.len (.tok 4)) (.lit (.i 1)))) 0)])]) (.lit (.i 0)))) (.ok 2 [(.ite (.not (.eq (.call 1 0 [(.tok 6), (.fld (.get (.tok 4) (.sub (.len (.tok 4)) (.lit (.i 1)))) 0)]) (.call 1 0 [(.tok 6), (.fld (.get (.tok 4) (.sub (.len (.tok 4)) (.lit (.i 1)))) 1)]))) (.call 0 1 [(.call 1 0 [(.tok 6), (.fld (.get (.tok 4) (.sub (.len (.tok 4)) (.lit (.i 1)))) 0)]), (.call 1 0 [(.tok 6), (.fld (.get (.tok 4) (.sub (.len (.tok 4)) (.lit (.i 1)))) 1)]), (.tok 6)]) (.tok 6)), (.call 1 0 [(.tok 6), (.fld (.get (.tok 4) (.sub (.len (.tok 4)) (.lit (.i 1)))) 0)])])), (.imp (.not (.lt (.call 2 0 [(.ite (.not (.eq (.call 1 0 [(.tok 6), (.fld (.get (.tok 4) (.sub (.len (.tok 4)) (.lit (.i 1)))) 0)]) (.call 1 0 [(.tok 6), (.fld (.get (.tok 4) (.sub (.len (.tok 4)) (.lit (.i 1)))) 1)]))) (.call 0 1 [(.call 1 0 [(.tok 6), (.fld (.get (.tok 4) (.sub (.len (.tok 4)) (.lit (.i 1)))) 0)]), (.call 1 0 [(.tok 6), (.fld (.get (.tok 4) (.sub (.len (.tok 4)) (.lit (.i 1)))) 1)]), (.tok 6)]) (.tok 6)), (.call 1 0 [(.tok 6), (.fld (.get (.tok 4) (.sub (.len (.tok 4)) (.lit (.i 1)))) 0)])]) (.lit (.i 0)))) (.ok 2 [(.ite (.not (.eq (.call 1 0 [(.tok 6), (.fld (.get (.tok 4) (.sub (.len (.tok 4)) (.lit (.i 1)))) 0)]) (.call 1 0 [(.tok 6), (.fld (.get (.tok 4) (.sub (.len (.tok 4)) (.lit (.i 1)))) 1)]))) (.call 0 1 [(.call 1 0 [(.tok 6), (.fld (.get (.tok 4) (.sub (.len (.tok 4)) (.lit (.i 1)))) 0)]), (.call 1 0 [(.tok 6), (.fld (.get (.tok 4) (.sub (.len (.tok 4)) (.lit (.i 1)))) 1)]), (.tok 6)]) (.tok 6)), (.call 1 0 [(.tok 6), (.fld (.get (.tok 4) (.sub (.len (.tok 4)) (.lit (.i 1)))) 0)])])), (.imp (.not (.lt (.call 2 0 [(.ite (.not (.eq (.call 1 0 [(.tok 6), (.fld (.get (.tok 4) (.sub (.len (.tok 4)) (.lit (.i 1)))) 0)]) (.call 1 0 [(.tok 6), (.fld (.get (.tok 4) (.sub (.len (.tok 4)) (.lit (.i 1)))) 1)]))) (.call 0 1 [(.call 1 0 [(.tok 6), (.fld (.get (.tok 4) (.sub (.len (.tok 4)) (.lit (.i 1)))) 0)]), (.call 1 0 [(.tok 6), (.fld (.get (.tok 4) (.sub (.len (.tok 4)) (.lit (.i 1)))) 1)]), (.tok 6)]) (.tok 6)), (.call 1 0 [(.tok 6), (.fld (.get (.tok 4) (.sub (.len (.tok 4)) (.lit (.i 1)))) 0)])]) (.lit (.i 0)))) (.ok 2 [(.ite (.not (.eq (.call 1 0 [(.tok 6), (.fld (.get (.tok 4) (.sub (.len (.tok 4)) (.lit (.i 1)))) 0)]) (.call 1 0 [(.tok 6), (.fld (.get (.tok 4) (.sub (.len (.tok 4)) (.lit (.i 1)))) 1)]))) (.call 0 1 [(.call 1 0 [(.tok 6), (.fld (.get (.tok 4) (.sub (.len (.tok 4)) (.lit (.i 1)))) 0)]), (.call 1 0 [(.tok 6), (.fld (.get (.tok 4) (.sub (.len (.tok 4)) (.lit (.i 1)))) 1)]), (.tok 6)]) (.tok 6)), (.call 1 0 [(.tok 6), (.fld (.get (.tok 4) (.sub (.len (.tok 4)) (.lit (.i 1)))) 0)])])), (.ok 2 [(.ite (.not (.eq (.call 1 0 [(.tok 6), (.fld (.get (.tok 4) (.sub (.len (.tok 4)) (.lit (.i 1)))) 0)]) (.call 1 0 [(.tok 6), (.fld (.get (.tok 4) (.sub (.len (.tok 4)) (.lit (.i 1)))) 1)]))) (.call 0 1 [(.call 1 0 [(.tok 6), (.fld (.get (.tok 4) (.sub (.len (.tok 4)) (.lit (.i 1)))) 0)]), (.call 1 0 [(.tok 6), (.fld (.get (.tok 4) (.sub (.len (.tok 4)) (.lit (.i 1)))) 1)]), (.tok 6)]) (.tok 6)), (.call 1 0 [(.tok 6), (.fld (.get (.tok 4) (.sub (.len (.tok 4)) (.lit (.i 1)))) 0)])])] (.br (.or (.lt (.call 2 0 [(.ite (.not (.eq (.call 1 0 [(.tok 6), (.fld (.get (.tok 4) (.sub (.len (.tok 4)) (.lit (.i 1)))) 0)]) (.call 1 0 [(.tok 6), (.fld (.get (.tok 4) (.sub (.len (.tok 4)) (.lit (.i 1)))) 1)]))) (.call 0 1 [(.call 1 0 [(.tok 6), (.fld (.get (.tok 4) (.sub (.len (.tok 4)) (.lit (.i 1)))) 0)]), (.call 1 0 [(.tok 6), (.fld (.get (.tok 4) (.sub (.len (.tok 4)) (.lit (.i 1)))) 1)]), (.tok 6)]) (.tok 6)), (.call 1 0 [(.tok 6), (.fld (.get (.tok 4) (.sub (.len (.tok 4)) (.lit (.i 1)))) 0)])]) (.lit (.i 0))) (.not (.eq (.call 2 0 [(.ite (.not (.eq (.call 1 0 [(.tok 6), (.fld (.get (.tok 4) (.sub (.len (.tok 4)) (.lit (.i 1)))) 0)]) (.call 1 0 [(.tok 6), (.fld (.get (.tok 4) (.sub (.len (.tok 4)) (.lit (.i 1)))) 1)]))) (.call 0 1 [(.call 1 0 [(.tok 6), (.fld (.get (.tok 4) (.sub (.len (.tok 4)) (.lit (.i 1)))) 0)]), (.call 1 0 [(.tok 6), (.fld (.get (.tok 4) (.sub (.len (.tok 4)) (.lit (.i 1)))) 1)]), (.tok 6)]) (.tok 6)), (.call 1 0 [(.tok 6), (.fld (.get (.tok 4) (.sub (.len (.tok 4)) (.lit (.i 1)))) 0)])]) (.call 2 0 [(.ite (.not (.eq (.call 1 0 [(.tok 6), (.fld (.get (.tok 4) (.sub (.len (.tok 4)) (.lit (.i 1)))) 0)]) (.call 1 0 [(.tok 6), (.fld (.get (.tok 4) (.sub (.len (.tok 4)) (.lit (.i 1)))) 1)]))) (.call 0 1 [(.call 1 0 [(.tok 6), (.fld (.get (.tok 4) (.sub (.len (.tok 4)) (.lit (.i 1)))) 0)]), (.call 1 0 [(.tok 6), (.fld (.get (.tok 4) (.sub (.len (.tok 4)) (.lit (.i 1)))) 1)]), (.tok 6)]) (.tok 6)), (.call 1 0 [(.tok 6), (.fld (.get (.tok 4) (.sub (.len (.tok 4)) (.lit (.i 1)))) 1)])])))) (.leaf [(.lit (.i 4)), (.ite (.not (.eq (.call 1 0 [(.tok 6), (.fld (.get (.tok 4) (.sub (.len (.tok 4)) (.lit (.i 1)))) 0)]) (.call 1 0 [(.tok 6), (.fld (.get (.tok 4) (.sub (.len (.tok 4)) (.lit (.i 1)))) 1)]))) (.call 0 1 [(.call 1 0 [(.tok 6), (.fld (.get (.tok 4) (.sub (.len (.tok 4)) (.lit (.i 1)))) 0)]), (.call 1 0 [(.tok 6), (.fld (.get (.tok 4) (.sub (.len (.tok 4)) (.lit (.i 1)))) 1)]), (.tok 6)]) (.tok 6))]) (.need [(.ok 3 [(.ite (.not (.eq (.call 1 0 [(.tok 6), (.fld (.get (.tok 4) (.sub (.len (.tok 4)) (.lit (.i 1)))) 0)]) (.call 1 0 [(.tok 6), (.fld (.get (.tok 4) (.sub (.len (.tok 4)) (.lit (.i 1)))) 1)]))) (.call 0 1 [(.call 1 0 [(.tok 6), (.fld (.get (.tok 4) (.sub (.len (.tok 4)) (.lit (.i 1)))) 0)]), (.call 1 0 [(.tok 6), (.fld (.get (.tok 4) (.sub (.len (.tok 4)) (.lit (.i 1)))) 1)]), (.tok 6)]) (.tok 6)), (.call 1 0 [(.tok 6), (.fld (.get (.tok 4) (.sub (.len (.tok 4)) (.lit (.i 1)))) 1)])]), (.ok 3 [(.ite (.not (.eq (.call 1 0 [(.tok 6), (.fld (.get (.tok 4) (.sub (.len (.tok 4)) (.lit (.i 1)))) 0)]) (.call 1 0 [(.tok 6), (.fld (.get (.tok 4) (.sub (.len (.tok 4)) (.lit (.i 1)))) 1)]))) (.call 0 1 [(.call 1 0 [(.tok 6), (.fld (.get (.tok 4) (.sub (.len (.tok 4)) (.lit (.i 1)))) 0)]), (.call 1 0 [(.tok 6), (.fld (.get (.tok 4) (.sub (.len (.tok 4)) (.lit (.i 1)))) 1)]), (.tok 6)]) (.tok 6)), (.call 1 0 [(.tok 6), (.fld (.get (.tok 4) (.sub (.len (.tok 4)) (.lit (.i 1)))) 0)])])] (.need [(.rng .i64 (.sub (.ite (.lt (.len (.call 3 0 [(.ite (.not (.eq (.call 1 0 [(.tok 6), (.fld (.get (.tok 4) (.sub (.len (.tok 4)) (.lit (.i 1)))) 0)]) (.call 1 0 [(.tok 6), (.fld (.get (.tok 4) (.sub (.len (.tok 4)) (.lit (.i 1)))) 1)]))) (.call 0 1 [(.call 1 0 [(.tok 6), (.fld (.get (.tok 4) (.sub (.len (.tok 4)) (.lit (.i 1)))) 0)]), (.call 1 0 [(.tok 6), (.fld (.get (.tok 4) (.sub (.len (.tok 4)) (.lit (.i 1)))) 1)]), (.tok 6)]) (.tok 6)), (.call 1 0 [(.tok 6), (.fld (.get (.tok 4) (.sub (.len (.tok 4)) (.lit (.i 1)))) 1)])])) (.len (.call 3 0 [(.ite (.not (.eq (.call 1 0 [(.tok 6), (.fld (.get (.tok 4) (.sub (.len (.tok 4)) (.lit (.i 1)))) 0)]) (.call 1 0 [(.tok 6), (.fld (.get (.tok 4) (.sub (.len (.tok 4)) (.lit (.i 1)))) 1)]))) (.call 0 1 [(.call 1 0 [(.tok 6), (.fld (.get (.tok 4) (.sub (.len (.tok 4)) (.lit (.i 1)))) 0)]), (.call 1 0 [(.tok 6), (.fld (.get (.tok 4) (.sub (.len (.tok 4)) (.lit (.i 1)))) 1)]), (.tok 6)]) (.tok 6)), (.call 1 0 [(.tok 6), (.fld (.get (.tok 4) (.sub (.len (.tok 4)) (.lit (.i 1)))) 0)])]))) (.len (.call 3 0 [(.ite (.not (.eq (.call 1 0 [(.tok 6), (.fld (.get (.tok 4) (.sub (.len (.tok 4)) (.lit (.i 1)))) 0)]) (.call 1 0 [(.tok 6), (.fld (.get (.tok 4) (.sub (.len (.tok 4)) (.lit (.i 1)))) 1)]))) (.call 0 1 [(.call 1 0 [(.tok 6), (.fld (.get (.tok 4) (.sub (.len (.tok 4)) (.lit (.i 1)))) 0)]), (.call 1 0 [(.tok 6), (.fld (.get (.tok 4) (.sub (.len (.tok 4)) (.lit (.i 1)))) 1)]), (.tok 6)]) (.tok 6)), (.call 1 0 [(.tok 6), (.fld (.get (.tok 4) (.sub (.len (.tok 4)) (.lit (.i 1)))) 1)])])) (.len (.call 3 0 [(.ite (.not (.eq (.call 1 0 [(.tok 6), (.fld (.get (.tok 4) (.sub (.len (.tok 4)) (.lit (.i 1)))) 0)]) (.call 1 0 [(.tok 6), (.fld (.get (.tok 4) (.sub (.len (.tok 4)) (.lit (.i 1)))) 1)]))) (.call 0 1 [(.call 1 0 [(.tok 6), (.fld (.get (.tok 4) (.sub (.len (.tok 4)) (.lit (.i 1)))) 0)]), (.call 1 0 [(.tok 6), (.fld (.get (.tok 4) (.sub (.len (.tok 4)) (.lit (.i 1)))) 1)]), (.tok 6)]) (.tok 6)), (.call 1 0 [(.tok 6), (.fld (.get (.tok 4) (.sub (.len (.tok 4)) (.lit (.i 1)))) 0)])]))) (.lit (.i 1))))] (.loop 15 7 [(.cut (.tok 4) (.lit (.i 0)) (.sub (.len (.tok 4)) (.lit (.i 1)))), (.sub (.ite (.lt (.len (.call 3 0 [(.ite (.not (.eq (.call 1 0 [(.tok 6), (.fld (.get (.tok 4) (.sub (.len (.tok 4)) (.lit (.i 1)))) 0)]) (.call 1 0 [(.tok 6), (.fld (.get (.tok 4) (.sub (.len (.tok 4)) (.lit (.i 1)))) 1)]))) (.call 0 1 [(.call 1 0 [(.tok 6), (.fld (.get (.tok 4) (.sub (.len (.tok 4)) (.lit (.i 1)))) 0)]), (.call 1 0 [(.tok 6), (.fld (.get (.tok 4) (.sub (.len (.tok 4)) (.lit (.i 1)))) 1)]), (.tok 6)]) (.tok 6)), (.call 1 0 [(.tok 6), (.fld (.get (.tok 4) (.sub (.len (.tok 4)) (.lit (.i 1)))) 1)])])) (.len (.call 3 0 [(.ite (.not (.eq (.call 1 0 [(.tok 6), (.fld (.get (.tok 4) (.sub (.len (.tok 4)) (.lit (.i 1)))) 0)]) (.call 1 0 [(.tok 6), (.fld (.get (.tok 4) (.sub (.len (.tok 4)) (.lit (.i 1)))) 1)]))) (.call 0 1 [(.call 1 0 [(.tok 6), (.fld (.get (.tok 4) (.sub (.len (.tok 4)) (.lit (.i 1)))) 0)]), (.call 1 0 [(.tok 6), (.fld (.get (.tok 4) (.sub (.len (.tok 4)) (.lit (.i 1)))) 1)]), (.tok 6)]) (.tok 6)), (.call 1 0 [(.tok 6), (.fld (.get (.tok 4) (.sub (.len (.tok 4)) (.lit (.i 1)))) 0)])]))) (.len (.call 3 0 [(.ite (.not (.eq (.call 1 0 [(.tok 6), (.fld (.get (.tok 4) (.sub (.len (.tok 4)) (.lit (.i 1)))) 0)]) (.call 1 0 [(.tok 6), (.fld (.get (.tok 4) (.sub (.len (.tok 4)) (.lit (.i 1)))) 1)]))) (.call 0 1 [(.call 1 0 [(.tok 6), (.fld (.get (.tok 4) (.sub (.len (.tok 4)) (.lit (.i 1)))) 0)]), (.call 1 0 [(.tok 6), (.fld (.get (.tok 4) (.sub (.len (.tok 4)) (.lit (.i 1)))) 1)]), (.tok 6)]) (.tok 6)), (.call 1 0 [(.tok 6), (.fld (.get (.tok 4) (.sub (.len (.tok 4)) (.lit (.i 1)))) 1)])])) (.len (.call 3 0 [(.ite (.not (.eq (.call 1 0 [(.tok 6), (.fld (.get (.tok 4) (.sub (.len (.tok 4)) (.lit (.i 1)))) 0)]) (.call 1 0 [(.tok 6), (.fld (.get (.tok 4) (.sub (.len (.tok 4)) (.lit (.i 1)))) 1)]))) (.call 0 1 [(.call 1 0 [(.tok 6), (.fld (.get (.tok 4) (.sub (.len (.tok 4)) (.lit (.i 1)))) 0)]), (.call 1 0 [(.tok 6), (.fld (.get (.tok 4) (.sub (.len (.tok 4)) (.lit (.i 1)))) 1)]), (.tok 6)]) (.tok 6)), (.call 1 0 [(.tok 6), (.fld (.get (.tok 4) (.sub (.len (.tok 4)) (.lit (.i 1)))) 0)])]))) (.lit (.i 1)))] (.br (.le (.lit (.i 0)) (.tok 8)) (.need [(.le (.add (.len (.tok 7)) (.lit (.i 1))) (.lit (.i 4398046510976))), (.le (.lit (.i 0)) (.tok 8)), (.lt (.tok 8) (.len (.call 3 0 [(.ite (.not (.eq (.call 1 0 [(.tok 6), (.fld (.get (.tok 4) (.sub (.len (.tok 4)) (.lit (.i 1)))) 0)]) (.call 1 0 [(.tok 6), (.fld (.get (.tok 4) (.sub (.len (.tok 4)) (.lit (.i 1)))) 1)]))) (.call 0 1 [(.call 1 0 [(.tok 6), (.fld (.get (.tok 4) (.sub (.len (.tok 4)) (.lit (.i 1)))) 0)]), (.call 1 0 [(.tok 6), (.fld (.get (.tok 4) (.sub (.len (.tok 4)) (.lit (.i 1)))) 1)]), (.tok 6)]) (.tok 6)), (.call 1 0 [(.tok 6), (.fld (.get (.tok 4) (.sub (.len (.tok 4)) (.lit (.i 1)))) 1)])]))), (.le (.lit (.i 0)) (.tok 8)), (.lt (.tok 8) (.len (.call 3 0 [(.ite (.not (.eq (.call 1 0 [(.tok 6), (.fld (.get (.tok 4) (.sub (.len (.tok 4)) (.lit (.i 1)))) 0)]) (.call 1 0 [(.tok 6), (.fld (.get (.tok 4) (.sub (.len (.tok 4)) (.lit (.i 1)))) 1)]))) (.call 0 1 [(.call 1 0 [(.tok 6), (.fld (.get (.tok 4) (.sub (.len (.tok 4)) (.lit (.i 1)))) 0)]), (.call 1 0 [(.tok 6), (.fld (.get (.tok 4) (.sub (.len (.tok 4)) (.lit (.i 1)))) 1)]), (.tok 6)]) (.tok 6)), (.call 1 0 [(.tok 6), (.fld (.get (.tok 4) (.sub (.len (.tok 4)) (.lit (.i 1)))) 0)])])))] (.need [(.rng .i64 (.sub (.tok 8) (.lit (.i 1))))] (.back 15 [(.app (.tok 7) (.row [(.mk [(.get (.call 3 0 [(.ite (.not (.eq (.call 1 0 [(.tok 6), (.fld (.get (.tok 4) (.sub (.len (.tok 4)) (.lit (.i 1)))) 0)]) (.call 1 0 [(.tok 6), (.fld (.get (.tok 4) (.sub (.len (.tok 4)) (.lit (.i 1)))) 1)]))) (.call 0 1 [(.call 1 0 [(.tok 6), (.fld (.get (.tok 4) (.sub (.len (.tok 4)) (.lit (.i 1)))) 0)]), (.call 1 0 [(.tok 6), (.fld (.get (.tok 4) (.sub (.len (.tok 4)) (.lit (.i 1)))) 1)]), (.tok 6)]) (.tok 6)), (.call 1 0 [(.tok 6), (.fld (.get (.tok 4) (.sub (.len (.tok 4)) (.lit (.i 1)))) 0)])]) (.tok 8)), (.get (.call 3 0 [(.ite (.not (.eq (.call 1 0 [(.tok 6), (.fld (.get (.tok 4) (.sub (.len (.tok 4)) (.lit (.i 1)))) 0)]) (.call 1 0 [(.tok 6), (.fld (.get (.tok 4) (.sub (.len (.tok 4)) (.lit (.i 1)))) 1)]))) (.call 0 1 [(.call 1 0 [(.tok 6), (.fld (.get (.tok 4) (.sub (.len (.tok 4)) (.lit (.i 1)))) 0)]), (.call 1 0 [(.tok 6), (.fld (.get (.tok 4) (.sub (.len (.tok 4)) (.lit (.i 1)))) 1)]), (.tok 6)]) (.tok 6)), (.call 1 0 [(.tok 6), (.fld (.get (.tok 4) (.sub (.len (.tok 4)) (.lit (.i 1)))) 1)])]) (.tok 8))])])), (.sub (.tok 8) (.lit (.i 1)))]))) (.need [(.rng .i64 (.add (.tok 5) (.lit (.i 1))))] (.back 3 [(.tok 3), (.tok 7), (.add (.tok 5) (.lit (.i 1))), (.ite (.not (.eq (.call 1 0 [(.tok 6), (.fld (.get (.tok 4) (.sub (.len (.tok 4)) (.lit (.i 1)))) 0)]) (.call 1 0 [(.tok 6), (.fld (.get (.tok 4) (.sub (.len (.tok 4)) (.lit (.i 1)))) 1)]))) (.call 0 1 [(.call 1 0 [(.tok 6), (.fld (.get (.tok 4) (.sub (.len (.tok 4)) (.lit (.i 1)))) 0)]), (.call 1 0 [(.tok 6), (.fld (.get (.tok 4) (.sub (.len (.tok 4)) (.lit (.i 1)))) 1)]), (.tok 6)]) (.tok 6))])))))))))))))) (.leaf [(.lit (.i 0)), (.tok 6)])))
set_option maxRecDepth 100000 in
theorem code_unify_process_u (g0 g1 g2 g3 : List D → Option (List D)) : ∀ cd, Try.f26.body = some cd → treeOf Try.prog [(q0j, g0), (q0f, g1), (q0i, g2), (q0k, g3)] q43 q0n Try.f26 cd = q2d := by
  intro cd h
  injection h with h
  subst h
  kernel_rfl
theorem fok_unify_process_u {g0 g1 g2 g3 : List D → Option (List D)} {g : List D → Option (List D)} (h0 : FOk q0j g0) (h1 : FOk q0f g1) (h2 : FOk q0i g2) (h3 : FOk q0k g3) (h : ∀ ds outs, WfA q0n.ars ds → g ds = some outs → q2d.go (tblS [(q0j, g0), (q0f, g1), (q0i, g2), (q0k, g3)]) (fun o => o = outs) ds fun _ _ => False) : FOk q0n g :=
  q0a q43 Try.f26 _ (.cons h0 (.cons h1 (.cons h2 (.cons h3 .nil)))) rfl rfl enter_unify_process_u (by decide) fun ds outs hw hg => by rw [code_unify_process_u g0 g1 g2 g3 _ rfl]; exact h ds outs hw hg

def q0l : Ct := ⟨8, [.ref (.st 26), .val (.st 28), .val (.st 28)], [(.int .i64, false)], [], none⟩
theorem enter_unify_Unify (args : Array Value) (w : World) : (callFunc q0l.f args).run Try.prog w = .ok (.enter q0l.f args) w := by kernel_rfl
def ann_unify_Unify : Ann := ⟨[0, 1, 2, 3, 4, 5, 6, 7, 8, 9, 27, 43], []⟩
def q38 : Tree := (.need [(.imp (.not (.not (.call 2 0 [(.tok 0), (.tok 1)]))) (.ok 2 [(.tok 0), (.tok 2)])), (.ok 2 [(.tok 0), (.tok 1)])] (.br (.or (.not (.call 2 0 [(.tok 0), (.tok 1)])) (.not (.call 2 0 [(.tok 0), (.tok 2)]))) (.leaf [(.lit (.i 1)), (.tok 0)]) (.need [(.ok 3 [(.tok 0), (.tok 1), (.tok 2)])] (.need [(.ok 0 [(.call 3 0 [(.tok 0), (.tok 1), (.tok 2)]), (.len (.fld (.tok 0) 2)), (.len (.fld (.tok 0) 0)), (.len (.fld (.tok 0) 3)), (.call 3 1 [(.tok 0), (.tok 1), (.tok 2)])])] (.leaf [(.call 3 0 [(.tok 0), (.tok 1), (.tok 2)]), (.call 0 0 [(.call 3 0 [(.tok 0), (.tok 1), (.tok 2)]), (.len (.fld (.tok 0) 2)), (.len (.fld (.tok 0) 0)), (.len (.fld (.tok 0) 3)), (.call 3 1 [(.tok 0), (.tok 1), (.tok 2)])])])))))
set_option maxRecDepth 100000 in
theorem code_unify_Unify (g0 g1 g2 g3 : List D → Option (List D)) : ∀ cd, Try.f8.body = some cd → treeD Try.prog [(q0u, g0), (q0j, g1), (q06, g2), (q0n, g3)] ann_unify_Unify q0l Try.f8 24 cd = q38 := by
  intro cd h
  injection h with h
  subst h
  kernel_rfl
theorem fok_unify_Unify {g0 g1 g2 g3 : List D → Option (List D)} {g : List D → Option (List D)} (h0 : FOk q0u g0) (h1 : FOk q0j g1) (h2 : FOk q06 g2) (h3 : FOk q0n g3) (hD : FOkD q0u g0) (hnp : noPan [(q0u, g0), (q0j, g1), (q06, g2), (q0n, g3)] = true) (h : ∀ ds outs, WfA q0l.ars ds → g ds = some outs → q38.go (tblS [(q0u, g0), (q0j, g1), (q06, g2), (q0n, g3)]) (fun o => o = outs) ds fun _ _ => False) : FOk q0l g :=
  FOk.of_at enter_unify_Unify fun ds outs hw hg => fat_defer ann_unify_Unify Try.f8 24 _ (.cons h0 (.cons h1 (.cons h2 (.cons h3 .nil)))) (fun e he hf => by
      simp only [List.mem_cons, List.not_mem_nil, or_false] at he
      rcases he with rfl | rfl | rfl | rfl
      · exact hD
      · exact absurd (show q0j.f = 24 from hf) (by decide)
      · exact absurd (show q06.f = 24 from hf) (by decide)
      · exact absurd (show q0n.f = 24 from hf) (by decide)
      ) rfl rfl (by decide) hnp (by rw [code_unify_Unify g0 g1 g2 g3 _ rfl]; exact h ds outs hw hg)

def q14 : Ct := ⟨35, [.val (.row 66)], [(.bool, false)], [], none⟩
theorem enter_ref30_symbols (args : Array Value) (w : World) : (callFunc q14.f args).run Try.prog w = .ok (.enter q14.f args) w := by kernel_rfl
def ann_ref30_symbols : Ann := ⟨[0, 2, 3, 4, 7, 12, 46], [(5, ⟨[(2, .bool, false), (4, .int .i64, false), (3, .map 66 3, false)], [], [9, 10, 11, 12, 15, 16, 17, 18, 19, 20, 21, 22, 23, 24, 25, 26, 27, 28, 29, 30, 31, 32, 33, 34, 35, 36, 37, 38, 39, 40, 41, 42, 43, 44, 45, 46, 47, 48, 49, 50, 51, 13, 14, 8], []⟩)]⟩
def q2s : Tree := (.br (.lt (.lit (.i 1048576)) (.len (.tok 0))) (.leaf [(.lit (.b .false))]) (.loop 5 1 [(.lit (.b .false)), (.lit (.i 0)), (.lit (.mp []))] (.br (.lt (.tok 2) (.len (.tok 0))) (.need [(.le (.lit (.i 0)) (.tok 2)), (.lt (.tok 2) (.len (.tok 0))), (.imp (.not (.lt (.lit (.i 100)) (.slen (.fld (.get (.tok 0) (.tok 2)) 0)))) (.le (.lit (.i 0)) (.tok 2))), (.imp (.not (.lt (.lit (.i 100)) (.slen (.fld (.get (.tok 0) (.tok 2)) 0)))) (.lt (.tok 2) (.len (.tok 0)))), (.imp (.not (.or (.lt (.lit (.i 100)) (.slen (.fld (.get (.tok 0) (.tok 2)) 0))) (.lt (.fld (.get (.tok 0) (.tok 2)) 1) (.lit (.i 0))))) (.le (.lit (.i 0)) (.tok 2))), (.imp (.not (.or (.lt (.lit (.i 100)) (.slen (.fld (.get (.tok 0) (.tok 2)) 0))) (.lt (.fld (.get (.tok 0) (.tok 2)) 1) (.lit (.i 0))))) (.lt (.tok 2) (.len (.tok 0)))), (.imp (.not (.or (.or (.lt (.lit (.i 100)) (.slen (.fld (.get (.tok 0) (.tok 2)) 0))) (.lt (.fld (.get (.tok 0) (.tok 2)) 1) (.lit (.i 0)))) (.lt (.lit (.i 8)) (.fld (.get (.tok 0) (.tok 2)) 1)))) (.le (.lit (.i 0)) (.tok 2))), (.imp (.not (.or (.or (.lt (.lit (.i 100)) (.slen (.fld (.get (.tok 0) (.tok 2)) 0))) (.lt (.fld (.get (.tok 0) (.tok 2)) 1) (.lit (.i 0)))) (.lt (.lit (.i 8)) (.fld (.get (.tok 0) (.tok 2)) 1)))) (.lt (.tok 2) (.len (.tok 0))))] (.br (.or (.or (.or (.lt (.lit (.i 100)) (.slen (.fld (.get (.tok 0) (.tok 2)) 0))) (.lt (.fld (.get (.tok 0) (.tok 2)) 1) (.lit (.i 0)))) (.lt (.lit (.i 8)) (.fld (.get (.tok 0) (.tok 2)) 1))) (.eq (.fn 0 [(.tok 3), (.get (.tok 0) (.tok 2)), (.lit (.i 0))]) (.lit (.i 1)))) (.leaf [(.lit (.b .false))]) (.need [(.le (.lit (.i 0)) (.tok 2)), (.lt (.tok 2) (.len (.tok 0)))] (.need [(.rng .i64 (.add (.tok 2) (.lit (.i 1))))] (.back 5 [(.tok 1), (.add (.tok 2) (.lit (.i 1))), (.fn 2 [(.tok 3), (.get (.tok 0) (.tok 2)), (.lit (.i 1))])]))))) (.leaf [(.lit (.b .true))]))))
set_option maxRecDepth 100000 in
theorem code_ref30_symbols : ∀ cd, Try.f35.body = some cd → treeOf Try.prog [] ann_ref30_symbols q14 Try.f35 cd = q2s := by
  intro cd h
  injection h with h
  subst h
  kernel_rfl
theorem fok_ref30_symbols {g : List D → Option (List D)}  (h : ∀ ds outs, WfA q14.ars ds → g ds = some outs → q2s.go (tblS []) (fun o => o = outs) ds fun _ _ => False) : FOk q14 g :=
  q0a ann_ref30_symbols Try.f35 _ .nil rfl rfl enter_ref30_symbols (by decide) fun ds outs hw hg => by rw [code_ref30_symbols  _ rfl]; exact h ds outs hw hg

def q0y : Ct := ⟨61, [.val (.st 26), .val (.int .i64)], [(.int .i64, false)], [], none⟩
theorem enter_ref30_arity (args : Array Value) (w : World) : (callFunc q0y.f args).run Try.prog w = .ok (.enter q0y.f args) w := by kernel_rfl
def ann_ref30_arity : Ann := ⟨[0, 1, 2, 4, 13], []⟩
def q35 : Tree := (.br (.or (.lt (.tok 1) (.lit (.i 0))) (.le (.len (.fld (.tok 0) 1)) (.tok 1))) (.leaf [(.lit (.i (-1)))]) (.need [(.le (.lit (.i 0)) (.tok 1)), (.lt (.tok 1) (.len (.fld (.tok 0) 1)))] (.leaf [(.fld (.get (.fld (.tok 0) 1) (.tok 1)) 1)])))
set_option maxRecDepth 100000 in
theorem code_ref30_arity : ∀ cd, Try.f61.body = some cd → treeOf Try.prog [] ann_ref30_arity q0y Try.f61 cd = q35 := by
  intro cd h
  injection h with h
  subst h
  kernel_rfl
theorem fok_ref30_arity {g : List D → Option (List D)}  (h : ∀ ds outs, WfA q0y.ars ds → g ds = some outs → q35.go (tblS []) (fun o => o = outs) ds fun _ _ => False) : FOk q0y g :=
  q0a ann_ref30_arity Try.f61 _ .nil rfl rfl enter_ref30_arity (by decide) fun ds outs hw hg => by rw [code_ref30_arity  _ rfl]; exact h ds outs hw hg

def q0b : Ct := ⟨59, [.val (.st 26), .val (.int .i64)], [(.bool, false)], [], none⟩
theorem enter_ref30_ranged (args : Array Value) (w : World) : (callFunc q0b.f args).run Try.prog w = .ok (.enter q0b.f args) w := by kernel_rfl
def ann_ref30_ranged : Ann := ⟨[0, 1, 2, 4], []⟩
def q30 : Tree := (.leaf [(.and (.le (.lit (.i 0)) (.tok 1)) (.lt (.tok 1) (.len (.fld (.tok 0) 0))))])
set_option maxRecDepth 100000 in
theorem code_ref30_ranged : ∀ cd, Try.f59.body = some cd → treeOf Try.prog [] ann_ref30_ranged q0b Try.f59 cd = q30 := by
  intro cd h
  injection h with h
  subst h
  kernel_rfl
theorem fok_ref30_ranged {g : List D → Option (List D)}  (h : ∀ ds outs, WfA q0b.ars ds → g ds = some outs → q30.go (tblS []) (fun o => o = outs) ds fun _ _ => False) : FOk q0b g :=
  q0a ann_ref30_ranged Try.f59 _ .nil rfl rfl enter_ref30_ranged (by decide) fun ds outs hw hg => by rw [code_ref30_ranged  _ rfl]; exact h ds outs hw hg

def q0g : Ct := ⟨60, [.val (.st 26), .val (.int .i64)], [(.int .i64, false)], [], none⟩
theorem enter_ref30_tag (args : Array Value) (w : World) : (callFunc q0g.f args).run Try.prog w = .ok (.enter q0g.f args) w := by kernel_rfl
def ann_ref30_tag : Ann := ⟨[0, 1, 2, 4, 8], []⟩
def q48 : Tree := (.need [(.ok 0 [(.tok 0), (.tok 1)])] (.br (.not (.call 0 0 [(.tok 0), (.tok 1)])) (.leaf [(.lit (.i (-1)))]) (.need [(.le (.lit (.i 0)) (.tok 1)), (.lt (.tok 1) (.len (.fld (.tok 0) 0)))] (.leaf [(.fld (.get (.fld (.tok 0) 0) (.tok 1)) 0)]))))
set_option maxRecDepth 100000 in
theorem code_ref30_tag (g0 : List D → Option (List D)) : ∀ cd, Try.f60.body = some cd → treeOf Try.prog [(q0b, g0)] ann_ref30_tag q0g Try.f60 cd = q48 := by
  intro cd h
  injection h with h
  subst h
  kernel_rfl
theorem fok_ref30_tag {g0 : List D → Option (List D)} {g : List D → Option (List D)} (h0 : FOk q0b g0) (h : ∀ ds outs, WfA q0g.ars ds → g ds = some outs → q48.go (tblS [(q0b, g0)]) (fun o => o = outs) ds fun _ _ => False) : FOk q0g g :=
  q0a ann_ref30_tag Try.f60 _ (.cons h0 .nil) rfl rfl enter_ref30_tag (by decide) fun ds outs hw hg => by rw [code_ref30_tag g0 _ rfl]; exact h ds outs hw hg

def q05 : Ct := ⟨32, [.val (.st 26), .val (.st 28)], [(.bool, false)], [], none⟩
theorem enter_ref30_ValidCell (args : Array Value) (w : World) : (callFunc q05.f args).run Try.prog w = .ok (.enter q05.f args) w := by kernel_rfl
def q3z : Ann := ⟨[0, 1, 2, 3, 4, 6, 7, 20, 22, 29, 36], []⟩
def q2f : Tree := (.br (.eq (.fld (.tok 1) 0) (.lit (.i 0))) (.need [(.ok 0 [(.tok 0), (.fld (.tok 1) 1)]), (.imp (.call 0 0 [(.tok 0), (.fld (.tok 1) 1)]) (.ok 1 [(.tok 0), (.fld (.tok 1) 1)]))] (.leaf [(.and (.call 0 0 [(.tok 0), (.fld (.tok 1) 1)]) (.not (.eq (.call 1 0 [(.tok 0), (.fld (.tok 1) 1)]) (.lit (.i 4)))))])) (.br (.eq (.fld (.tok 1) 0) (.lit (.i 1))) (.leaf [(.lit (.b .true))]) (.br (.eq (.fld (.tok 1) 0) (.lit (.i 2))) (.need [(.ok 2 [(.tok 0), (.fld (.tok 1) 1)])] (.leaf [(.eq (.call 2 0 [(.tok 0), (.fld (.tok 1) 1)]) (.lit (.i 0)))])) (.br (.eq (.fld (.tok 1) 0) (.lit (.i 3))) (.need [(.ok 1 [(.tok 0), (.fld (.tok 1) 1)])] (.leaf [(.eq (.call 1 0 [(.tok 0), (.fld (.tok 1) 1)]) (.lit (.i 4)))])) (.br (.eq (.fld (.tok 1) 0) (.lit (.i 5))) (.need [(.ok 1 [(.tok 0), (.fld (.tok 1) 1)])] (.leaf [(.eq (.call 1 0 [(.tok 0), (.fld (.tok 1) 1)]) (.lit (.i 5)))])) (.leaf [(.lit (.b .false))]))))))
set_option maxRecDepth 100000 in
theorem code_ref30_ValidCell (g0 g1 g2 : List D → Option (List D)) : ∀ cd, Try.f32.body = some cd → treeOf Try.prog [(q0b, g0), (q0g, g1), (q0y, g2)] q3z q05 Try.f32 cd = q2f := by
  intro cd h
  injection h with h
  subst h
  kernel_rfl
theorem fok_ref30_ValidCell {g0 g1 g2 : List D → Option (List D)} {g : List D → Option (List D)} (h0 : FOk q0b g0) (h1 : FOk q0g g1) (h2 : FOk q0y g2) (h : ∀ ds outs, WfA q05.ars ds → g ds = some outs → q2f.go (tblS [(q0b, g0), (q0g, g1), (q0y, g2)]) (fun o => o = outs) ds fun _ _ => False) : FOk q05 g :=
  q0a q3z Try.f32 _ (.cons h0 (.cons h1 (.cons h2 .nil))) rfl rfl enter_ref30_ValidCell (by decide) fun ds outs hw hg => by rw [code_ref30_ValidCell g0 g1 g2 _ rfl]; exact h ds outs hw hg

def q1y : Ct := ⟨66, [.val (.st 26), .val (.int .i64)], [(.bool, false)], [], none⟩
theorem enter_ref30_ends (args : Array Value) (w : World) : (callFunc q1y.f args).run Try.prog w = .ok (.enter q1y.f args) w := by kernel_rfl
def ann_ref30_ends : Ann := ⟨[0, 1, 2, 4, 5, 10, 26], [(2, ⟨[(4, .bool, false), (1, .int .i64, false), (5, .int .i64, false)], [], [6, 7, 8, 9, 10, 13, 14, 15, 16, 17, 18, 19, 20, 21, 22, 23, 24, 25, 26, 27, 28, 29, 30, 31, 32, 11, 12], []⟩)]⟩
def q3r : Tree := (.loop 2 2 [(.lit (.b .false)), (.tok 1), (.lit (.i 0))] (.br (.le (.tok 4) (.len (.fld (.tok 0) 0))) (.need [(.ok 0 [(.tok 0), (.tok 3)]), (.imp (.not (.not (.eq (.call 0 0 [(.tok 0), (.tok 3)]) (.lit (.i 0))))) (.le (.lit (.i 0)) (.tok 3))), (.imp (.not (.not (.eq (.call 0 0 [(.tok 0), (.tok 3)]) (.lit (.i 0))))) (.lt (.tok 3) (.len (.fld (.tok 0) 0))))] (.br (.or (.not (.eq (.call 0 0 [(.tok 0), (.tok 3)]) (.lit (.i 0)))) (.eq (.fld (.get (.fld (.tok 0) 0) (.tok 3)) 1) (.tok 3))) (.leaf [(.lit (.b .true))]) (.need [(.le (.lit (.i 0)) (.tok 3)), (.lt (.tok 3) (.len (.fld (.tok 0) 0)))] (.need [(.rng .i64 (.add (.tok 4) (.lit (.i 1))))] (.back 2 [(.tok 2), (.fld (.get (.fld (.tok 0) 0) (.tok 3)) 1), (.add (.tok 4) (.lit (.i 1)))]))))) (.leaf [(.lit (.b .false))])))
set_option maxRecDepth 100000 in
theorem code_ref30_ends (g0 : List D → Option (List D)) : ∀ cd, Try.f66.body = some cd → treeOf Try.prog [(q0g, g0)] ann_ref30_ends q1y Try.f66 cd = q3r := by
  intro cd h
  injection h with h
  subst h
  kernel_rfl
theorem fok_ref30_ends {g0 : List D → Option (List D)} {g : List D → Option (List D)} (h0 : FOk q0g g0) (h : ∀ ds outs, WfA q1y.ars ds → g ds = some outs → q3r.go (tblS [(q0g, g0)]) (fun o => o = outs) ds fun _ _ => False) : FOk q1y g :=
  q0a ann_ref30_ends Try.f66 _ (.cons h0 .nil) rfl rfl enter_ref30_ends (by decide) fun ds outs hw hg => by rw [code_ref30_ends g0 _ rfl]; exact h ds outs hw hg

def q0w : Ct := ⟨67, [.val (.st 26), .val (.int .i64)], [(.bool, false)], [], none⟩
theorem enter_ref30_group (args : Array Value) (w : World) : (callFunc q0w.f args).run Try.prog w = .ok (.enter q0w.f args) w := by kernel_rfl
def ann_ref30_group : Ann := ⟨[0, 1, 2, 4, 5], []⟩
def q37 : Tree := (.need [(.rng .i64 (.add (.tok 1) (.lit (.i 2)))), (.ok 0 [(.tok 0), (.add (.tok 1) (.lit (.i 2)))])] (.need [(.imp (.and (.eq (.call 0 0 [(.tok 0), (.add (.tok 1) (.lit (.i 1)))]) (.lit (.i 1))) (.le (.lit (.i 1)) (.fld (.get (.fld (.tok 0) 0) (.add (.tok 1) (.lit (.i 1)))) 1))) (.le (.lit (.i 0)) (.add (.tok 1) (.lit (.i 1))))), (.imp (.and (.eq (.call 0 0 [(.tok 0), (.add (.tok 1) (.lit (.i 1)))]) (.lit (.i 1))) (.le (.lit (.i 1)) (.fld (.get (.fld (.tok 0) 0) (.add (.tok 1) (.lit (.i 1)))) 1))) (.lt (.add (.tok 1) (.lit (.i 1))) (.len (.fld (.tok 0) 0)))), (.imp (.and (.eq (.call 0 0 [(.tok 0), (.add (.tok 1) (.lit (.i 1)))]) (.lit (.i 1))) (.le (.lit (.i 1)) (.fld (.get (.fld (.tok 0) 0) (.add (.tok 1) (.lit (.i 1)))) 1))) (.rng .i64 (.add (.tok 1) (.lit (.i 1))))), (.imp (.and (.eq (.call 0 0 [(.tok 0), (.add (.tok 1) (.lit (.i 1)))]) (.lit (.i 1))) (.le (.lit (.i 1)) (.fld (.get (.fld (.tok 0) 0) (.add (.tok 1) (.lit (.i 1)))) 1))) (.le (.lit (.i 0)) (.add (.tok 1) (.lit (.i 1))))), (.imp (.and (.eq (.call 0 0 [(.tok 0), (.add (.tok 1) (.lit (.i 1)))]) (.lit (.i 1))) (.le (.lit (.i 1)) (.fld (.get (.fld (.tok 0) 0) (.add (.tok 1) (.lit (.i 1)))) 1))) (.lt (.add (.tok 1) (.lit (.i 1))) (.len (.fld (.tok 0) 0)))), (.imp (.and (.eq (.call 0 0 [(.tok 0), (.add (.tok 1) (.lit (.i 1)))]) (.lit (.i 1))) (.le (.lit (.i 1)) (.fld (.get (.fld (.tok 0) 0) (.add (.tok 1) (.lit (.i 1)))) 1))) (.rng .i64 (.add (.tok 1) (.lit (.i 1))))), (.imp (.and (.eq (.call 0 0 [(.tok 0), (.add (.tok 1) (.lit (.i 1)))]) (.lit (.i 1))) (.le (.lit (.i 1)) (.fld (.get (.fld (.tok 0) 0) (.add (.tok 1) (.lit (.i 1)))) 1))) (.rng .i64 (.add (.tok 1) (.lit (.i 1))))), (.imp (.and (.eq (.call 0 0 [(.tok 0), (.add (.tok 1) (.lit (.i 1)))]) (.lit (.i 1))) (.le (.lit (.i 1)) (.fld (.get (.fld (.tok 0) 0) (.add (.tok 1) (.lit (.i 1)))) 1))) (.rng .i64 (.add (.tok 1) (.lit (.i 1))))), (.imp (.eq (.call 0 0 [(.tok 0), (.add (.tok 1) (.lit (.i 1)))]) (.lit (.i 1))) (.le (.lit (.i 0)) (.add (.tok 1) (.lit (.i 1))))), (.imp (.eq (.call 0 0 [(.tok 0), (.add (.tok 1) (.lit (.i 1)))]) (.lit (.i 1))) (.lt (.add (.tok 1) (.lit (.i 1))) (.len (.fld (.tok 0) 0)))), (.imp (.eq (.call 0 0 [(.tok 0), (.add (.tok 1) (.lit (.i 1)))]) (.lit (.i 1))) (.rng .i64 (.add (.tok 1) (.lit (.i 1))))), (.ok 0 [(.tok 0), (.add (.tok 1) (.lit (.i 1)))]), (.rng .i64 (.add (.tok 1) (.lit (.i 1))))] (.leaf [(.and (.and (.and (.and (.and (.eq (.call 0 0 [(.tok 0), (.add (.tok 1) (.lit (.i 1)))]) (.lit (.i 1))) (.le (.lit (.i 1)) (.fld (.get (.fld (.tok 0) 0) (.add (.tok 1) (.lit (.i 1)))) 1))) (.le (.fld (.get (.fld (.tok 0) 0) (.add (.tok 1) (.lit (.i 1)))) 1) (.fld (.tok 0) 4))) (.le (.lit (.i 0)) (.call 0 0 [(.tok 0), (.add (.tok 1) (.lit (.i 2)))]))) (.not (.eq (.call 0 0 [(.tok 0), (.add (.tok 1) (.lit (.i 2)))]) (.lit (.i 4))))) (.not (.eq (.call 0 0 [(.tok 0), (.add (.tok 1) (.lit (.i 2)))]) (.lit (.i 5)))))])))
set_option maxRecDepth 100000 in
theorem code_ref30_group (g0 : List D → Option (List D)) : ∀ cd, Try.f67.body = some cd → treeOf Try.prog [(q0g, g0)] ann_ref30_group q0w Try.f67 cd = q37 := by
  intro cd h
  injection h with h
  subst h
  kernel_rfl
theorem fok_ref30_group {g0 : List D → Option (List D)} {g : List D → Option (List D)} (h0 : FOk q0g g0) (h : ∀ ds outs, WfA q0w.ars ds → g ds = some outs → q37.go (tblS [(q0g, g0)]) (fun o => o = outs) ds fun _ _ => False) : FOk q0w g :=
  q0a ann_ref30_group Try.f67 _ (.cons h0 .nil) rfl rfl enter_ref30_group (by decide) fun ds outs hw hg => by rw [code_ref30_group g0 _ rfl]; exact h ds outs hw hg

def q1j : Ct := ⟨36, [.val (.st 26), .val (.int .i64)], [(.bool, false)], [], none⟩
theorem enter_ref30_cell (args : Array Value) (w : World) : (callFunc q1j.f args).run Try.prog w = .ok (.enter q1j.f args) w := by kernel_rfl
def ann_ref30_cell : Ann := ⟨[0, 1, 2, 4, 5, 6, 7, 15, 29, 32, 40, 50], [(7, ⟨[(4, .bool, false), (7, .int .i64, false)], [], [30, 31, 32, 35, 36, 37, 38, 39, 40, 33, 34], []⟩)]⟩
def q3s : Tree := (.need [(.le (.lit (.i 0)) (.tok 1)), (.lt (.tok 1) (.len (.fld (.tok 0) 0)))] (.br (.eq (.fld (.get (.fld (.tok 0) 0) (.tok 1)) 0) (.lit (.i 4))) (.need [(.ok 0 [(.tok 0), (.fld (.get (.fld (.tok 0) 0) (.tok 1)) 1)])] (.need [(.imp (.not (.lt (.call 0 0 [(.tok 0), (.fld (.get (.fld (.tok 0) 0) (.tok 1)) 1)]) (.lit (.i 1)))) (.rng .i64 (.add (.tok 1) (.call 0 0 [(.tok 0), (.fld (.get (.fld (.tok 0) 0) (.tok 1)) 1)])))), (.imp (.not (.lt (.call 0 0 [(.tok 0), (.fld (.get (.fld (.tok 0) 0) (.tok 1)) 1)]) (.lit (.i 1)))) (.ok 1 [(.tok 0), (.add (.tok 1) (.call 0 0 [(.tok 0), (.fld (.get (.fld (.tok 0) 0) (.tok 1)) 1)]))]))] (.br (.or (.lt (.call 0 0 [(.tok 0), (.fld (.get (.fld (.tok 0) 0) (.tok 1)) 1)]) (.lit (.i 1))) (.not (.call 1 0 [(.tok 0), (.add (.tok 1) (.call 0 0 [(.tok 0), (.fld (.get (.fld (.tok 0) 0) (.tok 1)) 1)]))]))) (.leaf [(.lit (.b .false))]) (.loop 7 2 [(.lit (.b .false)), (.lit (.i 1))] (.br (.le (.tok 3) (.call 0 0 [(.tok 0), (.fld (.get (.fld (.tok 0) 0) (.tok 1)) 1)])) (.need [(.rng .i64 (.add (.tok 1) (.tok 3))), (.ok 2 [(.tok 0), (.add (.tok 1) (.tok 3))])] (.br (.eq (.call 2 0 [(.tok 0), (.add (.tok 1) (.tok 3))]) (.lit (.i 4))) (.leaf [(.lit (.b .false))]) (.need [(.rng .i64 (.add (.tok 3) (.lit (.i 1))))] (.back 7 [(.tok 2), (.add (.tok 3) (.lit (.i 1)))])))) (.leaf [(.lit (.b .true))])))))) (.need [(.ok 3 [(.tok 0), (.get (.fld (.tok 0) 0) (.tok 1))]), (.imp (.not (.not (.call 3 0 [(.tok 0), (.get (.fld (.tok 0) 0) (.tok 1))]))) (.ok 4 [(.tok 0), (.tok 1)]))] (.br (.or (.not (.call 3 0 [(.tok 0), (.get (.fld (.tok 0) 0) (.tok 1))])) (.not (.call 4 0 [(.tok 0), (.tok 1)]))) (.leaf [(.lit (.b .false))]) (.need [(.imp (.and (.not (.not (.eq (.fld (.get (.fld (.tok 0) 0) (.tok 1)) 0) (.lit (.i 5))))) (.eq (.fld (.get (.fld (.tok 0) 0) (.tok 1)) 1) (.tok 1))) (.ok 5 [(.tok 0), (.tok 1)]))] (.leaf [(.or (.not (.eq (.fld (.get (.fld (.tok 0) 0) (.tok 1)) 0) (.lit (.i 5)))) (.and (.eq (.fld (.get (.fld (.tok 0) 0) (.tok 1)) 1) (.tok 1)) (.call 5 0 [(.tok 0), (.tok 1)])))]))))))
set_option maxRecDepth 100000 in
theorem code_ref30_cell (g0 g1 g2 g3 g4 g5 : List D → Option (List D)) : ∀ cd, Try.f36.body = some cd → treeOf Try.prog [(q0y, g0), (q0b, g1), (q0g, g2), (q05, g3), (q1y, g4), (q0w, g5)] ann_ref30_cell q1j Try.f36 cd = q3s := by
  intro cd h
  injection h with h
  subst h
  kernel_rfl
theorem fok_ref30_cell {g0 g1 g2 g3 g4 g5 : List D → Option (List D)} {g : List D → Option (List D)} (h0 : FOk q0y g0) (h1 : FOk q0b g1) (h2 : FOk q0g g2) (h3 : FOk q05 g3) (h4 : FOk q1y g4) (h5 : FOk q0w g5) (h : ∀ ds outs, WfA q1j.ars ds → g ds = some outs → q3s.go (tblS [(q0y, g0), (q0b, g1), (q0g, g2), (q05, g3), (q1y, g4), (q0w, g5)]) (fun o => o = outs) ds fun _ _ => False) : FOk q1j g :=
  q0a ann_ref30_cell Try.f36 _ (.cons h0 (.cons h1 (.cons h2 (.cons h3 (.cons h4 (.cons h5 .nil)))))) rfl rfl enter_ref30_cell (by decide) fun ds outs hw hg => by rw [code_ref30_cell g0 g1 g2 g3 g4 g5 _ rfl]; exact h ds outs hw hg

def q1r : Ct := ⟨37, [.val (.st 26), .val (.st 67)], [(.bool, false)], [], none⟩
theorem enter_ref30_old (args : Array Value) (w : World) : (callFunc q1r.f args).run Try.prog w = .ok (.enter q1r.f args) w := by kernel_rfl
def ann_ref30_old : Ann := ⟨[0, 1, 2, 3, 4, 5, 11, 14, 15, 22, 41], []⟩
def q45 : Tree := (.need [(.ok 0 [(.tok 0), (.fld (.tok 1) 0)])] (.br (.not (.call 0 0 [(.tok 0), (.fld (.tok 1) 0)])) (.leaf [(.lit (.b .false))]) (.br (.eq (.fld (.fld (.tok 1) 1) 0) (.lit (.i 0))) (.leaf [(.eq (.fld (.fld (.tok 1) 1) 1) (.fld (.tok 1) 0))]) (.br (.eq (.fld (.fld (.tok 1) 1) 0) (.lit (.i 5))) (.need [(.imp (.eq (.fld (.fld (.tok 1) 1) 1) (.fld (.tok 1) 0)) (.ok 1 [(.tok 0), (.fld (.tok 1) 0)])), (.imp (.and (.eq (.fld (.fld (.tok 1) 1) 1) (.fld (.tok 1) 0)) (.call 1 0 [(.tok 0), (.fld (.tok 1) 0)])) (.rng .i64 (.sub (.fld (.tok 1) 0) (.lit (.i 1))))), (.imp (.and (.eq (.fld (.fld (.tok 1) 1) 1) (.fld (.tok 1) 0)) (.call 1 0 [(.tok 0), (.fld (.tok 1) 0)])) (.ok 2 [(.tok 0), (.sub (.fld (.tok 1) 0) (.lit (.i 1)))]))] (.leaf [(.and (.and (.eq (.fld (.fld (.tok 1) 1) 1) (.fld (.tok 1) 0)) (.call 1 0 [(.tok 0), (.fld (.tok 1) 0)])) (.not (.eq (.call 2 0 [(.tok 0), (.sub (.fld (.tok 1) 0) (.lit (.i 1)))]) (.lit (.i 5)))))])) (.br (.eq (.fld (.fld (.tok 1) 1) 0) (.lit (.i 1))) (.br (.eq (.fld (.fld (.tok 1) 1) 0) (.lit (.i 1))) (.need [(.ok 3 [(.tok 0), (.fld (.tok 1) 1)])] (.leaf [(.call 3 0 [(.tok 0), (.fld (.tok 1) 1)])])) (.leaf [(.lit (.b .false))])) (.br (.eq (.fld (.fld (.tok 1) 1) 0) (.lit (.i 2))) (.br (.eq (.fld (.fld (.tok 1) 1) 0) (.lit (.i 2))) (.need [(.ok 3 [(.tok 0), (.fld (.tok 1) 1)])] (.leaf [(.call 3 0 [(.tok 0), (.fld (.tok 1) 1)])])) (.leaf [(.lit (.b .false))])) (.br (.eq (.fld (.fld (.tok 1) 1) 0) (.lit (.i 3))) (.need [(.ok 3 [(.tok 0), (.fld (.tok 1) 1)])] (.leaf [(.call 3 0 [(.tok 0), (.fld (.tok 1) 1)])])) (.leaf [(.lit (.b .false))]))))))))
set_option maxRecDepth 100000 in
theorem code_ref30_old (g0 g1 g2 g3 : List D → Option (List D)) : ∀ cd, Try.f37.body = some cd → treeOf Try.prog [(q0b, g0), (q0w, g1), (q0g, g2), (q05, g3)] ann_ref30_old q1r Try.f37 cd = q45 := by
  intro cd h
  injection h with h
  subst h
  kernel_rfl
theorem fok_ref30_old {g0 g1 g2 g3 : List D → Option (List D)} {g : List D → Option (List D)} (h0 : FOk q0b g0) (h1 : FOk q0w g1) (h2 : FOk q0g g2) (h3 : FOk q05 g3) (h : ∀ ds outs, WfA q1r.ars ds → g ds = some outs → q45.go (tblS [(q0b, g0), (q0w, g1), (q0g, g2), (q05, g3)]) (fun o => o = outs) ds fun _ _ => False) : FOk q1r g :=
  q0a ann_ref30_old Try.f37 _ (.cons h0 (.cons h1 (.cons h2 (.cons h3 .nil)))) rfl rfl enter_ref30_old (by decide) fun ds outs hw hg => by rw [code_ref30_old g0 g1 g2 g3 _ rfl]; exact h ds outs hw hg

def q0x : Ct := ⟨14, [.val (.st 26)], [(.bool, false)], [], none⟩
theorem enter_ref30_Valid (args : Array Value) (w : World) : (callFunc q0x.f args).run Try.prog w = .ok (.enter q0x.f args) w := by kernel_rfl
def ann_ref30_Valid : Ann := ⟨[0, 1, 2, 3, 4, 5, 6, 33, 38, 44, 49, 59, 64, 95], [(4, ⟨[(2, .bool, false), (3, .int .i64, false)], [], [34, 35, 36, 37, 38, 41, 42, 43, 44, 39, 40], []⟩),
  (9, ⟨[(2, .bool, false), (4, .int .i64, false)], [], [45, 46, 47, 48, 49, 52, 53, 54, 55, 56, 57, 58, 59, 50, 51], []⟩),
  (14, ⟨[(2, .bool, false), (5, .int .i64, false)], [], [60, 61, 62, 63, 64, 67, 68, 69, 70, 71, 6, 72, 73, 74, 75, 76, 77, 78, 79, 80, 81, 82, 83, 84, 85, 86, 87, 88, 89, 90, 91, 92, 93, 94, 95, 65, 66], []⟩)]⟩
def q3b : Tree := (.need [(.imp (.not (.or (.or (.or (.lt (.fld (.tok 0) 5) (.lit (.i 1))) (.lt (.lit (.i 1048576)) (.fld (.tok 0) 5))) (.lt (.fld (.tok 0) 5) (.len (.fld (.tok 0) 0)))) (.lt (.fld (.tok 0) 4) (.lit (.i 0))))) (.ok 0 [(.fld (.tok 0) 1)]))] (.br (.or (.or (.or (.or (.lt (.fld (.tok 0) 5) (.lit (.i 1))) (.lt (.lit (.i 1048576)) (.fld (.tok 0) 5))) (.lt (.fld (.tok 0) 5) (.len (.fld (.tok 0) 0)))) (.lt (.fld (.tok 0) 4) (.lit (.i 0)))) (.not (.call 0 0 [(.fld (.tok 0) 1)]))) (.leaf [(.lit (.b .false))]) (.loop 4 1 [(.lit (.b .false)), (.lit (.i 0))] (.br (.lt (.tok 2) (.len (.fld (.tok 0) 0))) (.need [(.ok 1 [(.tok 0), (.tok 2)])] (.br (.not (.call 1 0 [(.tok 0), (.tok 2)])) (.leaf [(.lit (.b .false))]) (.need [(.rng .i64 (.add (.tok 2) (.lit (.i 1))))] (.back 4 [(.tok 1), (.add (.tok 2) (.lit (.i 1)))])))) (.loop 9 3 [(.tok 1), (.lit (.i 0))] (.br (.lt (.tok 4) (.len (.fld (.tok 0) 2))) (.need [(.ok 2 [(.tok 0), (.get (.fld (.tok 0) 2) (.tok 4))]), (.le (.lit (.i 0)) (.tok 4)), (.lt (.tok 4) (.len (.fld (.tok 0) 2)))] (.br (.not (.call 2 0 [(.tok 0), (.get (.fld (.tok 0) 2) (.tok 4))])) (.leaf [(.lit (.b .false))]) (.need [(.rng .i64 (.add (.tok 4) (.lit (.i 1))))] (.back 9 [(.tok 3), (.add (.tok 4) (.lit (.i 1)))])))) (.loop 14 5 [(.tok 3), (.lit (.i 0))] (.br (.lt (.tok 6) (.len (.fld (.tok 0) 3))) (.need [(.le (.lit (.i 0)) (.tok 6)), (.lt (.tok 6) (.len (.fld (.tok 0) 3)))] (.need [(.imp (.not (.or (.lt (.fld (.get (.fld (.tok 0) 3) (.tok 6)) 0) (.lit (.i 1))) (.lt (.fld (.tok 0) 4) (.fld (.get (.fld (.tok 0) 3) (.tok 6)) 0)))) (.ok 3 [(.tok 0), (.fld (.get (.fld (.tok 0) 3) (.tok 6)) 1)])), (.imp (.not (.or (.or (.lt (.fld (.get (.fld (.tok 0) 3) (.tok 6)) 0) (.lit (.i 1))) (.lt (.fld (.tok 0) 4) (.fld (.get (.fld (.tok 0) 3) (.tok 6)) 0))) (.not (.call 3 0 [(.tok 0), (.fld (.get (.fld (.tok 0) 3) (.tok 6)) 1)])))) (.ok 3 [(.tok 0), (.fld (.get (.fld (.tok 0) 3) (.tok 6)) 2)]))] (.br (.or (.or (.or (.lt (.fld (.get (.fld (.tok 0) 3) (.tok 6)) 0) (.lit (.i 1))) (.lt (.fld (.tok 0) 4) (.fld (.get (.fld (.tok 0) 3) (.tok 6)) 0))) (.not (.call 3 0 [(.tok 0), (.fld (.get (.fld (.tok 0) 3) (.tok 6)) 1)]))) (.not (.call 3 0 [(.tok 0), (.fld (.get (.fld (.tok 0) 3) (.tok 6)) 2)]))) (.leaf [(.lit (.b .false))]) (.need [(.rng .i64 (.add (.tok 6) (.lit (.i 1))))] (.back 14 [(.tok 5), (.add (.tok 6) (.lit (.i 1)))]))))) (.leaf [(.lit (.b .true))])))))))))
set_option maxRecDepth 100000 in
theorem code_ref30_Valid (g0 g1 g2 g3 : List D → Option (List D)) : ∀ cd, Try.f14.body = some cd → treeOf Try.prog [(q14, g0), (q1j, g1), (q1r, g2), (q05, g3)] ann_ref30_Valid q0x Try.f14 cd = q3b := by
  intro cd h
  injection h with h
  subst h
  kernel_rfl
theorem fok_ref30_Valid {g0 g1 g2 g3 : List D → Option (List D)} {g : List D → Option (List D)} (h0 : FOk q14 g0) (h1 : FOk q1j g1) (h2 : FOk q1r g2) (h3 : FOk q05 g3) (h : ∀ ds outs, WfA q0x.ars ds → g ds = some outs → q3b.go (tblS [(q14, g0), (q1j, g1), (q1r, g2), (q05, g3)]) (fun o => o = outs) ds fun _ _ => False) : FOk q0x g :=
  q0a ann_ref30_Valid Try.f14 _ (.cons h0 (.cons h1 (.cons h2 (.cons h3 .nil)))) rfl rfl enter_ref30_Valid (by decide) fun ds outs hw hg => by rw [code_ref30_Valid g0 g1 g2 g3 _ rfl]; exact h ds outs hw hg

def q19 : Ct := ⟨9, [.val (.st 26)], [(.bool, false)], [], none⟩
theorem enter_law33_good (args : Array Value) (w : World) : (callFunc q19.f args).run Try.prog w = .ok (.enter q19.f args) w := by kernel_rfl
def ann_law33_good : Ann := ⟨[0, 1, 2, 3, 8, 28], [(2, ⟨[(2, .bool, false), (3, .int .i64, false)], [], [4, 5, 6, 7, 8, 11, 12, 13, 14, 15, 16, 17, 18, 19, 20, 21, 22, 23, 24, 25, 26, 27, 28, 9, 10], []⟩)]⟩
def q3m : Tree := (.loop 2 1 [(.lit (.b .false)), (.lit (.i 0))] (.br (.lt (.tok 2) (.len (.fld (.tok 0) 3))) (.need [(.le (.lit (.i 0)) (.tok 2)), (.lt (.tok 2) (.len (.fld (.tok 0) 3))), (.imp (.not (.eq (.fld (.fld (.get (.fld (.tok 0) 3) (.tok 2)) 1) 0) (.lit (.i 5)))) (.le (.lit (.i 0)) (.tok 2))), (.imp (.not (.eq (.fld (.fld (.get (.fld (.tok 0) 3) (.tok 2)) 1) 0) (.lit (.i 5)))) (.lt (.tok 2) (.len (.fld (.tok 0) 3))))] (.br (.or (.eq (.fld (.fld (.get (.fld (.tok 0) 3) (.tok 2)) 1) 0) (.lit (.i 5))) (.eq (.fld (.fld (.get (.fld (.tok 0) 3) (.tok 2)) 2) 0) (.lit (.i 5)))) (.leaf [(.lit (.b .false))]) (.need [(.rng .i64 (.add (.tok 2) (.lit (.i 1))))] (.back 2 [(.tok 1), (.add (.tok 2) (.lit (.i 1)))])))) (.need [(.ok 0 [(.tok 0)])] (.leaf [(.call 0 0 [(.tok 0)])]))))
set_option maxRecDepth 100000 in
theorem code_law33_good (g0 : List D → Option (List D)) : ∀ cd, Try.f9.body = some cd → treeOf Try.prog [(q0x, g0)] ann_law33_good q19 Try.f9 cd = q3m := by
  intro cd h
  injection h with h
  subst h
  kernel_rfl
theorem fok_law33_good {g0 : List D → Option (List D)} {g : List D → Option (List D)} (h0 : FOk q0x g0) (h : ∀ ds outs, WfA q19.ars ds → g ds = some outs → q3m.go (tblS [(q0x, g0)]) (fun o => o = outs) ds fun _ _ => False) : FOk q19 g :=
  q0a ann_law33_good Try.f9 _ (.cons h0 .nil) rfl rfl enter_law33_good (by decide) fun ds outs hw hg => by rw [code_law33_good g0 _ rfl]; exact h ds outs hw hg

def q1b : Ct := ⟨31, [.val (.int .i64)], [(.st 28, false)], [], none⟩
theorem enter_law33_ref (args : Array Value) (w : World) : (callFunc q1b.f args).run Try.prog w = .ok (.enter q1b.f args) w := by kernel_rfl
def ann_law33_ref : Ann := ⟨[0, 2], []⟩
def q2v : Tree := (.leaf [(.mk [(.lit (.i 0)), (.tok 0)])])
set_option maxRecDepth 100000 in
theorem code_law33_ref : ∀ cd, Try.f31.body = some cd → treeOf Try.prog [] ann_law33_ref q1b Try.f31 cd = q2v := by
  intro cd h
  injection h with h
  subst h
  kernel_rfl
theorem fok_law33_ref {g : List D → Option (List D)}  (h : ∀ ds outs, WfA q1b.ars ds → g ds = some outs → q2v.go (tblS []) (fun o => o = outs) ds fun _ _ => False) : FOk q1b g :=
  q0a ann_law33_ref Try.f31 _ .nil rfl rfl enter_law33_ref (by decide) fun ds outs hw hg => by rw [code_law33_ref  _ rfl]; exact h ds outs hw hg

def q1k : Ct := ⟨29, [], [(.st 26, true)], [], none⟩
theorem enter_law33_store (args : Array Value) (w : World) : (callFunc q1k.f args).run Try.prog w = .ok (.enter q1k.f args) w := by kernel_rfl
def ann_law33_store : Ann := ⟨[0], []⟩
def q34 : Tree := (.need [(.ok 0 [(.lit (.i 1))]), (.ok 0 [(.lit (.i 4))]), (.ok 0 [(.lit (.i 5))])] (.leaf [(.set (.set (.set (.lit (.a [(.r []), (.r []), (.r []), (.r []), (.i 0), (.i 0)])) 0 (.row [(.set (.lit (.a [(.i 0), (.i 0)])) 0 (.lit (.i 4))), (.call 0 0 [(.lit (.i 1))]), (.mk [(.lit (.i 2)), (.lit (.i 1))]), (.set (.lit (.a [(.i 0), (.i 0)])) 0 (.lit (.i 4))), (.call 0 0 [(.lit (.i 4))]), (.call 0 0 [(.lit (.i 5))]), (.mk [(.lit (.i 1)), (.lit (.i 7))])])) 1 (.row [(.mk [(.lit (.s ⟨#[102]⟩)), (.lit (.i 2))]), (.set (.lit (.a [(.s ⟨#[]⟩), (.i 0)])) 0 (.lit (.s ⟨#[97]⟩)))])) 5 (.lit (.i 100)))]))
set_option maxRecDepth 100000 in
theorem code_law33_store (g0 : List D → Option (List D)) : ∀ cd, Try.f29.body = some cd → treeOf Try.prog [(q1b, g0)] ann_law33_store q1k Try.f29 cd = q34 := by
  intro cd h
  injection h with h
  subst h
  kernel_rfl
theorem fok_law33_store {g0 : List D → Option (List D)} {g : List D → Option (List D)} (h0 : FOk q1b g0) (h : ∀ ds outs, WfA q1k.ars ds → g ds = some outs → q34.go (tblS [(q1b, g0)]) (fun o => o = outs) ds fun _ _ => False) : FOk q1k g :=
  q0a ann_law33_store Try.f29 _ (.cons h0 .nil) rfl rfl enter_law33_store (by decide) fun ds outs hw hg => by rw [code_law33_store g0 _ rfl]; exact h ds outs hw hg

def q22 : Ct := ⟨30, [.val (.int .i64)], [(.st 28, false)], [], none⟩
theorem enter_law33_str (args : Array Value) (w : World) : (callFunc q22.f args).run Try.prog w = .ok (.enter q22.f args) w := by kernel_rfl
def ann_law33_str : Ann := ⟨[0, 2], []⟩
def q4a : Tree := (.leaf [(.mk [(.lit (.i 3)), (.tok 0)])])
set_option maxRecDepth 100000 in
theorem code_law33_str : ∀ cd, Try.f30.body = some cd → treeOf Try.prog [] ann_law33_str q22 Try.f30 cd = q4a := by
  intro cd h
  injection h with h
  subst h
  kernel_rfl
theorem fok_law33_str {g : List D → Option (List D)}  (h : ∀ ds outs, WfA q22.ars ds → g ds = some outs → q4a.go (tblS []) (fun o => o = outs) ds fun _ _ => False) : FOk q22 g :=
  q0a ann_law33_str Try.f30 _ .nil rfl rfl enter_law33_str (by decide) fun ds outs hw hg => by rw [code_law33_str  _ rfl]; exact h ds outs hw hg

def q0s : Ct := ⟨34, [.val (.st 28), .val (.st 28)], [(.bool, false)], [], none⟩
theorem enter_unify_Same_1 (args : Array Value) (w : World) : (callFunc q0s.f args).run Try.prog w = .ok (.enter q0s.f args) w := by kernel_rfl
def ann_unify_Same_1 : Ann := ⟨[0, 1, 4], []⟩
def q2w : Tree := (.leaf [(.lit (.b .false))])
set_option maxRecDepth 100000 in
theorem code_unify_Same_1 : ∀ cd, Try.f34.body = some cd → treeOf Try.prog [] ann_unify_Same_1 q0s Try.f34 cd = q2w := by
  intro cd h
  injection h with h
  subst h
  kernel_rfl
theorem fok_unify_Same_1 {g : List D → Option (List D)}  (h : ∀ ds outs, WfA q0s.ars ds → g ds = some outs → q2w.go (tblS []) (fun o => o = outs) ds fun _ _ => False) : FOk q0s g :=
  q0a ann_unify_Same_1 Try.f34 _ .nil rfl rfl enter_unify_Same_1 (by decide) fun ds outs hw hg => by rw [code_unify_Same_1  _ rfl]; exact h ds outs hw hg

def q12 : Ct := ⟨26, [.rref (.st 26), .val (.st 28), .val (.st 28), .fn 34 []], [(.int .i64, false)], [], none⟩
theorem enter_unify_process_s (args : Array Value) (w : World) : (callFunc q12.f args).run Try.prog w = .ok (.enter q12.f args) w := by kernel_rfl
def q3x : Ann := ⟨[0, 1, 2, 3, 5, 6, 8, 9, 10, 11, 12, 13, 14, 15, 16, 23, 27, 59, 72, 86], [(3, ⟨[(8, .int .i64, false), (9, .row 93, false), (10, .int .i64, false)], [], [21, 22, 23, 26, 27, 28, 29, 30, 31, 32, 33, 11, 34, 35, 36, 37, 38, 39, 40, 41, 42, 43, 44, 45, 46, 47, 48, 49, 50, 12, 13, 51, 52, 53, 54, 55, 56, 57, 58, 59, 60, 61, 62, 63, 64, 65, 66, 67, 68, 69, 70, 71, 72, 73, 74, 75, 76, 77, 78, 14, 15, 79, 80, 81, 82, 83, 84, 16, 85, 86, 89, 90, 91, 92, 93, 94, 95, 96, 97, 98, 99, 100, 87, 88, 24, 25], []⟩),
  (15, ⟨[(9, .row 93, false), (16, .int .i64, false)], [], [85, 86, 89, 90, 91, 92, 93, 94, 95, 96, 97, 98, 99, 100, 87, 88], []⟩)]⟩
def q2g : Tree := (.loop 3 3 [(.lit (.i 0)), (.row [(.mk [(.tok 1), (.tok 2)])]), (.lit (.i 0))] (.br (.lt (.lit (.i 0)) (.len (.tok 4))) (.br (.eq (.tok 5) (.lit (.i 1048576))) (.leaf [(.lit (.i 2))]) (.need [(.rng .i64 (.sub (.len (.tok 4)) (.lit (.i 1)))), (.le (.lit (.i 0)) (.sub (.len (.tok 4)) (.lit (.i 1)))), (.lt (.sub (.len (.tok 4)) (.lit (.i 1))) (.len (.tok 4)))] (.need [(.rng .i64 (.sub (.len (.tok 4)) (.lit (.i 1)))), (.le (.lit (.i 0)) (.sub (.len (.tok 4)) (.lit (.i 1)))), (.le (.sub (.len (.tok 4)) (.lit (.i 1))) (.len (.tok 4)))] (.need [(.ok 1 [(.tok 0), (.fld (.get (.tok 4) (.sub (.len (.tok 4)) (.lit (.i 1)))) 1)]), (.ok 1 [(.tok 0), (.fld (.get (.tok 4) (.sub (.len (.tok 4)) (.lit (.i 1)))) 1)]), (.ok 1 [(.tok 0), (.fld (.get (.tok 4) (.sub (.len (.tok 4)) (.lit (.i 1)))) 0)]), (.ok 1 [(.tok 0), (.fld (.get (.tok 4) (.sub (.len (.tok 4)) (.lit (.i 1)))) 0)]), (.ok 1 [(.tok 0), (.fld (.get (.tok 4) (.sub (.len (.tok 4)) (.lit (.i 1)))) 0)])] (.need [(.imp (.not (.eq (.call 1 0 [(.tok 0), (.fld (.get (.tok 4) (.sub (.len (.tok 4)) (.lit (.i 1)))) 0)]) (.call 1 0 [(.tok 0), (.fld (.get (.tok 4) (.sub (.len (.tok 4)) (.lit (.i 1)))) 1)]))) (.ok 0 [(.call 1 0 [(.tok 0), (.fld (.get (.tok 4) (.sub (.len (.tok 4)) (.lit (.i 1)))) 0)]), (.call 1 0 [(.tok 0), (.fld (.get (.tok 4) (.sub (.len (.tok 4)) (.lit (.i 1)))) 1)])]))] (.br (.or (.eq (.call 1 0 [(.tok 0), (.fld (.get (.tok 4) (.sub (.len (.tok 4)) (.lit (.i 1)))) 0)]) (.call 1 0 [(.tok 0), (.fld (.get (.tok 4) (.sub (.len (.tok 4)) (.lit (.i 1)))) 1)])) (.call 0 0 [(.call 1 0 [(.tok 0), (.fld (.get (.tok 4) (.sub (.len (.tok 4)) (.lit (.i 1)))) 0)]), (.call 1 0 [(.tok 0), (.fld (.get (.tok 4) (.sub (.len (.tok 4)) (.lit (.i 1)))) 1)])])) (.need [(.rng .i64 (.add (.tok 5) (.lit (.i 1))))] (.back 3 [(.tok 3), (.cut (.tok 4) (.lit (.i 0)) (.sub (.len (.tok 4)) (.lit (.i 1)))), (.add (.tok 5) (.lit (.i 1)))])) (.need [(.imp (.not (.lt (.call 2 0 [(.tok 0), (.call 1 0 [(.tok 0), (.fld (.get (.tok 4) (.sub (.len (.tok 4)) (.lit (.i 1)))) 0)])]) (.lit (.i 0)))) (.ok 2 [(.tok 0), (.call 1 0 [(.tok 0), (.fld (.get (.tok 4) (.sub (.len (.tok 4)) (.lit (.i 1)))) 1)])])), (.imp (.not (.lt (.call 2 0 [(.tok 0), (.call 1 0 [(.tok 0), (.fld (.get (.tok 4) (.sub (.len (.tok 4)) (.lit (.i 1)))) 0)])]) (.lit (.i 0)))) (.ok 2 [(.tok 0), (.call 1 0 [(.tok 0), (.fld (.get (.tok 4) (.sub (.len (.tok 4)) (.lit (.i 1)))) 0)])])), (.imp (.not (.lt (.call 2 0 [(.tok 0), (.call 1 0 [(.tok 0), (.fld (.get (.tok 4) (.sub (.len (.tok 4)) (.lit (.i 1)))) 0)])]) (.lit (.i 0)))) (.ok 2 [(.tok 0), (.call 1 0 [(.tok 0), (.fld (.get (.tok 4) (.sub (.len (.tok 4)) (.lit (.i 1)))) 0)])])), (.imp (.not (.lt (.call 2 0 [(.tok 0), (.call 1 0 [(.tok 0), (.fld (.get (.tok 4) (.sub (.len (.tok 4)) (.lit (.i 1)))) 0)])]) (.lit (.i 0)))) (.ok 2 [(.tok 0), (.call 1 0 [(.tok 0), (.fld (.get (.tok 4) (.sub (.len (.tok 4)) (.lit (.i 1)))) 0)])])), (.ok 2 [(.tok 0), (.call 1 0 [(.tok 0), (.fld (.get (.tok 4) (.sub (.len (.tok 4)) (.lit (.i 1)))) 0)])])] (.br (.or (.lt (.call 2 0 [(.tok 0), (.call 1 0 [(.tok 0), (.fld (.get (.tok 4) (.sub (.len (.tok 4)) (.lit (.i 1)))) 0)])]) (.lit (.i 0))) (.not (.eq (.call 2 0 [(.tok 0), (.call 1 0 [(.tok 0), (.fld (.get (.tok 4) (.sub (.len (.tok 4)) (.lit (.i 1)))) 0)])]) (.call 2 0 [(.tok 0), (.call 1 0 [(.tok 0), (.fld (.get (.tok 4) (.sub (.len (.tok 4)) (.lit (.i 1)))) 1)])])))) (.leaf [(.lit (.i 4))]) (.need [(.ok 3 [(.tok 0), (.call 1 0 [(.tok 0), (.fld (.get (.tok 4) (.sub (.len (.tok 4)) (.lit (.i 1)))) 1)])]), (.ok 3 [(.tok 0), (.call 1 0 [(.tok 0), (.fld (.get (.tok 4) (.sub (.len (.tok 4)) (.lit (.i 1)))) 0)])])] (.need [(.rng .i64 (.sub (.ite (.lt (.len (.call 3 0 [(.tok 0), (.call 1 0 [(.tok 0), (.fld (.get (.tok 4) (.sub (.len (.tok 4)) (.lit (.i 1)))) 1)])])) (.len (.call 3 0 [(.tok 0), (.call 1 0 [(.tok 0), (.fld (.get (.tok 4) (.sub (.len (.tok 4)) (.lit (.i 1)))) 0)])]))) (.len (.call 3 0 [(.tok 0), (.call 1 0 [(.tok 0), (.fld (.get (.tok 4) (.sub (.len (.tok 4)) (.lit (.i 1)))) 1)])])) (.len (.call 3 0 [(.tok 0), (.call 1 0 [(.tok 0), (.fld (.get (.tok 4) (.sub (.len (.tok 4)) (.lit (.i 1)))) 0)])]))) (.lit (.i 1))))] (.loop 15 6 [(.cut (.tok 4) (.lit (.i 0)) (.sub (.len (.tok 4)) (.lit (.i 1)))), (.sub (.ite (.lt (.len (.call 3 0 [(.tok 0), (.call 1 0 [(.tok 0), (.fld (.get (.tok 4) (.sub (.len (.tok 4)) (.lit (.i 1)))) 1)])])) (.len (.call 3 0 [(.tok 0), (.call 1 0 [(.tok 0), (.fld (.get (.tok 4) (.sub (.len (.tok 4)) (.lit (.i 1)))) 0)])]))) (.len (.call 3 0 [(.tok 0), (.call 1 0 [(.tok 0), (.fld (.get (.tok 4) (.sub (.len (.tok 4)) (.lit (.i 1)))) 1)])])) (.len (.call 3 0 [(.tok 0), (.call 1 0 [(.tok 0), (.fld (.get (.tok 4) (.sub (.len (.tok 4)) (.lit (.i 1)))) 0)])]))) (.lit (.i 1)))] (.br (.le (.lit (.i 0)) (.tok 7)) (.need [(.le (.add (.len (.tok 6)) (.lit (.i 1))) (.lit (.i 4398046510976))), (.le (.lit (.i 0)) (.tok 7)), (.lt (.tok 7) (.len (.call 3 0 [(.tok 0), (.call 1 0 [(.tok 0), (.fld (.get (.tok 4) (.sub (.len (.tok 4)) (.lit (.i 1)))) 1)])]))), (.le (.lit (.i 0)) (.tok 7)), (.lt (.tok 7) (.len (.call 3 0 [(.tok 0), (.call 1 0 [(.tok 0), (.fld (.get (.tok 4) (.sub (.len (.tok 4)) (.lit (.i 1)))) 0)])])))] (.need [(.rng .i64 (.sub (.tok 7) (.lit (.i 1))))] (.back 15 [(.app (.tok 6) (.row [(.mk [(.get (.call 3 0 [(.tok 0), (.call 1 0 [(.tok 0), (.fld (.get (.tok 4) (.sub (.len (.tok 4)) (.lit (.i 1)))) 0)])]) (.tok 7)), (.get (.call 3 0 [(.tok 0), (.call 1 0 [(.tok 0), (.fld (.get (.tok 4) (.sub (.len (.tok 4)) (.lit (.i 1)))) 1)])]) (.tok 7))])])), (.sub (.tok 7) (.lit (.i 1)))]))) (.need [(.rng .i64 (.add (.tok 5) (.lit (.i 1))))] (.back 3 [(.tok 3), (.tok 6), (.add (.tok 5) (.lit (.i 1)))])))))))))))))) (.leaf [(.lit (.i 0))])))
set_option maxRecDepth 100000 in
theorem code_unify_process_s (g0 g1 g2 g3 : List D → Option (List D)) : ∀ cd, Try.f26.body = some cd → treeOf Try.prog [(q0s, g0), (q0f, g1), (q0i, g2), (q0k, g3)] q3x q12 Try.f26 cd = q2g := by
  intro cd h
  injection h with h
  subst h
  kernel_rfl
theorem fok_unify_process_s {g0 g1 g2 g3 : List D → Option (List D)} {g : List D → Option (List D)} (h0 : FOk q0s g0) (h1 : FOk q0f g1) (h2 : FOk q0i g2) (h3 : FOk q0k g3) (h : ∀ ds outs, WfA q12.ars ds → g ds = some outs → q2g.go (tblS [(q0s, g0), (q0f, g1), (q0i, g2), (q0k, g3)]) (fun o => o = outs) ds fun _ _ => False) : FOk q12 g :=
  q0a q3x Try.f26 _ (.cons h0 (.cons h1 (.cons h2 (.cons h3 .nil)))) rfl rfl enter_unify_process_s (by decide) fun ds outs hw hg => by rw [code_unify_process_s g0 g1 g2 g3 _ rfl]; exact h ds outs hw hg

def q1a : Ct := ⟨13, [.val (.st 26), .val (.st 28), .val (.st 28)], [(.bool, false), (.int .i64, false)], [], none⟩
theorem enter_unify_Same (args : Array Value) (w : World) : (callFunc q1a.f args).run Try.prog w = .ok (.enter q1a.f args) w := by kernel_rfl
def ann_unify_Same : Ann := ⟨[0, 1, 2, 3, 4, 5, 6, 7, 17, 20, 21, 23], []⟩
def q3n : Tree := (.need [(.ok 1 [(.tok 0), (.tok 1)]), (.imp (.not (.not (.call 1 0 [(.tok 0), (.tok 1)]))) (.ok 1 [(.tok 0), (.tok 2)]))] (.br (.or (.not (.call 1 0 [(.tok 0), (.tok 1)])) (.not (.call 1 0 [(.tok 0), (.tok 2)]))) (.leaf [(.lit (.b .false)), (.lit (.i 1))]) (.need [(.ok 2 [(.tok 0), (.tok 1), (.tok 2)])] (.br (.eq (.call 2 0 [(.tok 0), (.tok 1), (.tok 2)]) (.lit (.i 0))) (.leaf [(.lit (.b .true)), (.lit (.i 0))]) (.br (.eq (.call 2 0 [(.tok 0), (.tok 1), (.tok 2)]) (.lit (.i 2))) (.leaf [(.lit (.b .false)), (.lit (.i 2))]) (.leaf [(.lit (.b .false)), (.lit (.i 0))]))))))
set_option maxRecDepth 100000 in
theorem code_unify_Same (g0 g1 g2 : List D → Option (List D)) : ∀ cd, Try.f13.body = some cd → treeOf Try.prog [(q0s, g0), (q06, g1), (q12, g2)] ann_unify_Same q1a Try.f13 cd = q3n := by
  intro cd h
  injection h with h
  subst h
  kernel_rfl
theorem fok_unify_Same {g0 g1 g2 : List D → Option (List D)} {g : List D → Option (List D)} (h0 : FOk q0s g0) (h1 : FOk q06 g1) (h2 : FOk q12 g2) (h : ∀ ds outs, WfA q1a.ars ds → g ds = some outs → q3n.go (tblS [(q0s, g0), (q06, g1), (q12, g2)]) (fun o => o = outs) ds fun _ _ => False) : FOk q1a g :=
  q0a ann_unify_Same Try.f13 _ (.cons h0 (.cons h1 (.cons h2 .nil))) rfl rfl enter_unify_Same (by decide) fun ds outs hw hg => by rw [code_unify_Same g0 g1 g2 _ rfl]; exact h ds outs hw hg

def q0h : Ct := ⟨10, [], [(.bool, false)], [], none⟩
theorem enter_law33_example (args : Array Value) (w : World) : (callFunc q0h.f args).run Try.prog w = .ok (.enter q0h.f args) w := by kernel_rfl
def ann_law33_example : Ann := ⟨[0, 1, 2, 3, 4, 5, 6], []⟩
def q4h : Tree := (.need [(.ok 0 [])] (.need [(.ok 1 [(.lit (.i 0))]), (.ok 1 [(.lit (.i 3))]), (.ok 2 [(.call 0 0 []), (.call 1 0 [(.lit (.i 0))]), (.call 1 0 [(.lit (.i 3))])])] (.need [(.ok 3 [(.call 2 1 [(.call 0 0 []), (.call 1 0 [(.lit (.i 0))]), (.call 1 0 [(.lit (.i 3))])]), (.call 1 0 [(.lit (.i 0))]), (.call 1 0 [(.lit (.i 3))])]), (.ok 1 [(.lit (.i 3))]), (.ok 1 [(.lit (.i 0))])] (.need [(.ok 0 [])] (.need [(.ok 4 [(.lit (.i 2))]), (.ok 4 [(.lit (.i 6))]), (.ok 2 [(.call 0 0 []), (.call 4 0 [(.lit (.i 2))]), (.call 4 0 [(.lit (.i 6))])])] (.need [(.imp (.and (.eq (.call 2 0 [(.call 0 0 []), (.call 1 0 [(.lit (.i 0))]), (.call 1 0 [(.lit (.i 3))])]) (.lit (.i 0))) (.eq (.get (.fld (.call 2 1 [(.call 0 0 []), (.call 1 0 [(.lit (.i 0))]), (.call 1 0 [(.lit (.i 3))])]) 0) (.lit (.i 4))) (.call 4 0 [(.lit (.i 1))]))) (.lit (.b .true))), (.imp (.and (.eq (.call 2 0 [(.call 0 0 []), (.call 1 0 [(.lit (.i 0))]), (.call 1 0 [(.lit (.i 3))])]) (.lit (.i 0))) (.eq (.get (.fld (.call 2 1 [(.call 0 0 []), (.call 1 0 [(.lit (.i 0))]), (.call 1 0 [(.lit (.i 3))])]) 0) (.lit (.i 4))) (.call 4 0 [(.lit (.i 1))]))) (.lt (.lit (.i 5)) (.len (.fld (.call 2 1 [(.call 0 0 []), (.call 1 0 [(.lit (.i 0))]), (.call 1 0 [(.lit (.i 3))])]) 0)))), (.imp (.and (.eq (.call 2 0 [(.call 0 0 []), (.call 1 0 [(.lit (.i 0))]), (.call 1 0 [(.lit (.i 3))])]) (.lit (.i 0))) (.eq (.get (.fld (.call 2 1 [(.call 0 0 []), (.call 1 0 [(.lit (.i 0))]), (.call 1 0 [(.lit (.i 3))])]) 0) (.lit (.i 4))) (.call 4 0 [(.lit (.i 1))]))) (.lit (.b .true))), (.imp (.and (.eq (.call 2 0 [(.call 0 0 []), (.call 1 0 [(.lit (.i 0))]), (.call 1 0 [(.lit (.i 3))])]) (.lit (.i 0))) (.eq (.get (.fld (.call 2 1 [(.call 0 0 []), (.call 1 0 [(.lit (.i 0))]), (.call 1 0 [(.lit (.i 3))])]) 0) (.lit (.i 4))) (.call 4 0 [(.lit (.i 1))]))) (.lt (.lit (.i 5)) (.len (.fld (.call 2 1 [(.call 0 0 []), (.call 1 0 [(.lit (.i 0))]), (.call 1 0 [(.lit (.i 3))])]) 0)))), (.imp (.eq (.call 2 0 [(.call 0 0 []), (.call 1 0 [(.lit (.i 0))]), (.call 1 0 [(.lit (.i 3))])]) (.lit (.i 0))) (.ok 4 [(.lit (.i 1))])), (.imp (.eq (.call 2 0 [(.call 0 0 []), (.call 1 0 [(.lit (.i 0))]), (.call 1 0 [(.lit (.i 3))])]) (.lit (.i 0))) (.lit (.b .true))), (.imp (.eq (.call 2 0 [(.call 0 0 []), (.call 1 0 [(.lit (.i 0))]), (.call 1 0 [(.lit (.i 3))])]) (.lit (.i 0))) (.lt (.lit (.i 4)) (.len (.fld (.call 2 1 [(.call 0 0 []), (.call 1 0 [(.lit (.i 0))]), (.call 1 0 [(.lit (.i 3))])]) 0)))), (.imp (.eq (.call 2 0 [(.call 0 0 []), (.call 1 0 [(.lit (.i 0))]), (.call 1 0 [(.lit (.i 3))])]) (.lit (.i 0))) (.ok 4 [(.lit (.i 1))])), (.imp (.eq (.call 2 0 [(.call 0 0 []), (.call 1 0 [(.lit (.i 0))]), (.call 1 0 [(.lit (.i 3))])]) (.lit (.i 0))) (.lit (.b .true))), (.imp (.eq (.call 2 0 [(.call 0 0 []), (.call 1 0 [(.lit (.i 0))]), (.call 1 0 [(.lit (.i 3))])]) (.lit (.i 0))) (.lt (.lit (.i 4)) (.len (.fld (.call 2 1 [(.call 0 0 []), (.call 1 0 [(.lit (.i 0))]), (.call 1 0 [(.lit (.i 3))])]) 0)))), (.imp (.eq (.call 2 0 [(.call 0 0 []), (.call 1 0 [(.lit (.i 0))]), (.call 1 0 [(.lit (.i 3))])]) (.lit (.i 0))) (.ok 4 [(.lit (.i 1))]))] (.leaf [(.and (.and (.and (.and (.and (.and (.eq (.call 2 0 [(.call 0 0 []), (.call 1 0 [(.lit (.i 0))]), (.call 1 0 [(.lit (.i 3))])]) (.lit (.i 0))) (.eq (.get (.fld (.call 2 1 [(.call 0 0 []), (.call 1 0 [(.lit (.i 0))]), (.call 1 0 [(.lit (.i 3))])]) 0) (.lit (.i 4))) (.call 4 0 [(.lit (.i 1))]))) (.eq (.get (.fld (.call 2 1 [(.call 0 0 []), (.call 1 0 [(.lit (.i 0))]), (.call 1 0 [(.lit (.i 3))])]) 0) (.lit (.i 5))) (.mk [(.lit (.i 2)), (.lit (.i 1))]))) (.eq (.len (.fld (.call 2 1 [(.call 0 0 []), (.call 1 0 [(.lit (.i 0))]), (.call 1 0 [(.lit (.i 3))])]) 2)) (.lit (.i 2)))) (.call 3 0 [(.call 2 1 [(.call 0 0 []), (.call 1 0 [(.lit (.i 0))]), (.call 1 0 [(.lit (.i 3))])]), (.call 1 0 [(.lit (.i 0))]), (.call 1 0 [(.lit (.i 3))])])) (.eq (.call 3 1 [(.call 2 1 [(.call 0 0 []), (.call 1 0 [(.lit (.i 0))]), (.call 1 0 [(.lit (.i 3))])]), (.call 1 0 [(.lit (.i 0))]), (.call 1 0 [(.lit (.i 3))])]) (.lit (.i 0)))) (.eq (.call 2 0 [(.call 0 0 []), (.call 4 0 [(.lit (.i 2))]), (.call 4 0 [(.lit (.i 6))])]) (.lit (.i 4))))])))))))
set_option maxRecDepth 100000 in
theorem code_law33_example (g0 g1 g2 g3 g4 : List D → Option (List D)) : ∀ cd, Try.f10.body = some cd → treeOf Try.prog [(q1k, g0), (q22, g1), (q0l, g2), (q1a, g3), (q1b, g4)] ann_law33_example q0h Try.f10 cd = q4h := by
  intro cd h
  injection h with h
  subst h
  kernel_rfl
theorem fok_law33_example {g0 g1 g2 g3 g4 : List D → Option (List D)} {g : List D → Option (List D)} (h0 : FOk q1k g0) (h1 : FOk q22 g1) (h2 : FOk q0l g2) (h3 : FOk q1a g3) (h4 : FOk q1b g4) (h : ∀ ds outs, WfA q0h.ars ds → g ds = some outs → q4h.go (tblS [(q1k, g0), (q22, g1), (q0l, g2), (q1a, g3), (q1b, g4)]) (fun o => o = outs) ds fun _ _ => False) : FOk q0h g :=
  q0a ann_law33_example Try.f10 _ (.cons h0 (.cons h1 (.cons h2 (.cons h3 (.cons h4 .nil))))) rfl rfl enter_law33_example (by decide) fun ds outs hw hg => by rw [code_law33_example g0 g1 g2 g3 g4 _ rfl]; exact h ds outs hw hg

def q0m : Ct := ⟨62, [.val (.st 26), .val (.st 28)], [(.st 28, false)], [], none⟩
theorem enter_ref30_Deref (args : Array Value) (w : World) : (callFunc q0m.f args).run Try.prog w = .ok (.enter q0m.f args) w := by kernel_rfl
def ann_ref30_Deref : Ann := ⟨[0, 1, 2, 3, 4, 5, 9, 36], [(4, ⟨[(5, .int .i64, false)], [3], [11, 12, 13, 14, 15, 16, 17, 18, 19, 20, 21, 22, 23, 24, 25, 26, 27, 28, 29, 30, 31, 32, 33, 34, 35, 36, 39, 40, 41, 42, 43, 44, 37, 38], []⟩)]⟩
def q3d : Tree := (.need [(.ok 0 [(.tok 0), (.tok 1)])] (.br (.not (.call 0 0 [(.tok 0), (.tok 1)])) (.leaf [(.lit (.a [(.i 0), (.i 0)]))]) (.loop 4 2 [(.lit (.i 0)), (.tok 1)] (.need [(.imp (.and (.and (.le (.tok 2) (.len (.fld (.tok 0) 0))) (.eq (.fld (.tok 3) 0) (.lit (.i 0)))) (.call 1 0 [(.tok 0), (.fld (.tok 3) 1)])) (.le (.lit (.i 0)) (.fld (.tok 3) 1))), (.imp (.and (.and (.le (.tok 2) (.len (.fld (.tok 0) 0))) (.eq (.fld (.tok 3) 0) (.lit (.i 0)))) (.call 1 0 [(.tok 0), (.fld (.tok 3) 1)])) (.lt (.fld (.tok 3) 1) (.len (.fld (.tok 0) 0)))), (.imp (.and (.and (.le (.tok 2) (.len (.fld (.tok 0) 0))) (.eq (.fld (.tok 3) 0) (.lit (.i 0)))) (.call 1 0 [(.tok 0), (.fld (.tok 3) 1)])) (.le (.lit (.i 0)) (.fld (.tok 3) 1))), (.imp (.and (.and (.le (.tok 2) (.len (.fld (.tok 0) 0))) (.eq (.fld (.tok 3) 0) (.lit (.i 0)))) (.call 1 0 [(.tok 0), (.fld (.tok 3) 1)])) (.lt (.fld (.tok 3) 1) (.len (.fld (.tok 0) 0)))), (.imp (.and (.le (.tok 2) (.len (.fld (.tok 0) 0))) (.eq (.fld (.tok 3) 0) (.lit (.i 0)))) (.ok 1 [(.tok 0), (.fld (.tok 3) 1)]))] (.br (.and (.and (.and (.le (.tok 2) (.len (.fld (.tok 0) 0))) (.eq (.fld (.tok 3) 0) (.lit (.i 0)))) (.call 1 0 [(.tok 0), (.fld (.tok 3) 1)])) (.not (.eq (.get (.fld (.tok 0) 0) (.fld (.tok 3) 1)) (.tok 3)))) (.need [(.le (.lit (.i 0)) (.fld (.tok 3) 1)), (.lt (.fld (.tok 3) 1) (.len (.fld (.tok 0) 0)))] (.need [(.rng .i64 (.add (.tok 2) (.lit (.i 1))))] (.back 4 [(.add (.tok 2) (.lit (.i 1))), (.get (.fld (.tok 0) 0) (.fld (.tok 3) 1))]))) (.leaf [(.tok 3)]))))))
set_option maxRecDepth 100000 in
theorem code_ref30_Deref (g0 g1 : List D → Option (List D)) : ∀ cd, Try.f62.body = some cd → treeOf Try.prog [(q05, g0), (q0b, g1)] ann_ref30_Deref q0m Try.f62 cd = q3d := by
  intro cd h
  injection h with h
  subst h
  kernel_rfl
theorem fok_ref30_Deref {g0 g1 : List D → Option (List D)} {g : List D → Option (List D)} (h0 : FOk q05 g0) (h1 : FOk q0b g1) (h : ∀ ds outs, WfA q0m.ars ds → g ds = some outs → q3d.go (tblS [(q05, g0), (q0b, g1)]) (fun o => o = outs) ds fun _ _ => False) : FOk q0m g :=
  q0a ann_ref30_Deref Try.f62 _ (.cons h0 (.cons h1 .nil)) rfl rfl enter_ref30_Deref (by decide) fun ds outs hw hg => by rw [code_ref30_Deref g0 g1 _ rfl]; exact h ds outs hw hg

def q17 : Ct := ⟨104, [.val (.st 26), .val (.int .i64)], [(.bool, false)], [], none⟩
theorem enter_ref31_Settable (args : Array Value) (w : World) : (callFunc q17.f args).run Try.prog w = .ok (.enter q17.f args) w := by kernel_rfl
def q4i : Ann := ⟨[0, 1, 2, 4, 5, 18], []⟩
def q2l : Tree := (.need [(.le (.lit (.i 0)) (.tok 1)), (.lt (.tok 1) (.len (.fld (.tok 0) 0)))] (.br (.or (.eq (.fld (.get (.fld (.tok 0) 0) (.tok 1)) 0) (.lit (.i 0))) (.eq (.fld (.get (.fld (.tok 0) 0) (.tok 1)) 0) (.lit (.i 5)))) (.leaf [(.eq (.fld (.get (.fld (.tok 0) 0) (.tok 1)) 1) (.tok 1))]) (.need [(.imp (.le (.lit (.i 2)) (.tok 1)) (.rng .i64 (.sub (.tok 1) (.lit (.i 2))))), (.imp (.le (.lit (.i 2)) (.tok 1)) (.le (.lit (.i 0)) (.sub (.tok 1) (.lit (.i 2))))), (.imp (.le (.lit (.i 2)) (.tok 1)) (.lt (.sub (.tok 1) (.lit (.i 2))) (.len (.fld (.tok 0) 0))))] (.leaf [(.and (.and (.le (.lit (.i 2)) (.tok 1)) (.eq (.fld (.get (.fld (.tok 0) 0) (.sub (.tok 1) (.lit (.i 2)))) 0) (.lit (.i 5)))) (.not (.eq (.fld (.get (.fld (.tok 0) 0) (.tok 1)) 0) (.lit (.i 4)))))]))))
set_option maxRecDepth 100000 in
theorem code_ref31_Settable : ∀ cd, Try.f104.body = some cd → treeOf Try.prog [] q4i q17 Try.f104 cd = q2l := by
  intro cd h
  injection h with h
  subst h
  kernel_rfl
theorem fok_ref31_Settable {g : List D → Option (List D)}  (h : ∀ ds outs, WfA q17.ars ds → g ds = some outs → q2l.go (tblS []) (fun o => o = outs) ds fun _ _ => False) : FOk q17 g :=
  q0a q4i Try.f104 _ .nil rfl rfl enter_ref31_Settable (by decide) fun ds outs hw hg => by rw [code_ref31_Settable  _ rfl]; exact h ds outs hw hg

def q18 : Ct := ⟨74, [.val (.st 28)], [(.st 28, false)], [], none⟩
theorem enter_ref30_Kept (args : Array Value) (w : World) : (callFunc q18.f args).run Try.prog w = .ok (.enter q18.f args) w := by kernel_rfl
def ann_ref30_Kept : Ann := ⟨[0, 1, 2, 5], []⟩
def q3p : Tree := (.br (.eq (.fld (.tok 0) 0) (.lit (.i 5))) (.leaf [(.mk [(.lit (.i 0)), (.fld (.tok 0) 1)])]) (.leaf [(.tok 0)]))
set_option maxRecDepth 100000 in
theorem code_ref30_Kept : ∀ cd, Try.f74.body = some cd → treeOf Try.prog [] ann_ref30_Kept q18 Try.f74 cd = q3p := by
  intro cd h
  injection h with h
  subst h
  kernel_rfl
theorem fok_ref30_Kept {g : List D → Option (List D)}  (h : ∀ ds outs, WfA q18.ars ds → g ds = some outs → q3p.go (tblS []) (fun o => o = outs) ds fun _ _ => False) : FOk q18 g :=
  q0a ann_ref30_Kept Try.f74 _ .nil rfl rfl enter_ref30_Kept (by decide) fun ds outs hw hg => by rw [code_ref30_Kept  _ rfl]; exact h ds outs hw hg

def q1l : Ct := ⟨105, [.val (.st 26), .val (.st 28), .val (.int .i64)], [(.bool, false)], [], none⟩
theorem enter_ref31_Comes (args : Array Value) (w : World) : (callFunc q1l.f args).run Try.prog w = .ok (.enter q1l.f args) w := by kernel_rfl
def ann_ref31_Comes : Ann := ⟨[0, 1, 2, 3, 4, 6, 7, 30, 36], [(2, ⟨[(6, .bool, false), (7, .int .i64, false)], [4], [8, 9, 10, 11, 12, 13, 14, 15, 16, 17, 18, 19, 20, 21, 22, 23, 24, 25, 26, 27, 28, 29, 30, 33, 34, 35, 36, 37, 38, 39, 40, 41, 42, 31, 32], []⟩)]⟩
def q33 : Tree := (.loop 2 3 [(.lit (.b .false)), (.lit (.i 0)), (.tok 1)] (.br (.and (.and (.and (.le (.tok 4) (.len (.fld (.tok 0) 0))) (.eq (.fld (.tok 5) 0) (.lit (.i 0)))) (.le (.lit (.i 0)) (.fld (.tok 5) 1))) (.lt (.fld (.tok 5) 1) (.len (.fld (.tok 0) 0)))) (.br (.eq (.fld (.tok 5) 1) (.tok 2)) (.leaf [(.lit (.b .true))]) (.need [(.le (.lit (.i 0)) (.fld (.tok 5) 1)), (.lt (.fld (.tok 5) 1) (.len (.fld (.tok 0) 0)))] (.need [(.rng .i64 (.add (.tok 4) (.lit (.i 1))))] (.back 2 [(.tok 3), (.add (.tok 4) (.lit (.i 1))), (.get (.fld (.tok 0) 0) (.fld (.tok 5) 1))])))) (.leaf [(.lit (.b .false))])))
set_option maxRecDepth 100000 in
theorem code_ref31_Comes : ∀ cd, Try.f105.body = some cd → treeOf Try.prog [] ann_ref31_Comes q1l Try.f105 cd = q33 := by
  intro cd h
  injection h with h
  subst h
  kernel_rfl
theorem fok_ref31_Comes {g : List D → Option (List D)}  (h : ∀ ds outs, WfA q1l.ars ds → g ds = some outs → q33.go (tblS []) (fun o => o = outs) ds fun _ _ => False) : FOk q1l g :=
  q0a ann_ref31_Comes Try.f105 _ .nil rfl rfl enter_ref31_Comes (by decide) fun ds outs hw hg => by rw [code_ref31_Comes  _ rfl]; exact h ds outs hw hg

def q0t : Ct := ⟨89, [.ref (.st 26), .val (.int .i64), .val (.st 28)], [(.int .i64, false)], [], none⟩
theorem enter_ref31_Set (args : Array Value) (w : World) : (callFunc q0t.f args).run Try.prog w = .ok (.enter q0t.f args) w := by kernel_rfl
def ann_ref31_Set : Ann := ⟨[0, 1, 2, 5, 6, 46], []⟩
def q4e : Tree := (.need [(.imp (.not (.or (.or (.or (.lt (.tok 1) (.lit (.i 0))) (.le (.len (.fld (.tok 0) 0)) (.tok 1))) (.not (.call 0 0 [(.tok 0), (.tok 2)]))) (.not (.call 1 0 [(.tok 0), (.tok 1)])))) (.ok 3 [(.tok 0), (.call 2 0 [(.tok 2)]), (.tok 1)])), (.imp (.not (.or (.or (.or (.lt (.tok 1) (.lit (.i 0))) (.le (.len (.fld (.tok 0) 0)) (.tok 1))) (.not (.call 0 0 [(.tok 0), (.tok 2)]))) (.not (.call 1 0 [(.tok 0), (.tok 1)])))) (.ok 2 [(.tok 2)])), (.imp (.not (.or (.or (.or (.lt (.tok 1) (.lit (.i 0))) (.le (.len (.fld (.tok 0) 0)) (.tok 1))) (.not (.call 0 0 [(.tok 0), (.tok 2)]))) (.not (.call 1 0 [(.tok 0), (.tok 1)])))) (.ok 2 [(.tok 2)])), (.imp (.not (.or (.or (.or (.lt (.tok 1) (.lit (.i 0))) (.le (.len (.fld (.tok 0) 0)) (.tok 1))) (.not (.call 0 0 [(.tok 0), (.tok 2)]))) (.not (.call 1 0 [(.tok 0), (.tok 1)])))) (.ok 2 [(.tok 2)])), (.imp (.not (.or (.or (.lt (.tok 1) (.lit (.i 0))) (.le (.len (.fld (.tok 0) 0)) (.tok 1))) (.not (.call 0 0 [(.tok 0), (.tok 2)])))) (.ok 1 [(.tok 0), (.tok 1)])), (.imp (.not (.or (.lt (.tok 1) (.lit (.i 0))) (.le (.len (.fld (.tok 0) 0)) (.tok 1)))) (.ok 0 [(.tok 0), (.tok 2)]))] (.br (.or (.or (.or (.or (.lt (.tok 1) (.lit (.i 0))) (.le (.len (.fld (.tok 0) 0)) (.tok 1))) (.not (.call 0 0 [(.tok 0), (.tok 2)]))) (.not (.call 1 0 [(.tok 0), (.tok 1)]))) (.call 3 0 [(.tok 0), (.call 2 0 [(.tok 2)]), (.tok 1)])) (.leaf [(.lit (.i 1)), (.tok 0)]) (.need [(.le (.lit (.i 0)) (.tok 1)), (.lt (.tok 1) (.len (.fld (.tok 0) 0))), (.le (.add (.len (.fld (.tok 0) 2)) (.lit (.i 1))) (.lit (.i 5864062014634)))] (.need [(.ok 2 [(.tok 2)]), (.le (.lit (.i 0)) (.tok 1)), (.lt (.tok 1) (.len (.fld (.set (.tok 0) 2 (.app (.fld (.tok 0) 2) (.row [(.mk [(.tok 1), (.get (.fld (.tok 0) 0) (.tok 1))])]))) 0)))] (.leaf [(.lit (.i 0)), (.set (.set (.tok 0) 2 (.app (.fld (.tok 0) 2) (.row [(.mk [(.tok 1), (.get (.fld (.tok 0) 0) (.tok 1))])]))) 0 (.put (.fld (.set (.tok 0) 2 (.app (.fld (.tok 0) 2) (.row [(.mk [(.tok 1), (.get (.fld (.tok 0) 0) (.tok 1))])]))) 0) (.tok 1) (.call 2 0 [(.tok 2)])))])))))
set_option maxRecDepth 100000 in
theorem code_ref31_Set (g0 g1 g2 g3 : List D → Option (List D)) : ∀ cd, Try.f89.body = some cd → treeOf Try.prog [(q05, g0), (q17, g1), (q18, g2), (q1l, g3)] ann_ref31_Set q0t Try.f89 cd = q4e := by
  intro cd h
  injection h with h
  subst h
  kernel_rfl
theorem fok_ref31_Set {g0 g1 g2 g3 : List D → Option (List D)} {g : List D → Option (List D)} (h0 : FOk q05 g0) (h1 : FOk q17 g1) (h2 : FOk q18 g2) (h3 : FOk q1l g3) (h : ∀ ds outs, WfA q0t.ars ds → g ds = some outs → q4e.go (tblS [(q05, g0), (q17, g1), (q18, g2), (q1l, g3)]) (fun o => o = outs) ds fun _ _ => False) : FOk q0t g :=
  q0a ann_ref31_Set Try.f89 _ (.cons h0 (.cons h1 (.cons h2 (.cons h3 .nil)))) rfl rfl enter_ref31_Set (by decide) fun ds outs hw hg => by rw [code_ref31_Set g0 g1 g2 g3 _ rfl]; exact h ds outs hw hg

def q16 : Ct := ⟨106, [.val (.st 26), .val (.st 28)], [(.st 28, false), (.bool, false)], [], none⟩
theorem enter_ref32_variable (args : Array Value) (w : World) : (callFunc q16.f args).run Try.prog w = .ok (.enter q16.f args) w := by kernel_rfl
def q4k : Ann := ⟨[0, 1, 2, 3, 4, 5, 6], []⟩
def q2m : Tree := (.need [(.ok 0 [(.tok 0), (.tok 1)])] (.need [(.ok 1 [(.tok 0), (.tok 1)])] (.leaf [(.call 0 0 [(.tok 0), (.tok 1)]), (.and (.call 1 0 [(.tok 0), (.tok 1)]) (.or (.eq (.fld (.call 0 0 [(.tok 0), (.tok 1)]) 0) (.lit (.i 0))) (.eq (.fld (.call 0 0 [(.tok 0), (.tok 1)]) 0) (.lit (.i 5)))))])))
set_option maxRecDepth 100000 in
theorem code_ref32_variable (g0 g1 : List D → Option (List D)) : ∀ cd, Try.f106.body = some cd → treeOf Try.prog [(q0m, g0), (q05, g1)] q4k q16 Try.f106 cd = q2m := by
  intro cd h
  injection h with h
  subst h
  kernel_rfl
theorem fok_ref32_variable {g0 g1 : List D → Option (List D)} {g : List D → Option (List D)} (h0 : FOk q0m g0) (h1 : FOk q05 g1) (h : ∀ ds outs, WfA q16.ars ds → g ds = some outs → q2m.go (tblS [(q0m, g0), (q05, g1)]) (fun o => o = outs) ds fun _ _ => False) : FOk q16 g :=
  q0a q4k Try.f106 _ (.cons h0 (.cons h1 .nil)) rfl rfl enter_ref32_variable (by decide) fun ds outs hw hg => by rw [code_ref32_variable g0 g1 _ rfl]; exact h ds outs hw hg

def q1v : Ct := ⟨107, [.ref (.st 26), .val (.int .i64), .val (.st 28)], [], [], none⟩
theorem enter_ref32_bind (args : Array Value) (w : World) : (callFunc q1v.f args).run Try.prog w = .ok (.enter q1v.f args) w := by kernel_rfl
def ann_ref32_bind : Ann := ⟨[0, 1, 2, 5, 6], []⟩
def q3k : Tree := (.need [(.ok 0 [(.tok 2)]), (.ok 0 [(.tok 2)]), (.le (.lit (.i 0)) (.add (.tok 1) (.lit (.i 2)))), (.lt (.add (.tok 1) (.lit (.i 2))) (.len (.fld (.tok 0) 0))), (.rng .i64 (.add (.tok 1) (.lit (.i 2)))), (.le (.lit (.i 0)) (.add (.tok 1) (.lit (.i 1)))), (.lt (.add (.tok 1) (.lit (.i 1))) (.len (.fld (.tok 0) 0))), (.rng .i64 (.add (.tok 1) (.lit (.i 1))))] (.need [(.ok 1 [(.tok 0), (.tok 1), (.tok 2)])] (.need [(.le (.add (.len (.fld (.call 1 1 [(.tok 0), (.tok 1), (.tok 2)]) 3)) (.lit (.i 1))) (.lit (.i 3518437208780)))] (.leaf [(.set (.call 1 1 [(.tok 0), (.tok 1), (.tok 2)]) 3 (.app (.fld (.call 1 1 [(.tok 0), (.tok 1), (.tok 2)]) 3) (.row [(.mk [(.fld (.get (.fld (.tok 0) 0) (.add (.tok 1) (.lit (.i 1)))) 1), (.get (.fld (.tok 0) 0) (.add (.tok 1) (.lit (.i 2)))), (.call 0 0 [(.tok 2)])])])))]))))
set_option maxRecDepth 100000 in
theorem code_ref32_bind (g0 g1 : List D → Option (List D)) : ∀ cd, Try.f107.body = some cd → treeOf Try.prog [(q18, g0), (q0t, g1)] ann_ref32_bind q1v Try.f107 cd = q3k := by
  intro cd h
  injection h with h
  subst h
  kernel_rfl
theorem fok_ref32_bind {g0 g1 : List D → Option (List D)} {g : List D → Option (List D)} (h0 : FOk q18 g0) (h1 : FOk q0t g1) (h : ∀ ds outs, WfA q1v.ars ds → g ds = some outs → q3k.go (tblS [(q18, g0), (q0t, g1)]) (fun o => o = outs) ds fun _ _ => False) : FOk q1v g :=
  q0a ann_ref32_bind Try.f107 _ (.cons h0 (.cons h1 .nil)) rfl rfl enter_ref32_bind (by decide) fun ds outs hw hg => by rw [code_ref32_bind g0 g1 _ rfl]; exact h ds outs hw hg

def q1w : Ct := ⟨90, [.ref (.st 26), .val (.st 28), .val (.st 28)], [(.int .i64, false)], [], none⟩
theorem enter_ref32_Bind (args : Array Value) (w : World) : (callFunc q1w.f args).run Try.prog w = .ok (.enter q1w.f args) w := by kernel_rfl
def ann_ref32_Bind : Ann := ⟨[0, 1, 2, 4, 5, 6, 7, 8, 9, 10, 11, 13, 36, 47, 51, 60, 98], []⟩
def q3v : Tree := (.need [(.ok 0 [(.tok 0), (.tok 1)]), (.ok 0 [(.tok 0), (.tok 1)])] (.need [(.imp (.not (.or (.not (.call 0 1 [(.tok 0), (.tok 1)])) (.not (.eq (.fld (.call 0 0 [(.tok 0), (.tok 1)]) 0) (.lit (.i 5)))))) (.ok 1 [(.tok 0), (.tok 2)]))] (.br (.or (.or (.not (.call 0 1 [(.tok 0), (.tok 1)])) (.not (.eq (.fld (.call 0 0 [(.tok 0), (.tok 1)]) 0) (.lit (.i 5))))) (.not (.call 1 0 [(.tok 0), (.tok 2)]))) (.leaf [(.lit (.i 1)), (.tok 0)]) (.need [(.ok 2 [(.tok 0), (.tok 2)]), (.ok 2 [(.tok 0), (.tok 2)])] (.br (.eq (.call 2 0 [(.tok 0), (.tok 2)]) (.call 0 0 [(.tok 0), (.tok 1)])) (.leaf [(.lit (.i 0)), (.tok 0)]) (.br (.eq (.fld (.call 2 0 [(.tok 0), (.tok 2)]) 0) (.lit (.i 0))) (.need [(.ok 3 [(.tok 0), (.fld (.call 2 0 [(.tok 0), (.tok 2)]) 1), (.call 0 0 [(.tok 0), (.tok 1)])])] (.leaf [(.lit (.i 0)), (.call 3 1 [(.tok 0), (.fld (.call 2 0 [(.tok 0), (.tok 2)]) 1), (.call 0 0 [(.tok 0), (.tok 1)])])])) (.br (.eq (.fld (.call 2 0 [(.tok 0), (.tok 2)]) 0) (.lit (.i 5))) (.need [(.le (.lit (.i 0)) (.add (.fld (.call 2 0 [(.tok 0), (.tok 2)]) 1) (.lit (.i 1)))), (.lt (.add (.fld (.call 2 0 [(.tok 0), (.tok 2)]) 1) (.lit (.i 1))) (.len (.fld (.tok 0) 0))), (.rng .i64 (.add (.fld (.call 2 0 [(.tok 0), (.tok 2)]) 1) (.lit (.i 1)))), (.le (.lit (.i 0)) (.add (.fld (.call 0 0 [(.tok 0), (.tok 1)]) 1) (.lit (.i 1)))), (.lt (.add (.fld (.call 0 0 [(.tok 0), (.tok 1)]) 1) (.lit (.i 1))) (.len (.fld (.tok 0) 0))), (.rng .i64 (.add (.fld (.call 0 0 [(.tok 0), (.tok 1)]) 1) (.lit (.i 1))))] (.br (.or (.lt (.fld (.get (.fld (.tok 0) 0) (.add (.fld (.call 2 0 [(.tok 0), (.tok 2)]) 1) (.lit (.i 1)))) 1) (.fld (.get (.fld (.tok 0) 0) (.add (.fld (.call 0 0 [(.tok 0), (.tok 1)]) 1) (.lit (.i 1)))) 1)) (.and (.eq (.fld (.get (.fld (.tok 0) 0) (.add (.fld (.call 0 0 [(.tok 0), (.tok 1)]) 1) (.lit (.i 1)))) 1) (.fld (.get (.fld (.tok 0) 0) (.add (.fld (.call 2 0 [(.tok 0), (.tok 2)]) 1) (.lit (.i 1)))) 1)) (.lt (.fld (.call 2 0 [(.tok 0), (.tok 2)]) 1) (.fld (.call 0 0 [(.tok 0), (.tok 1)]) 1)))) (.need [(.ok 4 [(.tok 0), (.fld (.call 0 0 [(.tok 0), (.tok 1)]) 1), (.call 2 0 [(.tok 0), (.tok 2)])])] (.leaf [(.lit (.i 0)), (.call 4 0 [(.tok 0), (.fld (.call 0 0 [(.tok 0), (.tok 1)]) 1), (.call 2 0 [(.tok 0), (.tok 2)])])])) (.need [(.ok 4 [(.tok 0), (.fld (.call 2 0 [(.tok 0), (.tok 2)]) 1), (.call 0 0 [(.tok 0), (.tok 1)])])] (.leaf [(.lit (.i 0)), (.call 4 0 [(.tok 0), (.fld (.call 2 0 [(.tok 0), (.tok 2)]) 1), (.call 0 0 [(.tok 0), (.tok 1)])])])))) (.need [(.ok 4 [(.tok 0), (.fld (.call 0 0 [(.tok 0), (.tok 1)]) 1), (.call 2 0 [(.tok 0), (.tok 2)])])] (.leaf [(.lit (.i 0)), (.call 4 0 [(.tok 0), (.fld (.call 0 0 [(.tok 0), (.tok 1)]) 1), (.call 2 0 [(.tok 0), (.tok 2)])])])))))))))
set_option maxRecDepth 100000 in
theorem code_ref32_Bind (g0 g1 g2 g3 g4 : List D → Option (List D)) : ∀ cd, Try.f90.body = some cd → treeOf Try.prog [(q16, g0), (q05, g1), (q0m, g2), (q0t, g3), (q1v, g4)] ann_ref32_Bind q1w Try.f90 cd = q3v := by
  intro cd h
  injection h with h
  subst h
  kernel_rfl
theorem fok_ref32_Bind {g0 g1 g2 g3 g4 : List D → Option (List D)} {g : List D → Option (List D)} (h0 : FOk q16 g0) (h1 : FOk q05 g1) (h2 : FOk q0m g2) (h3 : FOk q0t g3) (h4 : FOk q1v g4) (h : ∀ ds outs, WfA q1w.ars ds → g ds = some outs → q3v.go (tblS [(q16, g0), (q05, g1), (q0m, g2), (q0t, g3), (q1v, g4)]) (fun o => o = outs) ds fun _ _ => False) : FOk q1w g :=
  q0a ann_ref32_Bind Try.f90 _ (.cons h0 (.cons h1 (.cons h2 (.cons h3 (.cons h4 .nil))))) rfl rfl enter_ref32_Bind (by decide) fun ds outs hw hg => by rw [code_ref32_Bind g0 g1 g2 g3 g4 _ rfl]; exact h ds outs hw hg

def q1x : Ct := ⟨63, [.ref (.st 26), .val (.st 28), .val (.st 28)], [(.bool, false)], [], none⟩
theorem enter_ref33_bind (args : Array Value) (w : World) : (callFunc q1x.f args).run Try.prog w = .ok (.enter q1x.f args) w := by kernel_rfl
def ann_ref33_bind : Ann := ⟨[0, 1, 2, 4, 5, 6, 7, 29, 44, 54, 64, 73], []⟩
def q3q : Tree := (.br (.and (.and (.eq (.fld (.tok 1) 0) (.lit (.i 0))) (.eq (.fld (.tok 2) 0) (.lit (.i 0)))) (.lt (.fld (.tok 2) 1) (.fld (.tok 1) 1))) (.need [(.ok 0 [(.tok 0), (.fld (.tok 1) 1), (.tok 2)])] (.leaf [(.eq (.call 0 0 [(.tok 0), (.fld (.tok 1) 1), (.tok 2)]) (.lit (.i 0))), (.call 0 1 [(.tok 0), (.fld (.tok 1) 1), (.tok 2)])])) (.br (.and (.eq (.fld (.tok 1) 0) (.lit (.i 0))) (.eq (.fld (.tok 2) 0) (.lit (.i 0)))) (.need [(.ok 0 [(.tok 0), (.fld (.tok 2) 1), (.tok 1)])] (.leaf [(.eq (.call 0 0 [(.tok 0), (.fld (.tok 2) 1), (.tok 1)]) (.lit (.i 0))), (.call 0 1 [(.tok 0), (.fld (.tok 2) 1), (.tok 1)])])) (.br (.eq (.fld (.tok 1) 0) (.lit (.i 0))) (.need [(.ok 0 [(.tok 0), (.fld (.tok 1) 1), (.tok 2)])] (.leaf [(.eq (.call 0 0 [(.tok 0), (.fld (.tok 1) 1), (.tok 2)]) (.lit (.i 0))), (.call 0 1 [(.tok 0), (.fld (.tok 1) 1), (.tok 2)])])) (.br (.eq (.fld (.tok 2) 0) (.lit (.i 0))) (.need [(.ok 0 [(.tok 0), (.fld (.tok 2) 1), (.tok 1)])] (.leaf [(.eq (.call 0 0 [(.tok 0), (.fld (.tok 2) 1), (.tok 1)]) (.lit (.i 0))), (.call 0 1 [(.tok 0), (.fld (.tok 2) 1), (.tok 1)])])) (.br (.eq (.fld (.tok 1) 0) (.lit (.i 5))) (.need [(.ok 1 [(.tok 0), (.tok 1), (.tok 2)])] (.leaf [(.eq (.call 1 0 [(.tok 0), (.tok 1), (.tok 2)]) (.lit (.i 0))), (.call 1 1 [(.tok 0), (.tok 1), (.tok 2)])])) (.br (.eq (.fld (.tok 2) 0) (.lit (.i 5))) (.need [(.ok 1 [(.tok 0), (.tok 2), (.tok 1)])] (.leaf [(.eq (.call 1 0 [(.tok 0), (.tok 2), (.tok 1)]) (.lit (.i 0))), (.call 1 1 [(.tok 0), (.tok 2), (.tok 1)])])) (.leaf [(.lit (.b .false)), (.tok 0)])))))))
set_option maxRecDepth 100000 in
theorem code_ref33_bind (g0 g1 : List D → Option (List D)) : ∀ cd, Try.f63.body = some cd → treeOf Try.prog [(q0t, g0), (q1w, g1)] ann_ref33_bind q1x Try.f63 cd = q3q := by
  intro cd h
  injection h with h
  subst h
  kernel_rfl
theorem fok_ref33_bind {g0 g1 : List D → Option (List D)} {g : List D → Option (List D)} (h0 : FOk q0t g0) (h1 : FOk q1w g1) (h : ∀ ds outs, WfA q1x.ars ds → g ds = some outs → q3q.go (tblS [(q0t, g0), (q1w, g1)]) (fun o => o = outs) ds fun _ _ => False) : FOk q1x g :=
  q0a ann_ref33_bind Try.f63 _ (.cons h0 (.cons h1 .nil)) rfl rfl enter_ref33_bind (by decide) fun ds outs hw hg => by rw [code_ref33_bind g0 g1 _ rfl]; exact h ds outs hw hg

def q0p : Ct := ⟨64, [.val (.st 26), .val (.st 28)], [(.int .i64, false)], [], none⟩
theorem enter_ref33_functor (args : Array Value) (w : World) : (callFunc q0p.f args).run Try.prog w = .ok (.enter q0p.f args) w := by kernel_rfl
def ann_ref33_functor : Ann := ⟨[0, 1, 2, 3, 4, 30], []⟩
def q2t : Tree := (.need [(.imp (.not (.or (.or (.not (.eq (.fld (.tok 1) 0) (.lit (.i 3)))) (.lt (.fld (.tok 1) 1) (.lit (.i 0)))) (.le (.len (.fld (.tok 0) 0)) (.fld (.tok 1) 1)))) (.le (.lit (.i 0)) (.fld (.tok 1) 1))), (.imp (.not (.or (.or (.not (.eq (.fld (.tok 1) 0) (.lit (.i 3)))) (.lt (.fld (.tok 1) 1) (.lit (.i 0)))) (.le (.len (.fld (.tok 0) 0)) (.fld (.tok 1) 1)))) (.lt (.fld (.tok 1) 1) (.len (.fld (.tok 0) 0))))] (.br (.or (.or (.or (.not (.eq (.fld (.tok 1) 0) (.lit (.i 3)))) (.lt (.fld (.tok 1) 1) (.lit (.i 0)))) (.le (.len (.fld (.tok 0) 0)) (.fld (.tok 1) 1))) (.not (.eq (.fld (.get (.fld (.tok 0) 0) (.fld (.tok 1) 1)) 0) (.lit (.i 4))))) (.leaf [(.lit (.i (-1)))]) (.need [(.le (.lit (.i 0)) (.fld (.tok 1) 1)), (.lt (.fld (.tok 1) 1) (.len (.fld (.tok 0) 0)))] (.leaf [(.fld (.get (.fld (.tok 0) 0) (.fld (.tok 1) 1)) 1)]))))
set_option maxRecDepth 100000 in
theorem code_ref33_functor : ∀ cd, Try.f64.body = some cd → treeOf Try.prog [] ann_ref33_functor q0p Try.f64 cd = q2t := by
  intro cd h
  injection h with h
  subst h
  kernel_rfl
theorem fok_ref33_functor {g : List D → Option (List D)}  (h : ∀ ds outs, WfA q0p.ars ds → g ds = some outs → q2t.go (tblS []) (fun o => o = outs) ds fun _ _ => False) : FOk q0p g :=
  q0a ann_ref33_functor Try.f64 _ .nil rfl rfl enter_ref33_functor (by decide) fun ds outs hw hg => by rw [code_ref33_functor  _ rfl]; exact h ds outs hw hg

def q10 : Ct := ⟨65, [.val (.st 26), .val (.st 28), .val (.st 28)], [(.row 99, true)], [], none⟩
theorem enter_ref33_arguments (args : Array Value) (w : World) : (callFunc q10.f args).run Try.prog w = .ok (.enter q10.f args) w := by kernel_rfl
def q41 : Ann := ⟨[0, 1, 2, 3, 4, 5, 6, 7, 8, 9, 10, 22, 31, 51], [(7, ⟨[(9, .row 99, false), (10, .int .i64, false)], [], [30, 31, 34, 35, 36, 37, 38, 39, 40, 41, 42, 43, 44, 45, 46, 47, 48, 49, 50, 51, 52, 53, 54, 55, 56, 57, 58, 59, 60, 61, 62, 63, 64, 65, 66, 67, 68, 69, 70, 71, 32, 33], []⟩)]⟩
def q2e : Tree := (.need [(.ok 0 [(.tok 0), (.tok 1)])] (.br (.and (.le (.lit (.i 0)) (.call 0 0 [(.tok 0), (.tok 1)])) (.lt (.call 0 0 [(.tok 0), (.tok 1)]) (.len (.fld (.tok 0) 1)))) (.need [(.le (.lit (.i 0)) (.call 0 0 [(.tok 0), (.tok 1)])), (.lt (.call 0 0 [(.tok 0), (.tok 1)]) (.len (.fld (.tok 0) 1)))] (.loop 7 3 [(.lit (.r [])), (.fld (.get (.fld (.tok 0) 1) (.call 0 0 [(.tok 0), (.tok 1)])) 1)] (.br (.le (.lit (.i 1)) (.tok 4)) (.need [(.rng .i64 (.add (.fld (.tok 1) 1) (.tok 4))), (.imp (.lt (.add (.fld (.tok 1) 1) (.tok 4)) (.len (.fld (.tok 0) 0))) (.rng .i64 (.add (.fld (.tok 2) 1) (.tok 4))))] (.br (.and (.lt (.add (.fld (.tok 1) 1) (.tok 4)) (.len (.fld (.tok 0) 0))) (.lt (.add (.fld (.tok 2) 1) (.tok 4)) (.len (.fld (.tok 0) 0)))) (.need [(.le (.add (.len (.tok 3)) (.lit (.i 1))) (.lit (.i 4398046510976))), (.le (.lit (.i 0)) (.add (.fld (.tok 2) 1) (.tok 4))), (.lt (.add (.fld (.tok 2) 1) (.tok 4)) (.len (.fld (.tok 0) 0))), (.rng .i64 (.add (.fld (.tok 2) 1) (.tok 4))), (.le (.lit (.i 0)) (.add (.fld (.tok 1) 1) (.tok 4))), (.lt (.add (.fld (.tok 1) 1) (.tok 4)) (.len (.fld (.tok 0) 0))), (.rng .i64 (.add (.fld (.tok 1) 1) (.tok 4)))] (.need [(.rng .i64 (.sub (.tok 4) (.lit (.i 1))))] (.back 7 [(.app (.tok 3) (.row [(.mk [(.get (.fld (.tok 0) 0) (.add (.fld (.tok 1) 1) (.tok 4))), (.get (.fld (.tok 0) 0) (.add (.fld (.tok 2) 1) (.tok 4)))])])), (.sub (.tok 4) (.lit (.i 1)))]))) (.need [(.rng .i64 (.sub (.tok 4) (.lit (.i 1))))] (.back 7 [(.tok 3), (.sub (.tok 4) (.lit (.i 1)))])))) (.leaf [(.tok 3)])))) (.loop 7 3 [(.lit (.r [])), (.lit (.i 0))] (.br (.le (.lit (.i 1)) (.tok 4)) (.need [(.rng .i64 (.add (.fld (.tok 1) 1) (.tok 4))), (.imp (.lt (.add (.fld (.tok 1) 1) (.tok 4)) (.len (.fld (.tok 0) 0))) (.rng .i64 (.add (.fld (.tok 2) 1) (.tok 4))))] (.br (.and (.lt (.add (.fld (.tok 1) 1) (.tok 4)) (.len (.fld (.tok 0) 0))) (.lt (.add (.fld (.tok 2) 1) (.tok 4)) (.len (.fld (.tok 0) 0)))) (.need [(.le (.add (.len (.tok 3)) (.lit (.i 1))) (.lit (.i 4398046510976))), (.le (.lit (.i 0)) (.add (.fld (.tok 2) 1) (.tok 4))), (.lt (.add (.fld (.tok 2) 1) (.tok 4)) (.len (.fld (.tok 0) 0))), (.rng .i64 (.add (.fld (.tok 2) 1) (.tok 4))), (.le (.lit (.i 0)) (.add (.fld (.tok 1) 1) (.tok 4))), (.lt (.add (.fld (.tok 1) 1) (.tok 4)) (.len (.fld (.tok 0) 0))), (.rng .i64 (.add (.fld (.tok 1) 1) (.tok 4)))] (.need [(.rng .i64 (.sub (.tok 4) (.lit (.i 1))))] (.back 7 [(.app (.tok 3) (.row [(.mk [(.get (.fld (.tok 0) 0) (.add (.fld (.tok 1) 1) (.tok 4))), (.get (.fld (.tok 0) 0) (.add (.fld (.tok 2) 1) (.tok 4)))])])), (.sub (.tok 4) (.lit (.i 1)))]))) (.need [(.rng .i64 (.sub (.tok 4) (.lit (.i 1))))] (.back 7 [(.tok 3), (.sub (.tok 4) (.lit (.i 1)))])))) (.leaf [(.tok 3)])))))
set_option maxRecDepth 100000 in
theorem code_ref33_arguments (g0 : List D → Option (List D)) : ∀ cd, Try.f65.body = some cd → treeOf Try.prog [(q0p, g0)] q41 q10 Try.f65 cd = q2e := by
  intro cd h
  injection h with h
  subst h
  kernel_rfl
theorem fok_ref33_arguments {g0 : List D → Option (List D)} {g : List D → Option (List D)} (h0 : FOk q0p g0) (h : ∀ ds outs, WfA q10.ars ds → g ds = some outs → q2e.go (tblS [(q0p, g0)]) (fun o => o = outs) ds fun _ _ => False) : FOk q10 g :=
  q0a q41 Try.f65 _ (.cons h0 .nil) rfl rfl enter_ref33_arguments (by decide) fun ds outs hw hg => by rw [code_ref33_arguments g0 _ rfl]; exact h ds outs hw hg

def q0o : Ct := ⟨33, [.ref (.st 26), .val (.st 28), .val (.st 28), .val (.bool)], [(.int .i64, false)], [], none⟩
theorem enter_ref33_process (args : Array Value) (w : World) : (callFunc q0o.f args).run Try.prog w = .ok (.enter q0o.f args) w := by kernel_rfl
def ann_ref33_process : Ann := ⟨[0, 1, 2, 3, 5, 6, 8, 9, 10, 11, 12, 13, 20, 24, 50, 57, 76], [(3, ⟨[(8, .int .i64, false), (9, .row 99, false), (10, .int .i64, false)], [0], [18, 19, 20, 23, 24, 25, 26, 27, 28, 29, 30, 11, 31, 32, 33, 34, 35, 36, 37, 38, 39, 40, 41, 42, 43, 44, 45, 46, 47, 12, 13, 48, 49, 50, 51, 52, 53, 54, 55, 56, 57, 58, 59, 60, 61, 62, 63, 64, 65, 66, 67, 68, 69, 70, 71, 72, 73, 74, 75, 76, 77, 78, 79, 80, 81, 82, 83, 84, 21, 22], []⟩)]⟩
def q2p : Tree := (.loop 3 4 [(.lit (.i 0)), (.row [(.mk [(.tok 1), (.tok 2)])]), (.lit (.i 0)), (.tok 0)] (.br (.lt (.lit (.i 0)) (.len (.tok 5))) (.br (.eq (.tok 6) (.lit (.i 1048576))) (.leaf [(.lit (.i 2)), (.tok 7)]) (.need [(.rng .i64 (.sub (.len (.tok 5)) (.lit (.i 1)))), (.le (.lit (.i 0)) (.sub (.len (.tok 5)) (.lit (.i 1)))), (.lt (.sub (.len (.tok 5)) (.lit (.i 1))) (.len (.tok 5)))] (.need [(.rng .i64 (.sub (.len (.tok 5)) (.lit (.i 1)))), (.le (.lit (.i 0)) (.sub (.len (.tok 5)) (.lit (.i 1)))), (.le (.sub (.len (.tok 5)) (.lit (.i 1))) (.len (.tok 5)))] (.need [(.ok 0 [(.tok 7), (.fld (.get (.tok 5) (.sub (.len (.tok 5)) (.lit (.i 1)))) 1)]), (.ok 0 [(.tok 7), (.fld (.get (.tok 5) (.sub (.len (.tok 5)) (.lit (.i 1)))) 1)]), (.ok 0 [(.tok 7), (.fld (.get (.tok 5) (.sub (.len (.tok 5)) (.lit (.i 1)))) 0)]), (.ok 0 [(.tok 7), (.fld (.get (.tok 5) (.sub (.len (.tok 5)) (.lit (.i 1)))) 0)]), (.ok 0 [(.tok 7), (.fld (.get (.tok 5) (.sub (.len (.tok 5)) (.lit (.i 1)))) 0)])] (.br (.eq (.call 0 0 [(.tok 7), (.fld (.get (.tok 5) (.sub (.len (.tok 5)) (.lit (.i 1)))) 0)]) (.call 0 0 [(.tok 7), (.fld (.get (.tok 5) (.sub (.len (.tok 5)) (.lit (.i 1)))) 1)])) (.need [(.rng .i64 (.add (.tok 6) (.lit (.i 1))))] (.back 3 [(.tok 4), (.cut (.tok 5) (.lit (.i 0)) (.sub (.len (.tok 5)) (.lit (.i 1)))), (.add (.tok 6) (.lit (.i 1))), (.tok 7)])) (.need [(.imp (.tok 3) (.ok 1 [(.tok 7), (.call 0 0 [(.tok 7), (.fld (.get (.tok 5) (.sub (.len (.tok 5)) (.lit (.i 1)))) 0)]), (.call 0 0 [(.tok 7), (.fld (.get (.tok 5) (.sub (.len (.tok 5)) (.lit (.i 1)))) 1)])]))] (.br (.and (.tok 3) (.call 1 0 [(.tok 7), (.call 0 0 [(.tok 7), (.fld (.get (.tok 5) (.sub (.len (.tok 5)) (.lit (.i 1)))) 0)]), (.call 0 0 [(.tok 7), (.fld (.get (.tok 5) (.sub (.len (.tok 5)) (.lit (.i 1)))) 1)])])) (.need [(.rng .i64 (.add (.tok 6) (.lit (.i 1))))] (.back 3 [(.tok 4), (.cut (.tok 5) (.lit (.i 0)) (.sub (.len (.tok 5)) (.lit (.i 1)))), (.add (.tok 6) (.lit (.i 1))), (.ite (.tok 3) (.call 1 1 [(.tok 7), (.call 0 0 [(.tok 7), (.fld (.get (.tok 5) (.sub (.len (.tok 5)) (.lit (.i 1)))) 0)]), (.call 0 0 [(.tok 7), (.fld (.get (.tok 5) (.sub (.len (.tok 5)) (.lit (.i 1)))) 1)])]) (.tok 7))])) (.need [(.imp (.not (.lt (.call 2 0 [(.ite (.tok 3) (.call 1 1 [(.tok 7), (.call 0 0 [(.tok 7), (.fld (.get (.tok 5) (.sub (.len (.tok 5)) (.lit (.i 1)))) 0)]), (.call 0 0 [(.tok 7), (.fld (.get (.tok 5) (.sub (.len (.tok 5)) (.lit (.i 1)))) 1)])]) (.tok 7)), (.call 0 0 [(.tok 7), (.fld (.get (.tok 5) (.sub (.len (.tok 5)) (.lit (.i 1)))) 0)])]) (.lit (.i 0)))) (.ok 2 [(.ite (.tok 3) (.call 1 1 [(.tok 7), (.call 0 0 [(.tok 7), (.fld (.get (.tok 5) (.sub (.len (.tok 5)) (.lit (.i 1)))) 0)]), (.call 0 0 [(.tok 7), (.fld (.get (.tok 5) (.sub (.len (.tok 5)) (.lit (.i 1)))) 1)])]) (.tok 7)), (.call 0 0 [(.tok 7), (.fld (.get (.tok 5) (.sub (.len (.tok 5)) (.lit (.i 1)))) 1)])])), (.imp (.not (.lt (.call 2 0 [(.ite (.tok 3) (.call 1 1 [(.tok 7), (.call 0 0 [(.tok 7), (.fld (.get (.tok 5) (.sub (.len (.tok 5)) (.lit (.i 1)))) 0)]), (.call 0 0 [(.tok 7), (.fld (.get (.tok 5) (.sub (.len (.tok 5)) (.lit (.i 1)))) 1)])]) (.tok 7)), (.call 0 0 [(.tok 7), (.fld (.get (.tok 5) (.sub (.len (.tok 5)) (.lit (.i 1)))) 0)])]) (.lit (.i 0)))) (.ok 2 [(.ite (.tok 3) (.call 1 1 [(.tok 7), (.call 0 0 [(.tok 7), (.fld (.get (.tok 5) (.sub (.len (.tok 5)) (.lit (.i 1)))) 0)]), (.call 0 0 [(.tok 7), (.fld (.get (.tok 5) (.sub (.len (.tok 5)) (.lit (.i 1)))) 1)])]) (.tok 7)), (.call 0 0 [(.tok 7), (.fld (.get (.tok 5) (.sub (.len (.tok 5)) (.lit (.i 1)))) 0)])])), (.imp (.not (.lt (.call 2 0 [(.ite (.tok 3) (.call 1 1 [(.tok 7), (.call 0 0 [(.tok 7), (.fld (.get (.tok 5) (.sub (.len (.tok 5)) (.lit (.i 1)))) 0)]), (.call 0 0 [(.tok 7), (.fld (.get (.tok 5) (.sub (.len (.tok 5)) (.lit (.i 1)))) 1)])]) (.tok 7)), (.call 0 0 [(.tok 7), (.fld (.get (.tok 5) (.sub (.len (.tok 5)) (.lit (.i 1)))) 0)])]) (.lit (.i 0)))) (.ok 2 [(.ite (.tok 3) (.call 1 1 [(.tok 7), (.call 0 0 [(.tok 7), (.fld (.get (.tok 5) (.sub (.len (.tok 5)) (.lit (.i 1)))) 0)]), (.call 0 0 [(.tok 7), (.fld (.get (.tok 5) (.sub (.len (.tok 5)) (.lit (.i 1)))) 1)])]) (.tok 7)), (.call 0 0 [(.tok 7), (.fld (.get (.tok 5) (.sub (.len (.tok 5)) (.lit (.i 1)))) 0)])])), (.imp (.not (.lt (.call 2 0 [(.ite (.tok 3) (.call 1 1 [(.tok 7), (.call 0 0 [(.tok 7), (.fld (.get (.tok 5) (.sub (.len (.tok 5)) (.lit (.i 1)))) 0)]), (.call 0 0 [(.tok 7), (.fld (.get (.tok 5) (.sub (.len (.tok 5)) (.lit (.i 1)))) 1)])]) (.tok 7)), (.call 0 0 [(.tok 7), (.fld (.get (.tok 5) (.sub (.len (.tok 5)) (.lit (.i 1)))) 0)])]) (.lit (.i 0)))) (.ok 2 [(.ite (.tok 3) (.call 1 1 [(.tok 7), (.call 0 0 [(.tok 7), (.fld (.get (.tok 5) (.sub (.len (.tok 5)) (.lit (.i 1)))) 0)]), (.call 0 0 [(.tok 7), (.fld (.get (.tok 5) (.sub (.len (.tok 5)) (.lit (.i 1)))) 1)])]) (.tok 7)), (.call 0 0 [(.tok 7), (.fld (.get (.tok 5) (.sub (.len (.tok 5)) (.lit (.i 1)))) 0)])])), (.imp (.not (.lt (.call 2 0 [(.ite (.tok 3) (.call 1 1 [(.tok 7), (.call 0 0 [(.tok 7), (.fld (.get (.tok 5) (.sub (.len (.tok 5)) (.lit (.i 1)))) 0)]), (.call 0 0 [(.tok 7), (.fld (.get (.tok 5) (.sub (.len (.tok 5)) (.lit (.i 1)))) 1)])]) (.tok 7)), (.call 0 0 [(.tok 7), (.fld (.get (.tok 5) (.sub (.len (.tok 5)) (.lit (.i 1)))) 0)])]) (.lit (.i 0)))) (.ok 2 [(.ite (.tok 3) (.call 1 1 [(.tok 7), (.call 0 0 [(.tok 7), (.fld (.get (.tok 5) (.sub (.len (.tok 5)) (.lit (.i 1)))) 0)]), (.call 0 0 [(.tok 7), (.fld (.get (.tok 5) (.sub (.len (.tok 5)) (.lit (.i 1)))) 1)])]) (.tok 7)), (.call 0 0 [(.tok 7), (.fld (.get (.tok 5) (.sub (.len (.tok 5)) (.lit (.i 1)))) 0)])])), (.imp (.not (.lt (.call 2 0 [(.ite (.tok 3) (.call 1 1 [(.tok 7), (.call 0 0 [(.tok 7), (.fld (.get (.tok 5) (.sub (.len (.tok 5)) (.lit (.i 1)))) 0)]), (.call 0 0 [(.tok 7), (.fld (.get (.tok 5) (.sub (.len (.tok 5)) (.lit (.i 1)))) 1)])]) (.tok 7)), (.call 0 0 [(.tok 7), (.fld (.get (.tok 5) (.sub (.len (.tok 5)) (.lit (.i 1)))) 0)])]) (.lit (.i 0)))) (.ok 2 [(.ite (.tok 3) (.call 1 1 [(.tok 7), (.call 0 0 [(.tok 7), (.fld (.get (.tok 5) (.sub (.len (.tok 5)) (.lit (.i 1)))) 0)]), (.call 0 0 [(.tok 7), (.fld (.get (.tok 5) (.sub (.len (.tok 5)) (.lit (.i 1)))) 1)])]) (.tok 7)), (.call 0 0 [(.tok 7), (.fld (.get (.tok 5) (.sub (.len (.tok 5)) (.lit (.i 1)))) 0)])])), (.ok 2 [(.ite (.tok 3) (.call 1 1 [(.tok 7), (.call 0 0 [(.tok 7), (.fld (.get (.tok 5) (.sub (.len (.tok 5)) (.lit (.i 1)))) 0)]), (.call 0 0 [(.tok 7), (.fld (.get (.tok 5) (.sub (.len (.tok 5)) (.lit (.i 1)))) 1)])]) (.tok 7)), (.call 0 0 [(.tok 7), (.fld (.get (.tok 5) (.sub (.len (.tok 5)) (.lit (.i 1)))) 0)])])] (.br (.or (.lt (.call 2 0 [(.ite (.tok 3) (.call 1 1 [(.tok 7), (.call 0 0 [(.tok 7), (.fld (.get (.tok 5) (.sub (.len (.tok 5)) (.lit (.i 1)))) 0)]), (.call 0 0 [(.tok 7), (.fld (.get (.tok 5) (.sub (.len (.tok 5)) (.lit (.i 1)))) 1)])]) (.tok 7)), (.call 0 0 [(.tok 7), (.fld (.get (.tok 5) (.sub (.len (.tok 5)) (.lit (.i 1)))) 0)])]) (.lit (.i 0))) (.not (.eq (.call 2 0 [(.ite (.tok 3) (.call 1 1 [(.tok 7), (.call 0 0 [(.tok 7), (.fld (.get (.tok 5) (.sub (.len (.tok 5)) (.lit (.i 1)))) 0)]), (.call 0 0 [(.tok 7), (.fld (.get (.tok 5) (.sub (.len (.tok 5)) (.lit (.i 1)))) 1)])]) (.tok 7)), (.call 0 0 [(.tok 7), (.fld (.get (.tok 5) (.sub (.len (.tok 5)) (.lit (.i 1)))) 0)])]) (.call 2 0 [(.ite (.tok 3) (.call 1 1 [(.tok 7), (.call 0 0 [(.tok 7), (.fld (.get (.tok 5) (.sub (.len (.tok 5)) (.lit (.i 1)))) 0)]), (.call 0 0 [(.tok 7), (.fld (.get (.tok 5) (.sub (.len (.tok 5)) (.lit (.i 1)))) 1)])]) (.tok 7)), (.call 0 0 [(.tok 7), (.fld (.get (.tok 5) (.sub (.len (.tok 5)) (.lit (.i 1)))) 1)])])))) (.leaf [(.lit (.i 4)), (.ite (.tok 3) (.call 1 1 [(.tok 7), (.call 0 0 [(.tok 7), (.fld (.get (.tok 5) (.sub (.len (.tok 5)) (.lit (.i 1)))) 0)]), (.call 0 0 [(.tok 7), (.fld (.get (.tok 5) (.sub (.len (.tok 5)) (.lit (.i 1)))) 1)])]) (.tok 7))]) (.need [(.le (.add (.len (.cut (.tok 5) (.lit (.i 0)) (.sub (.len (.tok 5)) (.lit (.i 1))))) (.len (.call 3 0 [(.ite (.tok 3) (.call 1 1 [(.tok 7), (.call 0 0 [(.tok 7), (.fld (.get (.tok 5) (.sub (.len (.tok 5)) (.lit (.i 1)))) 0)]), (.call 0 0 [(.tok 7), (.fld (.get (.tok 5) (.sub (.len (.tok 5)) (.lit (.i 1)))) 1)])]) (.tok 7)), (.call 0 0 [(.tok 7), (.fld (.get (.tok 5) (.sub (.len (.tok 5)) (.lit (.i 1)))) 0)]), (.call 0 0 [(.tok 7), (.fld (.get (.tok 5) (.sub (.len (.tok 5)) (.lit (.i 1)))) 1)])]))) (.lit (.i 4398046510976))), (.ok 3 [(.ite (.tok 3) (.call 1 1 [(.tok 7), (.call 0 0 [(.tok 7), (.fld (.get (.tok 5) (.sub (.len (.tok 5)) (.lit (.i 1)))) 0)]), (.call 0 0 [(.tok 7), (.fld (.get (.tok 5) (.sub (.len (.tok 5)) (.lit (.i 1)))) 1)])]) (.tok 7)), (.call 0 0 [(.tok 7), (.fld (.get (.tok 5) (.sub (.len (.tok 5)) (.lit (.i 1)))) 0)]), (.call 0 0 [(.tok 7), (.fld (.get (.tok 5) (.sub (.len (.tok 5)) (.lit (.i 1)))) 1)])])] (.need [(.rng .i64 (.add (.tok 6) (.lit (.i 1))))] (.back 3 [(.tok 4), (.app (.cut (.tok 5) (.lit (.i 0)) (.sub (.len (.tok 5)) (.lit (.i 1)))) (.call 3 0 [(.ite (.tok 3) (.call 1 1 [(.tok 7), (.call 0 0 [(.tok 7), (.fld (.get (.tok 5) (.sub (.len (.tok 5)) (.lit (.i 1)))) 0)]), (.call 0 0 [(.tok 7), (.fld (.get (.tok 5) (.sub (.len (.tok 5)) (.lit (.i 1)))) 1)])]) (.tok 7)), (.call 0 0 [(.tok 7), (.fld (.get (.tok 5) (.sub (.len (.tok 5)) (.lit (.i 1)))) 0)]), (.call 0 0 [(.tok 7), (.fld (.get (.tok 5) (.sub (.len (.tok 5)) (.lit (.i 1)))) 1)])])), (.add (.tok 6) (.lit (.i 1))), (.ite (.tok 3) (.call 1 1 [(.tok 7), (.call 0 0 [(.tok 7), (.fld (.get (.tok 5) (.sub (.len (.tok 5)) (.lit (.i 1)))) 0)]), (.call 0 0 [(.tok 7), (.fld (.get (.tok 5) (.sub (.len (.tok 5)) (.lit (.i 1)))) 1)])]) (.tok 7))])))))))))))) (.leaf [(.lit (.i 0)), (.tok 7)])))
set_option maxRecDepth 100000 in
theorem code_ref33_process (g0 g1 g2 g3 : List D → Option (List D)) : ∀ cd, Try.f33.body = some cd → treeOf Try.prog [(q0m, g0), (q1x, g1), (q0p, g2), (q10, g3)] ann_ref33_process q0o Try.f33 cd = q2p := by
  intro cd h
  injection h with h
  subst h
  kernel_rfl
theorem fok_ref33_process {g0 g1 g2 g3 : List D → Option (List D)} {g : List D → Option (List D)} (h0 : FOk q0m g0) (h1 : FOk q1x g1) (h2 : FOk q0p g2) (h3 : FOk q10 g3) (h : ∀ ds outs, WfA q0o.ars ds → g ds = some outs → q2p.go (tblS [(q0m, g0), (q1x, g1), (q0p, g2), (q10, g3)]) (fun o => o = outs) ds fun _ _ => False) : FOk q0o g :=
  q0a ann_ref33_process Try.f33 _ (.cons h0 (.cons h1 (.cons h2 (.cons h3 .nil)))) rfl rfl enter_ref33_process (by decide) fun ds outs hw hg => by rw [code_ref33_process g0 g1 g2 g3 _ rfl]; exact h ds outs hw hg

def q1o : Ct := ⟨11, [.ref (.st 26), .val (.st 28), .val (.st 28)], [(.int .i64, false)], [], none⟩
theorem enter_ref33_Unify (args : Array Value) (w : World) : (callFunc q1o.f args).run Try.prog w = .ok (.enter q1o.f args) w := by kernel_rfl
def ann_ref33_Unify : Ann := ⟨[0, 1, 2, 4, 5, 6, 7, 8, 26, 35], []⟩
def q3c : Tree := (.need [(.imp (.not (.not (.call 0 0 [(.tok 0), (.tok 1)]))) (.ok 0 [(.tok 0), (.tok 2)])), (.ok 0 [(.tok 0), (.tok 1)])] (.br (.or (.not (.call 0 0 [(.tok 0), (.tok 1)])) (.not (.call 0 0 [(.tok 0), (.tok 2)]))) (.leaf [(.lit (.i 1)), (.tok 0)]) (.need [(.ok 1 [(.tok 0)])] (.need [(.ok 2 [(.call 1 0 [(.tok 0)]), (.tok 1), (.tok 2), (.lit (.b .true))])] (.br (.eq (.call 2 0 [(.call 1 0 [(.tok 0)]), (.tok 1), (.tok 2), (.lit (.b .true))]) (.lit (.i 0))) (.leaf [(.call 2 0 [(.call 1 0 [(.tok 0)]), (.tok 1), (.tok 2), (.lit (.b .true))]), (.call 2 1 [(.call 1 0 [(.tok 0)]), (.tok 1), (.tok 2), (.lit (.b .true))])]) (.leaf [(.call 2 0 [(.call 1 0 [(.tok 0)]), (.tok 1), (.tok 2), (.lit (.b .true))]), (.tok 0)]))))))
set_option maxRecDepth 100000 in
theorem code_ref33_Unify (g0 g1 g2 : List D → Option (List D)) : ∀ cd, Try.f11.body = some cd → treeOf Try.prog [(q05, g0), (q0c, g1), (q0o, g2)] ann_ref33_Unify q1o Try.f11 cd = q3c := by
  intro cd h
  injection h with h
  subst h
  kernel_rfl
theorem fok_ref33_Unify {g0 g1 g2 : List D → Option (List D)} {g : List D → Option (List D)} (h0 : FOk q05 g0) (h1 : FOk q0c g1) (h2 : FOk q0o g2) (h : ∀ ds outs, WfA q1o.ars ds → g ds = some outs → q3c.go (tblS [(q05, g0), (q0c, g1), (q0o, g2)]) (fun o => o = outs) ds fun _ _ => False) : FOk q1o g :=
  q0a ann_ref33_Unify Try.f11 _ (.cons h0 (.cons h1 (.cons h2 .nil))) rfl rfl enter_ref33_Unify (by decide) fun ds outs hw hg => by rw [code_ref33_Unify g0 g1 g2 _ rfl]; exact h ds outs hw hg

def q0q : Ct := ⟨12, [.val (.st 26), .val (.st 26)], [(.bool, false)], [], none⟩
theorem enter_ref30_Same (args : Array Value) (w : World) : (callFunc q0q.f args).run Try.prog w = .ok (.enter q0q.f args) w := by kernel_rfl
def ann_ref30_Same : Ann := ⟨[0, 1, 2, 3, 4, 5, 6, 7, 8, 56, 61, 74, 79, 92, 97, 110, 115, 128], [(4, ⟨[(4, .bool, false), (5, .int .i64, false)], [], [57, 58, 59, 60, 61, 64, 65, 66, 67, 68, 69, 70, 71, 72, 73, 74, 62, 63], []⟩),
  (9, ⟨[(4, .bool, false), (6, .int .i64, false)], [], [75, 76, 77, 78, 79, 82, 83, 84, 85, 86, 87, 88, 89, 90, 91, 92, 80, 81], []⟩),
  (14, ⟨[(4, .bool, false), (7, .int .i64, false)], [], [93, 94, 95, 96, 97, 100, 101, 102, 103, 104, 105, 106, 107, 108, 109, 110, 98, 99], []⟩),
  (19, ⟨[(4, .bool, false), (8, .int .i64, false)], [], [111, 112, 113, 114, 115, 118, 119, 120, 121, 122, 123, 124, 125, 126, 127, 128, 116, 117], []⟩)]⟩
def q3t : Tree := (.br (.or (.or (.or (.or (.or (.not (.eq (.len (.fld (.tok 0) 0)) (.len (.fld (.tok 1) 0)))) (.not (.eq (.len (.fld (.tok 0) 1)) (.len (.fld (.tok 1) 1))))) (.not (.eq (.len (.fld (.tok 0) 2)) (.len (.fld (.tok 1) 2))))) (.not (.eq (.len (.fld (.tok 0) 3)) (.len (.fld (.tok 1) 3))))) (.not (.eq (.fld (.tok 0) 4) (.fld (.tok 1) 4)))) (.not (.eq (.fld (.tok 0) 5) (.fld (.tok 1) 5)))) (.leaf [(.lit (.b .false))]) (.loop 4 2 [(.lit (.b .false)), (.lit (.i 0))] (.br (.lt (.tok 3) (.len (.fld (.tok 0) 0))) (.need [(.le (.lit (.i 0)) (.tok 3)), (.lt (.tok 3) (.len (.fld (.tok 1) 0))), (.le (.lit (.i 0)) (.tok 3)), (.lt (.tok 3) (.len (.fld (.tok 0) 0)))] (.br (.not (.eq (.get (.fld (.tok 0) 0) (.tok 3)) (.get (.fld (.tok 1) 0) (.tok 3)))) (.leaf [(.lit (.b .false))]) (.need [(.rng .i64 (.add (.tok 3) (.lit (.i 1))))] (.back 4 [(.tok 2), (.add (.tok 3) (.lit (.i 1)))])))) (.loop 9 4 [(.tok 2), (.lit (.i 0))] (.br (.lt (.tok 5) (.len (.fld (.tok 0) 1))) (.need [(.le (.lit (.i 0)) (.tok 5)), (.lt (.tok 5) (.len (.fld (.tok 1) 1))), (.le (.lit (.i 0)) (.tok 5)), (.lt (.tok 5) (.len (.fld (.tok 0) 1)))] (.br (.not (.eq (.get (.fld (.tok 0) 1) (.tok 5)) (.get (.fld (.tok 1) 1) (.tok 5)))) (.leaf [(.lit (.b .false))]) (.need [(.rng .i64 (.add (.tok 5) (.lit (.i 1))))] (.back 9 [(.tok 4), (.add (.tok 5) (.lit (.i 1)))])))) (.loop 14 6 [(.tok 4), (.lit (.i 0))] (.br (.lt (.tok 7) (.len (.fld (.tok 0) 2))) (.need [(.le (.lit (.i 0)) (.tok 7)), (.lt (.tok 7) (.len (.fld (.tok 1) 2))), (.le (.lit (.i 0)) (.tok 7)), (.lt (.tok 7) (.len (.fld (.tok 0) 2)))] (.br (.not (.eq (.get (.fld (.tok 0) 2) (.tok 7)) (.get (.fld (.tok 1) 2) (.tok 7)))) (.leaf [(.lit (.b .false))]) (.need [(.rng .i64 (.add (.tok 7) (.lit (.i 1))))] (.back 14 [(.tok 6), (.add (.tok 7) (.lit (.i 1)))])))) (.loop 19 8 [(.tok 6), (.lit (.i 0))] (.br (.lt (.tok 9) (.len (.fld (.tok 0) 3))) (.need [(.le (.lit (.i 0)) (.tok 9)), (.lt (.tok 9) (.len (.fld (.tok 1) 3))), (.le (.lit (.i 0)) (.tok 9)), (.lt (.tok 9) (.len (.fld (.tok 0) 3)))] (.br (.not (.eq (.get (.fld (.tok 0) 3) (.tok 9)) (.get (.fld (.tok 1) 3) (.tok 9)))) (.leaf [(.lit (.b .false))]) (.need [(.rng .i64 (.add (.tok 9) (.lit (.i 1))))] (.back 19 [(.tok 8), (.add (.tok 9) (.lit (.i 1)))])))) (.leaf [(.lit (.b .true))]))))))))))
set_option maxRecDepth 100000 in
theorem code_ref30_Same : ∀ cd, Try.f12.body = some cd → treeOf Try.prog [] ann_ref30_Same q0q Try.f12 cd = q3t := by
  intro cd h
  injection h with h
  subst h
  kernel_rfl
theorem fok_ref30_Same {g : List D → Option (List D)}  (h : ∀ ds outs, WfA q0q.ars ds → g ds = some outs → q3t.go (tblS []) (fun o => o = outs) ds fun _ _ => False) : FOk q0q g :=
  q0a ann_ref30_Same Try.f12 _ .nil rfl rfl enter_ref30_Same (by decide) fun ds outs hw hg => by rw [code_ref30_Same  _ rfl]; exact h ds outs hw hg

def q1e : Ct := ⟨8, [.nilp, .val (.st 28), .val (.st 28)], [(.int .i64, false)], [], none⟩
theorem enter_unify_Unify_n (args : Array Value) (w : World) : (callFunc q1e.f args).run Try.prog w = .ok (.enter q1e.f args) w := by kernel_rfl
def ann_unify_Unify_n : Ann := ⟨[0, 1, 2, 3, 4, 5, 6, 7, 8, 9, 27, 43], []⟩
def q4g : Tree := (.leaf [(.lit (.i 1))])
set_option maxRecDepth 100000 in
theorem code_unify_Unify_n (g0 : List D → Option (List D)) : ∀ cd, Try.f8.body = some cd → treeOf Try.prog [(q06, g0)] ann_unify_Unify_n q1e Try.f8 cd = q4g := by
  intro cd h
  injection h with h
  subst h
  kernel_rfl
theorem fok_unify_Unify_n {g0 : List D → Option (List D)} {g : List D → Option (List D)} (h0 : FOk q06 g0) (h : ∀ ds outs, WfA q1e.ars ds → g ds = some outs → q4g.go (tblS [(q06, g0)]) (fun o => o = outs) ds fun _ _ => False) : FOk q1e g :=
  q0a ann_unify_Unify_n Try.f8 _ (.cons h0 .nil) rfl rfl enter_unify_Unify_n (by decide) fun ds outs hw hg => by rw [code_unify_Unify_n g0 _ rfl]; exact h ds outs hw hg

def q1q : Ct := ⟨3, [.val (.st 26), .val (.st 28), .val (.st 28)], [(.bool, false)], [], none⟩
theorem enter_law33_UnifyCells (args : Array Value) (w : World) : (callFunc q1q.f args).run Try.prog w = .ok (.enter q1q.f args) w := by kernel_rfl
def q3u : Ann := ⟨[0, 1, 2, 3, 4, 5, 6, 7, 8, 9, 10, 20], []⟩
def q2c : Tree := (.need [(.ok 0 [(.tok 0)])] (.need [(.ok 0 [(.tok 0)])] (.need [(.ok 1 [(.call 0 0 [(.tok 0)]), (.tok 1), (.tok 2)])] (.need [(.ok 2 [(.tok 0)])] (.br (.not (.call 2 0 [(.tok 0)])) (.need [(.ok 3 [])] (.leaf [(.call 3 0 [])])) (.need [(.ok 4 [(.call 0 0 [(.tok 0)]), (.tok 1), (.tok 2)])] (.need [(.imp (.eq (.call 1 0 [(.call 0 0 [(.tok 0)]), (.tok 1), (.tok 2)]) (.call 4 0 [(.call 0 0 [(.tok 0)]), (.tok 1), (.tok 2)])) (.ok 5 [(.call 1 1 [(.call 0 0 [(.tok 0)]), (.tok 1), (.tok 2)]), (.call 4 1 [(.call 0 0 [(.tok 0)]), (.tok 1), (.tok 2)])])), (.imp (.and (.eq (.call 1 0 [(.call 0 0 [(.tok 0)]), (.tok 1), (.tok 2)]) (.call 4 0 [(.call 0 0 [(.tok 0)]), (.tok 1), (.tok 2)])) (.call 5 0 [(.call 1 1 [(.call 0 0 [(.tok 0)]), (.tok 1), (.tok 2)]), (.call 4 1 [(.call 0 0 [(.tok 0)]), (.tok 1), (.tok 2)])])) (.ok 6 [(.tok 1), (.tok 2)])), (.imp (.and (.and (.eq (.call 1 0 [(.call 0 0 [(.tok 0)]), (.tok 1), (.tok 2)]) (.call 4 0 [(.call 0 0 [(.tok 0)]), (.tok 1), (.tok 2)])) (.call 5 0 [(.call 1 1 [(.call 0 0 [(.tok 0)]), (.tok 1), (.tok 2)]), (.call 4 1 [(.call 0 0 [(.tok 0)]), (.tok 1), (.tok 2)])])) (.eq (.call 6 0 [(.tok 1), (.tok 2)]) (.lit (.i 1)))) (.ok 3 []))] (.leaf [(.and (.and (.and (.eq (.call 1 0 [(.call 0 0 [(.tok 0)]), (.tok 1), (.tok 2)]) (.call 4 0 [(.call 0 0 [(.tok 0)]), (.tok 1), (.tok 2)])) (.call 5 0 [(.call 1 1 [(.call 0 0 [(.tok 0)]), (.tok 1), (.tok 2)]), (.call 4 1 [(.call 0 0 [(.tok 0)]), (.tok 1), (.tok 2)])])) (.eq (.call 6 0 [(.tok 1), (.tok 2)]) (.lit (.i 1)))) (.call 3 0 []))]))))))))
set_option maxRecDepth 100000 in
theorem code_law33_UnifyCells (g0 g1 g2 g3 g4 g5 g6 : List D → Option (List D)) : ∀ cd, Try.f3.body = some cd → treeOf Try.prog [(q0c, g0), (q0l, g1), (q19, g2), (q0h, g3), (q1o, g4), (q0q, g5), (q1e, g6)] q3u q1q Try.f3 cd = q2c := by
  intro cd h
  injection h with h
  subst h
  kernel_rfl
theorem fok_law33_UnifyCells {g0 g1 g2 g3 g4 g5 g6 : List D → Option (List D)} {g : List D → Option (List D)} (h0 : FOk q0c g0) (h1 : FOk q0l g1) (h2 : FOk q19 g2) (h3 : FOk q0h g3) (h4 : FOk q1o g4) (h5 : FOk q0q g5) (h6 : FOk q1e g6) (h : ∀ ds outs, WfA q1q.ars ds → g ds = some outs → q2c.go (tblS [(q0c, g0), (q0l, g1), (q19, g2), (q0h, g3), (q1o, g4), (q0q, g5), (q1e, g6)]) (fun o => o = outs) ds fun _ _ => False) : FOk q1q g :=
  q0a q3u Try.f3 _ (.cons h0 (.cons h1 (.cons h2 (.cons h3 (.cons h4 (.cons h5 (.cons h6 .nil))))))) rfl rfl enter_law33_UnifyCells (by decide) fun ds outs hw hg => by rw [code_law33_UnifyCells g0 g1 g2 g3 g4 g5 g6 _ rfl]; exact h ds outs hw hg

def q1s : Ct := ⟨15, [.val (.st 26), .val (.st 28), .val (.st 28)], [(.bool, false), (.int .i64, false)], [], none⟩
theorem enter_ref33_Same (args : Array Value) (w : World) : (callFunc q1s.f args).run Try.prog w = .ok (.enter q1s.f args) w := by kernel_rfl
def ann_ref33_Same : Ann := ⟨[0, 1, 2, 3, 4, 5, 6, 7, 8, 18, 23, 24, 26], []⟩
def q3i : Tree := (.need [(.ok 0 [(.tok 0), (.tok 1)]), (.imp (.not (.not (.call 0 0 [(.tok 0), (.tok 1)]))) (.ok 0 [(.tok 0), (.tok 2)]))] (.br (.or (.not (.call 0 0 [(.tok 0), (.tok 1)])) (.not (.call 0 0 [(.tok 0), (.tok 2)]))) (.leaf [(.lit (.b .false)), (.lit (.i 1))]) (.need [(.ok 1 [(.tok 0)])] (.need [(.ok 2 [(.call 1 0 [(.tok 0)]), (.tok 1), (.tok 2), (.lit (.b .false))])] (.br (.eq (.call 2 0 [(.call 1 0 [(.tok 0)]), (.tok 1), (.tok 2), (.lit (.b .false))]) (.lit (.i 0))) (.leaf [(.lit (.b .true)), (.lit (.i 0))]) (.br (.eq (.call 2 0 [(.call 1 0 [(.tok 0)]), (.tok 1), (.tok 2), (.lit (.b .false))]) (.lit (.i 2))) (.leaf [(.lit (.b .false)), (.lit (.i 2))]) (.leaf [(.lit (.b .false)), (.lit (.i 0))])))))))
set_option maxRecDepth 100000 in
theorem code_ref33_Same (g0 g1 g2 : List D → Option (List D)) : ∀ cd, Try.f15.body = some cd → treeOf Try.prog [(q05, g0), (q0c, g1), (q0o, g2)] ann_ref33_Same q1s Try.f15 cd = q3i := by
  intro cd h
  injection h with h
  subst h
  kernel_rfl
theorem fok_ref33_Same {g0 g1 g2 : List D → Option (List D)} {g : List D → Option (List D)} (h0 : FOk q05 g0) (h1 : FOk q0c g1) (h2 : FOk q0o g2) (h : ∀ ds outs, WfA q1s.ars ds → g ds = some outs → q3i.go (tblS [(q05, g0), (q0c, g1), (q0o, g2)]) (fun o => o = outs) ds fun _ _ => False) : FOk q1s g :=
  q0a ann_ref33_Same Try.f15 _ (.cons h0 (.cons h1 (.cons h2 .nil))) rfl rfl enter_ref33_Same (by decide) fun ds outs hw hg => by rw [code_ref33_Same g0 g1 g2 _ rfl]; exact h ds outs hw hg

def q21 : Ct := ⟨4, [.val (.st 26), .val (.st 28), .val (.st 28)], [(.bool, false)], [], none⟩
theorem enter_law33_UnifySame (args : Array Value) (w : World) : (callFunc q21.f args).run Try.prog w = .ok (.enter q21.f args) w := by kernel_rfl
def q40 : Ann := ⟨[0, 1, 2, 3, 4, 5, 6, 7, 8, 9, 10, 11, 23], []⟩
def q2h : Tree := (.need [(.ok 0 [(.tok 0)])] (.need [(.ok 1 [(.tok 0), (.tok 1), (.tok 2)])] (.need [(.ok 2 [(.call 0 0 [(.tok 0)])])] (.br (.not (.call 2 0 [(.call 0 0 [(.tok 0)])])) (.need [(.ok 3 [])] (.leaf [(.call 3 0 [])])) (.need [(.ok 4 [(.call 0 0 [(.tok 0)]), (.tok 1), (.tok 2)])] (.need [(.imp (.and (.eq (.call 1 0 [(.tok 0), (.tok 1), (.tok 2)]) (.call 4 0 [(.call 0 0 [(.tok 0)]), (.tok 1), (.tok 2)])) (.eq (.call 1 1 [(.tok 0), (.tok 1), (.tok 2)]) (.call 4 1 [(.call 0 0 [(.tok 0)]), (.tok 1), (.tok 2)]))) (.ok 5 [(.tok 0), (.call 0 0 [(.tok 0)])])), (.imp (.and (.and (.eq (.call 1 0 [(.tok 0), (.tok 1), (.tok 2)]) (.call 4 0 [(.call 0 0 [(.tok 0)]), (.tok 1), (.tok 2)])) (.eq (.call 1 1 [(.tok 0), (.tok 1), (.tok 2)]) (.call 4 1 [(.call 0 0 [(.tok 0)]), (.tok 1), (.tok 2)]))) (.call 5 0 [(.tok 0), (.call 0 0 [(.tok 0)])])) (.ok 3 []))] (.leaf [(.and (.and (.and (.eq (.call 1 0 [(.tok 0), (.tok 1), (.tok 2)]) (.call 4 0 [(.call 0 0 [(.tok 0)]), (.tok 1), (.tok 2)])) (.eq (.call 1 1 [(.tok 0), (.tok 1), (.tok 2)]) (.call 4 1 [(.call 0 0 [(.tok 0)]), (.tok 1), (.tok 2)]))) (.call 5 0 [(.tok 0), (.call 0 0 [(.tok 0)])])) (.call 3 0 []))])))))))
set_option maxRecDepth 100000 in
theorem code_law33_UnifySame (g0 g1 g2 g3 g4 g5 : List D → Option (List D)) : ∀ cd, Try.f4.body = some cd → treeOf Try.prog [(q0c, g0), (q1a, g1), (q0x, g2), (q0h, g3), (q1s, g4), (q0q, g5)] q40 q21 Try.f4 cd = q2h := by
  intro cd h
  injection h with h
  subst h
  kernel_rfl
theorem fok_law33_UnifySame {g0 g1 g2 g3 g4 g5 : List D → Option (List D)} {g : List D → Option (List D)} (h0 : FOk q0c g0) (h1 : FOk q1a g1) (h2 : FOk q0x g2) (h3 : FOk q0h g3) (h4 : FOk q1s g4) (h5 : FOk q0q g5) (h : ∀ ds outs, WfA q21.ars ds → g ds = some outs → q2h.go (tblS [(q0c, g0), (q1a, g1), (q0x, g2), (q0h, g3), (q1s, g4), (q0q, g5)]) (fun o => o = outs) ds fun _ _ => False) : FOk q21 g :=
  q0a q40 Try.f4 _ (.cons h0 (.cons h1 (.cons h2 (.cons h3 (.cons h4 (.cons h5 .nil)))))) rfl rfl enter_law33_UnifySame (by decide) fun ds outs hw hg => by rw [code_law33_UnifySame g0 g1 g2 g3 g4 g5 _ rfl]; exact h ds outs hw hg

def q1p : Ct := ⟨5, [.val (.st 26), .val (.st 28), .val (.st 28)], [(.bool, false)], [], none⟩
theorem enter_law33_UnifyTurns (args : Array Value) (w : World) : (callFunc q1p.f args).run Try.prog w = .ok (.enter q1p.f args) w := by kernel_rfl
def q3o : Ann := ⟨[0, 1, 2, 3, 4, 5, 6, 7, 8, 9, 10, 13], []⟩
def q2b : Tree := (.need [(.ok 0 [(.tok 0)])] (.br (.not (.call 0 0 [(.tok 0)])) (.need [(.ok 1 [])] (.leaf [(.call 1 0 [])])) (.need [(.ok 2 [(.tok 0)]), (.ok 2 [(.tok 0)]), (.ok 2 [(.tok 0)]), (.ok 2 [(.tok 0)]), (.ok 2 [(.tok 0)])] (.need [(.ok 3 [(.call 2 0 [(.tok 0)]), (.tok 1), (.tok 2)])] (.need [(.ok 3 [(.call 2 0 [(.tok 0)]), (.tok 2), (.tok 1)])] (.need [(.imp (.eq (.call 3 0 [(.call 2 0 [(.tok 0)]), (.tok 1), (.tok 2)]) (.call 3 0 [(.call 2 0 [(.tok 0)]), (.tok 2), (.tok 1)])) (.ok 4 [(.call 3 1 [(.call 2 0 [(.tok 0)]), (.tok 1), (.tok 2)]), (.call 3 1 [(.call 2 0 [(.tok 0)]), (.tok 2), (.tok 1)])])), (.imp (.and (.and (.eq (.call 3 0 [(.call 2 0 [(.tok 0)]), (.tok 1), (.tok 2)]) (.call 3 0 [(.call 2 0 [(.tok 0)]), (.tok 2), (.tok 1)])) (.call 4 0 [(.call 3 1 [(.call 2 0 [(.tok 0)]), (.tok 1), (.tok 2)]), (.call 3 1 [(.call 2 0 [(.tok 0)]), (.tok 2), (.tok 1)])])) (.not (.eq (.call 3 0 [(.call 2 0 [(.tok 0)]), (.tok 1), (.tok 2)]) (.lit (.i 0))))) (.ok 4 [(.call 3 1 [(.call 2 0 [(.tok 0)]), (.tok 1), (.tok 2)]), (.tok 0)])), (.imp (.and (.and (.eq (.call 3 0 [(.call 2 0 [(.tok 0)]), (.tok 1), (.tok 2)]) (.call 3 0 [(.call 2 0 [(.tok 0)]), (.tok 2), (.tok 1)])) (.call 4 0 [(.call 3 1 [(.call 2 0 [(.tok 0)]), (.tok 1), (.tok 2)]), (.call 3 1 [(.call 2 0 [(.tok 0)]), (.tok 2), (.tok 1)])])) (.or (.eq (.call 3 0 [(.call 2 0 [(.tok 0)]), (.tok 1), (.tok 2)]) (.lit (.i 0))) (.call 4 0 [(.call 3 1 [(.call 2 0 [(.tok 0)]), (.tok 1), (.tok 2)]), (.tok 0)]))) (.ok 1 []))] (.leaf [(.and (.and (.and (.eq (.call 3 0 [(.call 2 0 [(.tok 0)]), (.tok 1), (.tok 2)]) (.call 3 0 [(.call 2 0 [(.tok 0)]), (.tok 2), (.tok 1)])) (.call 4 0 [(.call 3 1 [(.call 2 0 [(.tok 0)]), (.tok 1), (.tok 2)]), (.call 3 1 [(.call 2 0 [(.tok 0)]), (.tok 2), (.tok 1)])])) (.or (.eq (.call 3 0 [(.call 2 0 [(.tok 0)]), (.tok 1), (.tok 2)]) (.lit (.i 0))) (.call 4 0 [(.call 3 1 [(.call 2 0 [(.tok 0)]), (.tok 1), (.tok 2)]), (.tok 0)]))) (.call 1 0 []))])))))))
set_option maxRecDepth 100000 in
theorem code_law33_UnifyTurns (g0 g1 g2 g3 g4 : List D → Option (List D)) : ∀ cd, Try.f5.body = some cd → treeOf Try.prog [(q19, g0), (q0h, g1), (q0c, g2), (q0l, g3), (q0q, g4)] q3o q1p Try.f5 cd = q2b := by
  intro cd h
  injection h with h
  subst h
  kernel_rfl
theorem fok_law33_UnifyTurns {g0 g1 g2 g3 g4 : List D → Option (List D)} {g : List D → Option (List D)} (h0 : FOk q19 g0) (h1 : FOk q0h g1) (h2 : FOk q0c g2) (h3 : FOk q0l g3) (h4 : FOk q0q g4) (h : ∀ ds outs, WfA q1p.ars ds → g ds = some outs → q2b.go (tblS [(q19, g0), (q0h, g1), (q0c, g2), (q0l, g3), (q0q, g4)]) (fun o => o = outs) ds fun _ _ => False) : FOk q1p g :=
  q0a q3o Try.f5 _ (.cons h0 (.cons h1 (.cons h2 (.cons h3 (.cons h4 .nil))))) rfl rfl enter_law33_UnifyTurns (by decide) fun ds outs hw hg => by rw [code_law33_UnifyTurns g0 g1 g2 g3 g4 _ rfl]; exact h ds outs hw hg

end Go.Proofs.Ytaoamndcdjelnaa


namespace Go.Proofs.Ytaoamndcdjelnaa
open Go.RowKit
set_option linter.unusedVariables false
set_option linter.unusedSimpArgs false

structure Ce where
  t : Int
  n : Int
structure Un where
  at' : Int
  old : Ce
structure Wk where
  ser : Int
  att : Ce
  val : Ce
structure Sy where
  name : ByteArray
  ar : Int
structure So where
  cs : List Ce
  ys : List Sy
  tr : List Un
  wk : List Wk
  ser : Int
  mx : Int

instance : Inhabited Ce := ⟨⟨0, 0⟩⟩
instance : Inhabited Un := ⟨⟨0, default⟩⟩
instance : Inhabited Wk := ⟨⟨0, default, default⟩⟩
instance : Inhabited Sy := ⟨⟨⟨#[]⟩, 0⟩⟩

def eC (c : Ce) : D := .a [.i c.t, .i c.n]
def eU (u : Un) : D := .a [.i u.at', eC u.old]
def eW (w : Wk) : D := .a [.i w.ser, eC w.att, eC w.val]
def eY (y : Sy) : D := .a [.s y.name, .i y.ar]
def eS (s : So) : D := .a [.r (s.cs.map eC), .r (s.ys.map eY), .r (s.tr.map eU), .r (s.wk.map eW), .i s.ser, .i s.mx]
def dC (d : D) : Ce := ⟨(d.fld 0).int, (d.fld 1).int⟩
def dU (d : D) : Un := ⟨(d.fld 0).int, dC (d.fld 1)⟩
def dW (d : D) : Wk := ⟨(d.fld 0).int, dC (d.fld 1), dC (d.fld 2)⟩
def dY (d : D) : Sy := ⟨(d.fld 0).str, (d.fld 1).int⟩
def dS (d : D) : So := ⟨(d.fld 0).rs.map dC, (d.fld 1).rs.map dY, (d.fld 2).rs.map dU, (d.fld 3).rs.map dW, (d.fld 4).int, (d.fld 5).int⟩

theorem dC_eC (c : Ce) : dC (eC c) = c := rfl
theorem dU_eU (c : Un) : dU (eU c) = c := rfl
theorem dW_eW (c : Wk) : dW (eW c) = c := rfl
theorem dY_eY (c : Sy) : dY (eY c) = c := rfl
theorem map_id' {α : Type} {e : α → D} {d : D → α} (h : ∀ a, d (e a) = a) (l : List α) : (l.map e).map d = l := by
  rw [List.map_map]
  have : d ∘ e = id := funext h
  rw [this, List.map_id]
theorem dS_eS (s : So) : dS (eS s) = s := by
  show So.mk ((s.cs.map eC).map dC) ((s.ys.map eY).map dY) ((s.tr.map eU).map dU) ((s.wk.map eW).map dW) s.ser s.mx = s
  rw [map_id' dC_eC, map_id' dY_eY, map_id' dU_eU, map_id' dW_eW]
theorem eC_inj {a b : Ce} (h : eC a = eC b) : a = b := by rw [← dC_eC a, h, dC_eC b]
theorem eU_inj {a b : Un} (h : eU a = eU b) : a = b := by rw [← dU_eU a, h, dU_eU b]
theorem eW_inj {a b : Wk} (h : eW a = eW b) : a = b := by rw [← dW_eW a, h, dW_eW b]
theorem eY_inj {a b : Sy} (h : eY a = eY b) : a = b := by rw [← dY_eY a, h, dY_eY b]
theorem eS_inj {a b : So} (h : eS a = eS b) : a = b := by rw [← dS_eS a, h, dS_eS b]
theorem eC_eq (a b : Ce) : (eC a = eC b) = (a = b) := propext ⟨eC_inj, fun h => h ▸ rfl⟩
theorem eU_eq (a b : Un) : (eU a = eU b) = (a = b) := propext ⟨eU_inj, fun h => h ▸ rfl⟩
theorem eW_eq (a b : Wk) : (eW a = eW b) = (a = b) := propext ⟨eW_inj, fun h => h ▸ rfl⟩
theorem eY_eq (a b : Sy) : (eY a = eY b) = (a = b) := propext ⟨eY_inj, fun h => h ▸ rfl⟩
theorem eS_eq (a b : So) : (eS a = eS b) = (a = b) := propext ⟨eS_inj, fun h => h ▸ rfl⟩
instance : DecidableEq Ce := fun a b => if h : eC a = eC b then .isTrue (eC_inj h) else .isFalse fun e => h (e ▸ rfl)
instance : DecidableEq Un := fun a b => if h : eU a = eU b then .isTrue (eU_inj h) else .isFalse fun e => h (e ▸ rfl)
instance : DecidableEq Wk := fun a b => if h : eW a = eW b then .isTrue (eW_inj h) else .isFalse fun e => h (e ▸ rfl)
instance : DecidableEq Sy := fun a b => if h : eY a = eY b then .isTrue (eY_inj h) else .isFalse fun e => h (e ▸ rfl)
instance : DecidableEq So := fun a b => if h : eS a = eS b then .isTrue (eS_inj h) else .isFalse fun e => h (e ▸ rfl)
theorem Ce.ext' {a b : Ce} (h1 : a.t = b.t) (h2 : a.n = b.n) : a = b := by
  cases a; cases b; cases h1; cases h2; rfl

theorem eC_0 (c : Ce) : (eC c).fld 0 = .i c.t := rfl
theorem eC_1 (c : Ce) : (eC c).fld 1 = .i c.n := rfl
theorem eU_0 (c : Un) : (eU c).fld 0 = .i c.at' := rfl
theorem eU_1 (c : Un) : (eU c).fld 1 = eC c.old := rfl
theorem eW_0 (c : Wk) : (eW c).fld 0 = .i c.ser := rfl
theorem eW_1 (c : Wk) : (eW c).fld 1 = eC c.att := rfl
theorem eW_2 (c : Wk) : (eW c).fld 2 = eC c.val := rfl
theorem eY_0 (c : Sy) : (eY c).fld 0 = .s c.name := rfl
theorem eY_1 (c : Sy) : (eY c).fld 1 = .i c.ar := rfl
theorem eS_0 (s : So) : (eS s).fld 0 = .r (s.cs.map eC) := rfl
theorem eS_1 (s : So) : (eS s).fld 1 = .r (s.ys.map eY) := rfl
theorem eS_2 (s : So) : (eS s).fld 2 = .r (s.tr.map eU) := rfl
theorem eS_3 (s : So) : (eS s).fld 3 = .r (s.wk.map eW) := rfl
theorem eS_4 (s : So) : (eS s).fld 4 = .i s.ser := rfl
theorem eS_5 (s : So) : (eS s).fld 5 = .i s.mx := rfl
theorem eC_s0 (c : Ce) (n : Int) : D.a ((eC c).fs.set 0 (.i n)) = eC { c with t := n } := rfl
theorem eC_mk (t n : Int) : D.a [.i t, .i n] = eC ⟨t, n⟩ := rfl
abbrev i64 (n : Int) : Prop := -9223372036854775808 ≤ n ∧ n ≤ 9223372036854775807
def Ce.ok (c : Ce) : Prop := i64 c.t ∧ i64 c.n
def Un.ok (c : Un) : Prop := i64 c.at' ∧ c.old.ok
def Wk.ok (c : Wk) : Prop := i64 c.ser ∧ c.att.ok ∧ c.val.ok
def Sy.ok (c : Sy) : Prop := c.name.size ≤ LIM ∧ i64 c.ar
structure So.ok (s : So) : Prop where
  cs : s.cs.length ≤ 8796093021952 ∧ ∀ c ∈ s.cs, c.ok
  ys : s.ys.length ≤ 5864062014634 ∧ ∀ c ∈ s.ys, c.ok
  tr : s.tr.length ≤ 5864062014634 ∧ ∀ c ∈ s.tr, c.ok
  wk : s.wk.length ≤ 3518437208780 ∧ ∀ c ∈ s.wk, c.ok
  ser : i64 s.ser
  mx : i64 s.mx

theorem wfI {d : D} (h : Wf d (.int .i64)) : ∃ n, d = .i n ∧ i64 n := by
  obtain ⟨n, rfl, hn⟩ := h.int
  exact ⟨n, rfl, rng64.1 hn⟩
theorem wfC {d : D} (h : Wf d T_Cell) : ∃ c, d = eC c ∧ c.ok := by
  obtain ⟨ds, rfl, hl⟩ := h.st_of (fs := [.int .i64, .int .i64]) rfl
  obtain ⟨a, b, rfl, ha, hb⟩ := wfL2 hl
  obtain ⟨x, rfl, hx⟩ := wfI ha
  obtain ⟨y, rfl, hy⟩ := wfI hb
  exact ⟨⟨x, y⟩, rfl, hx, hy⟩
theorem wfU {d : D} (h : Wf d T_Undo) : ∃ c, d = eU c ∧ c.ok := by
  obtain ⟨ds, rfl, hl⟩ := h.st_of (fs := [.int .i64, T_Cell]) rfl
  obtain ⟨a, b, rfl, ha, hb⟩ := wfL2 hl
  obtain ⟨x, rfl, hx⟩ := wfI ha
  obtain ⟨y, rfl, hy⟩ := wfC hb
  exact ⟨⟨x, y⟩, rfl, hx, hy⟩
theorem wfW {d : D} (h : Wf d T_Wake) : ∃ c, d = eW c ∧ c.ok := by
  obtain ⟨ds, rfl, hl⟩ := h.st_of (fs := [.int .i64, T_Cell, T_Cell]) rfl
  obtain ⟨a, r, rfl, ha, hr⟩ := wfL_cons hl
  obtain ⟨b, c, rfl, hb, hc⟩ := wfL2 hr
  obtain ⟨x, rfl, hx⟩ := wfI ha
  obtain ⟨y, rfl, hy⟩ := wfC hb
  obtain ⟨z, rfl, hz⟩ := wfC hc
  exact ⟨⟨x, y, z⟩, rfl, hx, hy, hz⟩
theorem wfY {d : D} (h : Wf d T_Symbol) : ∃ c, d = eY c ∧ c.ok := by
  obtain ⟨ds, rfl, hl⟩ := h.st_of (fs := [.str, .int .i64]) rfl
  obtain ⟨a, b, rfl, ha, hb⟩ := wfL2 hl
  obtain ⟨x, rfl, hx⟩ := ha.str
  obtain ⟨y, rfl, hy⟩ := wfI hb
  exact ⟨⟨x, y⟩, rfl, hx, hy⟩
theorem wfCs {d : D} (h : Wf d T_Cells) : ∃ l : List Ce, d = .r (l.map eC) ∧ l.length ≤ 8796093021952 ∧ ∀ c ∈ l, c.ok := by
  obtain ⟨l, rfl, h1, h2⟩ := h.row_of (te := T_Cell) rfl
  obtain ⟨m, rfl, h3⟩ := of_all (e := eC) (P := Ce.ok) fun x hx => wfC (h2 x hx)
  have e : LM T_Cell = 8796093021952 := by kernel_rfl
  rw [e, List.length_map] at h1
  exact ⟨m, rfl, h1, h3⟩
theorem wfUs {d : D} (h : Wf d T_Undos) : ∃ l : List Un, d = .r (l.map eU) ∧ l.length ≤ 5864062014634 ∧ ∀ c ∈ l, c.ok := by
  obtain ⟨l, rfl, h1, h2⟩ := h.row_of (te := T_Undo) rfl
  obtain ⟨m, rfl, h3⟩ := of_all (e := eU) (P := Un.ok) fun x hx => wfU (h2 x hx)
  have e : LM T_Undo = 5864062014634 := by kernel_rfl
  rw [e, List.length_map] at h1
  exact ⟨m, rfl, h1, h3⟩
theorem wfWs {d : D} (h : Wf d T_Wakes) : ∃ l : List Wk, d = .r (l.map eW) ∧ l.length ≤ 3518437208780 ∧ ∀ c ∈ l, c.ok := by
  obtain ⟨l, rfl, h1, h2⟩ := h.row_of (te := T_Wake) rfl
  obtain ⟨m, rfl, h3⟩ := of_all (e := eW) (P := Wk.ok) fun x hx => wfW (h2 x hx)
  have e : LM T_Wake = 3518437208780 := by kernel_rfl
  rw [e, List.length_map] at h1
  exact ⟨m, rfl, h1, h3⟩
theorem wfYs {d : D} (h : Wf d T_Symbols) : ∃ l : List Sy, d = .r (l.map eY) ∧ l.length ≤ 5864062014634 ∧ ∀ c ∈ l, c.ok := by
  obtain ⟨l, rfl, h1, h2⟩ := h.row_of (te := T_Symbol) rfl
  obtain ⟨m, rfl, h3⟩ := of_all (e := eY) (P := Sy.ok) fun x hx => wfY (h2 x hx)
  have e : LM T_Symbol = 5864062014634 := by kernel_rfl
  rw [e, List.length_map] at h1
  exact ⟨m, rfl, h1, h3⟩
theorem wfS {d : D} (h : Wf d T_Store) : ∃ s, d = eS s ∧ s.ok := by
  obtain ⟨ds, rfl, hl⟩ := h.st_of (fs := [T_Cells, T_Symbols, T_Undos, T_Wakes, .int .i64, .int .i64]) rfl
  obtain ⟨d0, r, rfl, h0, hl⟩ := wfL_cons hl
  obtain ⟨d1, r, rfl, h1, hl⟩ := wfL_cons hl
  obtain ⟨d2, r, rfl, h2, hl⟩ := wfL_cons hl
  obtain ⟨d3, r, rfl, h3, hl⟩ := wfL_cons hl
  obtain ⟨d4, d5, rfl, h4, h5⟩ := wfL2 hl
  obtain ⟨cs, rfl, q0⟩ := wfCs h0
  obtain ⟨ys, rfl, q1⟩ := wfYs h1
  obtain ⟨tr, rfl, q2⟩ := wfUs h2
  obtain ⟨wk, rfl, q3⟩ := wfWs h3
  obtain ⟨x, rfl, q4⟩ := wfI h4
  obtain ⟨y, rfl, q5⟩ := wfI h5
  exact ⟨⟨cs, ys, tr, wk, x, y⟩, rfl, q0, q1, q2, q3, q4, q5⟩
end Go.Proofs.Ytaoamndcdjelnaa


namespace Go.Proofs.Ytaoamndcdjelnaa
end Go.Proofs.Ytaoamndcdjelnaa

