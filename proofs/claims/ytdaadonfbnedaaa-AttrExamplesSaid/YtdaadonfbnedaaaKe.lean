/-
 Lemmas of the walk and plain laws, put together. No condition.
-/
import Derived.Deep.RegionLaw
import Derived.Lib.AppendZerosOnto
import Derived.Shelf.Spec.SlicesInsert
import Derived.StillTailTactics
import Derived.TacticsInMore
import Derived.Test.YtdaadonfbnedaaaKd
namespace Go.Proofs.Ytdaadonfbnedaaa
open Go.RowKit
set_option linter.unusedVariables false
set_option linter.unusedSimpArgs false
set_option maxRecDepth 100000
structure Ce where
 t : Int
 n : Int
structure Un where
 at' : Int
 old : Ce
structure Wk where
 ser : Int
 att : Ce
 val : Ce
structure Sy where
 name : ByteArray
 ar : Int
structure So where
 cs : List Ce
 ys : List Sy
 tr : List Un
 wk : List Wk
 ser : Int
 mx : Int
instance : Inhabited Ce := ⟨⟨0, 0⟩⟩
instance : Inhabited Un := ⟨⟨0, default⟩⟩
instance : Inhabited Wk := ⟨⟨0, default, default⟩⟩
instance : Inhabited Sy := ⟨⟨⟨#[]⟩, 0⟩⟩
def eC (c : Ce) : D := .a [.i c.t, .i c.n]
def eU (u : Un) : D := .a [.i u.at', eC u.old]
def eW (w : Wk) : D := .a [.i w.ser, eC w.att, eC w.val]
def eY (y : Sy) : D := .a [.s y.name, .i y.ar]
def eS (s : So) : D := .a [.r (s.cs.map eC), .r (s.ys.map eY), .r (s.tr.map eU), .r (s.wk.map eW), .i s.ser, .i s.mx]
def dC (d : D) : Ce := ⟨(d.fld 0).int, (d.fld 1).int⟩
def dU (d : D) : Un := ⟨(d.fld 0).int, dC (d.fld 1)⟩
def dW (d : D) : Wk := ⟨(d.fld 0).int, dC (d.fld 1), dC (d.fld 2)⟩
def dY (d : D) : Sy := ⟨(d.fld 0).str, (d.fld 1).int⟩
def dS (d : D) : So := ⟨(d.fld 0).rs.map dC, (d.fld 1).rs.map dY, (d.fld 2).rs.map dU, (d.fld 3).rs.map dW, (d.fld 4).int, (d.fld 5).int⟩
theorem ju (c : Ce) : dC (eC c) = c := rfl
theorem qup (c : Un) : dU (eU c) = c := rfl
theorem qux (c : Wk) : dW (eW c) = c := rfl
theorem qwz (c : Sy) : dY (eY c) = c := rfl
theorem map_id' {α : Type} {e : α → D} {d : D → α} (h : ∀ a, d (e a) = a) (l : List α) : (l.map e).map d = l := by
 rw [List.map_map]
 have : d ∘ e = id := funext h
 rw [this, List.map_id]
theorem ye (s : So) : dS (eS s) = s := by
 show So.mk ((s.cs.map eC).map dC) ((s.ys.map eY).map dY) ((s.tr.map eU).map dU) ((s.wk.map eW).map dW) s.ser s.mx = s
 rw [map_id' ju, map_id' qwz, map_id' qup, map_id' qux]
theorem qxg {a b : Ce} (h : eC a = eC b) : a = b := by rw [← ju a, h, ju b]
theorem z5r {a b : Un} (h : eU a = eU b) : a = b := by rw [← qup a, h, qup b]
theorem z54 {a b : Wk} (h : eW a = eW b) : a = b := by rw [← qux a, h, qux b]
theorem qt0 {a b : Sy} (h : eY a = eY b) : a = b := by rw [← qwz a, h, qwz b]
theorem qyi {a b : So} (h : eS a = eS b) : a = b := by rw [← ye a, h, ye b]
theorem z10 (a b : Ce) : (eC a = eC b) = (a = b) := propext ⟨qxg, fun h => h ▸ rfl⟩
theorem zco (a b : Un) : (eU a = eU b) = (a = b) := propext ⟨z5r, fun h => h ▸ rfl⟩
theorem zd5 (a b : Wk) : (eW a = eW b) = (a = b) := propext ⟨z54, fun h => h ▸ rfl⟩
theorem qvp (a b : Sy) : (eY a = eY b) = (a = b) := propext ⟨qt0, fun h => h ▸ rfl⟩
theorem zd3 (a b : So) : (eS a = eS b) = (a = b) := propext ⟨qyi, fun h => h ▸ rfl⟩
instance : DecidableEq Ce := fun a b => if h : eC a = eC b then .isTrue (qxg h) else .isFalse fun e => h (e ▸ rfl)
instance : DecidableEq Un := fun a b => if h : eU a = eU b then .isTrue (z5r h) else .isFalse fun e => h (e ▸ rfl)
instance : DecidableEq Wk := fun a b => if h : eW a = eW b then .isTrue (z54 h) else .isFalse fun e => h (e ▸ rfl)
instance : DecidableEq Sy := fun a b => if h : eY a = eY b then .isTrue (qt0 h) else .isFalse fun e => h (e ▸ rfl)
instance : DecidableEq So := fun a b => if h : eS a = eS b then .isTrue (qyi h) else .isFalse fun e => h (e ▸ rfl)
theorem Ce.ext' {a b : Ce} (h1 : a.t = b.t) (h2 : a.n = b.n) : a = b := by
 cases a; cases b; cases h1; cases h2; rfl
theorem qnv (c : Ce) : (eC c).fld 0 = .i c.t := rfl
theorem qt8 (c : Ce) : (eC c).fld 1 = .i c.n := rfl
theorem zjd (c : Un) : (eU c).fld 0 = .i c.at' := rfl
theorem zja (c : Un) : (eU c).fld 1 = eC c.old := rfl
theorem zhw (c : Wk) : (eW c).fld 0 = .i c.ser := rfl
theorem zj3 (c : Wk) : (eW c).fld 1 = eC c.att := rfl
theorem z8v (c : Wk) : (eW c).fld 2 = eC c.val := rfl
theorem z3o (c : Sy) : (eY c).fld 0 = .s c.name := rfl
theorem za3 (c : Sy) : (eY c).fld 1 = .i c.ar := rfl
theorem qg6 (s : So) : (eS s).fld 0 = .r (s.cs.map eC) := rfl
theorem z5s (s : So) : (eS s).fld 1 = .r (s.ys.map eY) := rfl
theorem z3j (s : So) : (eS s).fld 2 = .r (s.tr.map eU) := rfl
theorem z2m (s : So) : (eS s).fld 3 = .r (s.wk.map eW) := rfl
theorem zgn (s : So) : (eS s).fld 4 = .i s.ser := rfl
theorem zer (s : So) : (eS s).fld 5 = .i s.mx := rfl
theorem gnA : type_of% (And.intro @List.getD_cons_zero.{0} (And.intro @List.getD_cons_succ.{0} (And.intro @List.getElem?_cons_zero.{0} (And.intro @List.getElem?_cons_succ.{0} (And.intro @q4k (And.intro @yz (And.intro @q4p (And.intro @q6i (And.intro @Option.isSome_some.{0} (And.intro @Option.getD_some.{0} (And.intro @decide_eq_true_eq (And.intro @decide_eq_false_iff_not (And.intro @ye (And.intro @ju (And.intro @qup (And.intro @qux (And.intro @qwz (And.intro @qnv (And.intro @qt8 (And.intro @zjd (And.intro @zja (And.intro @zhw (And.intro @zj3 (And.intro @z8v (And.intro @z3o (And.intro @za3 (And.intro @qg6 (And.intro @z5s (And.intro @z3j (And.intro @z2m (And.intro @zgn (And.intro @zer (And.intro @List.length_map.{0, 0} (And.intro @qqt (And.intro @zce (And.intro @zd4 (And.intro @z10 (And.intro @zco (And.intro @zd5 (And.intro @qvp (And.intro @zd3 (And.intro @q4a (And.intro @List.take_succ_cons.{0} (And.intro @List.take_zero.{0} (And.intro @List.nil_append.{0} (And.intro @List.cons_append.{0} (And.intro @decide_true (And.intro @decide_false (And.intro @Bool.or_true (And.intro @true_and @and_true)))))))))))))))))))))))))))))))))))))))))))))))))) := And.intro @List.getD_cons_zero.{0} (And.intro @List.getD_cons_succ.{0} (And.intro @List.getElem?_cons_zero.{0} (And.intro @List.getElem?_cons_succ.{0} (And.intro @q4k (And.intro @yz (And.intro @q4p (And.intro @q6i (And.intro @Option.isSome_some.{0} (And.intro @Option.getD_some.{0} (And.intro @decide_eq_true_eq (And.intro @decide_eq_false_iff_not (And.intro @ye (And.intro @ju (And.intro @qup (And.intro @qux (And.intro @qwz (And.intro @qnv (And.intro @qt8 (And.intro @zjd (And.intro @zja (And.intro @zhw (And.intro @zj3 (And.intro @z8v (And.intro @z3o (And.intro @za3 (And.intro @qg6 (And.intro @z5s (And.intro @z3j (And.intro @z2m (And.intro @zgn (And.intro @zer (And.intro @List.length_map.{0, 0} (And.intro @qqt (And.intro @zce (And.intro @zd4 (And.intro @z10 (And.intro @zco (And.intro @zd5 (And.intro @qvp (And.intro @zd3 (And.intro @q4a (And.intro @List.take_succ_cons.{0} (And.intro @List.take_zero.{0} (And.intro @List.nil_append.{0} (And.intro @List.cons_append.{0} (And.intro @decide_true (And.intro @decide_false (And.intro @Bool.or_true (And.intro @true_and @and_true)))))))))))))))))))))))))))))))))))))))))))))))))
theorem zd1 (c : Ce) (n : Int) : D.a ((eC c).fs.set 0 (.i n)) = eC { c with t := n } := rfl
theorem q82 (t n : Int) : D.a [.i t, .i n] = eC ⟨t, n⟩ := rfl
abbrev i64 (n : Int) : Prop := -9223372036854775808 ≤ n ∧ n ≤ 9223372036854775807
def Ce.ok (c : Ce) : Prop := i64 c.t ∧ i64 c.n
def Un.ok (c : Un) : Prop := i64 c.at' ∧ c.old.ok
def Wk.ok (c : Wk) : Prop := i64 c.ser ∧ c.att.ok ∧ c.val.ok
def Sy.ok (c : Sy) : Prop := c.name.size ≤ LIM ∧ i64 c.ar
structure So.ok (s : So) : Prop where
 cs : s.cs.length ≤ 8796093021952 ∧ ∀ c ∈ s.cs, c.ok
 ys : s.ys.length ≤ 5864062014634 ∧ ∀ c ∈ s.ys, c.ok
 tr : s.tr.length ≤ 5864062014634 ∧ ∀ c ∈ s.tr, c.ok
 wk : s.wk.length ≤ 3518437208780 ∧ ∀ c ∈ s.wk, c.ok
 ser : i64 s.ser
 mx : i64 s.mx
theorem wfI {d : D} (h : Wf d (.int .i64)) : ∃ n, d = .i n ∧ i64 n := by
 obtain ⟨n, rfl, hn⟩ := h.int
 exact ⟨n, rfl, q4a.1 hn⟩
theorem wfC {d : D} (h : Wf d qn) : ∃ c, d = eC c ∧ c.ok := by
 obtain ⟨ds, rfl, hl⟩ := h.st_of (fs := [.int .i64, .int .i64]) rfl
 obtain ⟨a, b, rfl, ha, hb⟩ := qv6 hl
 obtain ⟨x, rfl, hx⟩ := wfI ha
 obtain ⟨y, rfl, hy⟩ := wfI hb
 exact ⟨⟨x, y⟩, rfl, hx, hy⟩
theorem wfU {d : D} (h : Wf d q17) : ∃ c, d = eU c ∧ c.ok := by
 obtain ⟨ds, rfl, hl⟩ := h.st_of (fs := [.int .i64, qn]) rfl
 obtain ⟨a, b, rfl, ha, hb⟩ := qv6 hl
 obtain ⟨x, rfl, hx⟩ := wfI ha
 obtain ⟨y, rfl, hy⟩ := wfC hb
 exact ⟨⟨x, y⟩, rfl, hx, hy⟩
theorem wfW {d : D} (h : Wf d zs) : ∃ c, d = eW c ∧ c.ok := by
 obtain ⟨ds, rfl, hl⟩ := h.st_of (fs := [.int .i64, qn, qn]) rfl
 obtain ⟨a, r, rfl, ha, hr⟩ := q7f hl
 obtain ⟨b, c, rfl, hb, hc⟩ := qv6 hr
 obtain ⟨x, rfl, hx⟩ := wfI ha
 obtain ⟨y, rfl, hy⟩ := wfC hb
 obtain ⟨z, rfl, hz⟩ := wfC hc
 exact ⟨⟨x, y, z⟩, rfl, hx, hy, hz⟩
theorem wfY {d : D} (h : Wf d j4) : ∃ c, d = eY c ∧ c.ok := by
 obtain ⟨ds, rfl, hl⟩ := h.st_of (fs := [.str, .int .i64]) rfl
 obtain ⟨a, b, rfl, ha, hb⟩ := qv6 hl
 obtain ⟨x, rfl, hx⟩ := ha.str
 obtain ⟨y, rfl, hy⟩ := wfI hb
 exact ⟨⟨x, y⟩, rfl, hx, hy⟩
theorem zjl {d : D} (h : Wf d zj) : ∃ l : List Ce, d = .r (l.map eC) ∧ l.length ≤ 8796093021952 ∧ ∀ c ∈ l, c.ok := by
 obtain ⟨l, rfl, h1, h2⟩ := h.row_of (te := qn) rfl
 obtain ⟨m, rfl, h3⟩ := qb8 (e := eC) (P := Ce.ok) fun x hx => wfC (h2 x hx)
 have e : LM qn = 8796093021952 := by kernel_rfl
 rw [e, List.length_map] at h1
 exact ⟨m, rfl, h1, h3⟩
theorem zjy {d : D} (h : Wf d qs3) : ∃ l : List Un, d = .r (l.map eU) ∧ l.length ≤ 5864062014634 ∧ ∀ c ∈ l, c.ok := by
 obtain ⟨l, rfl, h1, h2⟩ := h.row_of (te := q17) rfl
 obtain ⟨m, rfl, h3⟩ := qb8 (e := eU) (P := Un.ok) fun x hx => wfU (h2 x hx)
 have e : LM q17 = 5864062014634 := by kernel_rfl
 rw [e, List.length_map] at h1
 exact ⟨m, rfl, h1, h3⟩
theorem zjt {d : D} (h : Wf d q2s) : ∃ l : List Wk, d = .r (l.map eW) ∧ l.length ≤ 3518437208780 ∧ ∀ c ∈ l, c.ok := by
 obtain ⟨l, rfl, h1, h2⟩ := h.row_of (te := zs) rfl
 obtain ⟨m, rfl, h3⟩ := qb8 (e := eW) (P := Wk.ok) fun x hx => wfW (h2 x hx)
 have e : LM zs = 3518437208780 := by kernel_rfl
 rw [e, List.length_map] at h1
 exact ⟨m, rfl, h1, h3⟩
theorem zkg {d : D} (h : Wf d qhz) : ∃ l : List Sy, d = .r (l.map eY) ∧ l.length ≤ 5864062014634 ∧ ∀ c ∈ l, c.ok := by
 obtain ⟨l, rfl, h1, h2⟩ := h.row_of (te := j4) rfl
 obtain ⟨m, rfl, h3⟩ := qb8 (e := eY) (P := Sy.ok) fun x hx => wfY (h2 x hx)
 have e : LM j4 = 5864062014634 := by kernel_rfl
 rw [e, List.length_map] at h1
 exact ⟨m, rfl, h1, h3⟩
theorem wfS {d : D} (h : Wf d qj) : ∃ s, d = eS s ∧ s.ok := by
 obtain ⟨ds, rfl, hl⟩ := h.st_of (fs := [zj, qhz, qs3, q2s, .int .i64, .int .i64]) rfl
 obtain ⟨d0, r, rfl, h0, hl⟩ := q7f hl
 obtain ⟨d1, r, rfl, h1, hl⟩ := q7f hl
 obtain ⟨d2, r, rfl, h2, hl⟩ := q7f hl
 obtain ⟨d3, r, rfl, h3, hl⟩ := q7f hl
 obtain ⟨d4, d5, rfl, h4, h5⟩ := qv6 hl
 obtain ⟨cs, rfl, q0⟩ := zjl h0
 obtain ⟨ys, rfl, q1⟩ := zkg h1
 obtain ⟨tr, rfl, q2⟩ := zjy h2
 obtain ⟨wk, rfl, q3⟩ := zjt h3
 obtain ⟨x, rfl, q4⟩ := wfI h4
 obtain ⟨y, rfl, q5⟩ := wfI h5
 exact ⟨⟨cs, ys, tr, wk, x, y⟩, rfl, q0, q1, q2, q3, q4, q5⟩
def q2q : Ct := ⟨73, [.val (.st 26), .val (.st 32), .val (.str)], [(.st 32, false), (.st 32, false), (.bool, false)], [], none, [], []⟩
theorem qjc : EnZ q2q := fun _ _ => by kernel_rfl
def qpb : Ann := ⟨[0, 1, 2, 3, 4, 6, 7, 8, 9, 37, 65], []⟩
def q7b : Tree :=
 let a : X := .fld (.tok 1) 1
 let f : X := .fld (.tok 0) 0
 let g : X := .lit (.a [(.i 0), (.i 0)])
 let j : X := .lit (.i 0)
 let b : X := .or (.not (.eq (.fld (.tok 1) 0) (.lit (.i 3)))) (.not (.call 0 0 [(.tok 0), a]))
 let c : X := .fld (.get f a) 1
 let d : X := .add a (.lit (.i 2))
 let i : X := .add a (.lit (.i 1))
 let e : X := .or (.lt c j) (.le (.len (.fld (.tok 0) 1)) c)
 let h : X := .or b (.not (.call 0 0 [(.tok 0), d]))
 (.need [(.imp (.not (.not (.eq (.fld (.tok 1) 0) (.lit (.i 3))))) (.ok 0 [(.tok 0), a])), (.imp (.not b) (.rng .i64 d)), (.imp (.not b) (.ok 0 [(.tok 0), d])), (.imp (.not h) (.le j a)), (.imp (.not h) (.lt a (.len f)))] (.br (.or h (.not (.eq (.fld (.get f a) 0) (.lit (.i 4))))) (.leaf [g, g, (.lit (.b .false))]) (.need [(.le j a), (.lt a (.len f))] (.need [(.imp (.not e) (.le j c)), (.imp (.not e) (.lt c (.len (.fld (.tok 0) 1))))] (.br (.or e (.not (.eq (.get (.fld (.tok 0) 1) c) (.mk [(.tok 2), (.lit (.i 2))])))) (.leaf [g, g, (.lit (.b .false))]) (.need [(.le j d), (.lt d (.len f)), (.rng .i64 d), (.le j i), (.lt i (.len f)), (.rng .i64 i)] (.leaf [(.get f i), (.get f d), (.lit (.b .true))])))))))
theorem qlx (g0 : GfZ) : CdZ [(jp, g0)] qpb q2q Try.f73 q7b := fun cd h => by injection h with h; subst h; kernel_rfl
theorem qp8 {g0 g : GfZ} (h0 : FOk jp g0) (h : HgZ q7b q2q [(jp, g0)] g) : FOk q2q g := jc (qlx g0) (.cons h0 .nil) rfl rfl qjc (by decide) h
def q2r : Ct := ⟨74, [.val (.st 26), .val (.st 32)], [(.str, false), (.bool, false)], [], none, [], []⟩
theorem qir : EnZ q2r := fun _ _ => by kernel_rfl
def qpy : Ann := ⟨[0, 1, 2, 3, 4, 5, 21], []⟩
def q7j : Tree := (.br (.or (.or (.not (.eq (.fld (.tok 1) 0) (.lit (.i 2)))) (.lt (.fld (.tok 1) 1) (.lit (.i 0)))) (.le (.len (.fld (.tok 0) 1)) (.fld (.tok 1) 1))) (.leaf [(.lit (.s ⟨#[]⟩)), (.lit (.b .false))]) (.need [(.le (.lit (.i 0)) (.fld (.tok 1) 1)), (.lt (.fld (.tok 1) 1) (.len (.fld (.tok 0) 1)))] (.leaf [(.fld (.get (.fld (.tok 0) 1) (.fld (.tok 1) 1)) 0), (.lit (.b .true))])))
theorem qnx : CdZ [] qpy q2r Try.f74 q7j := fun cd h => by injection h with h; subst h; kernel_rfl
theorem qpn {g : GfZ} (h : HgZ q7j q2r [] g) : FOk q2r g := jc (qnx) .nil rfl rfl qir (by decide) h
def yy : Ct := ⟨48, [.val (.st 64), .val (.st 64)], [(.int .i64, false)], [], none, [], []⟩
theorem q3k : EnZ yy := fun _ _ => by kernel_rfl
def qv : Ct := ⟨92, [.val (.row 65), .val (.int .i64), .val (.int .i64), .fn 48 []], [], [], none, [], []⟩
theorem q2m : EnZ qv := fun _ _ => by kernel_rfl
def q32 : Ann := ⟨[0, 1, 2, 3, 8, 9, 14, 34], [(1, ⟨[(8, .int .i64, false), (0, .row 65, false)], [], [12, 13, 14, 17, 9, 18, 19, 20, 21, 22, 23, 24, 25, 26, 27, 28, 29, 30, 31, 32, 33, 34, 37, 38, 39, 40, 41, 42, 43, 44, 45, 46, 47, 48, 49, 50, 51, 52, 35, 36, 15, 16], []⟩),
 (4, ⟨[(9, .int .i64, false), (0, .row 65, false)], [], [18, 19, 20, 21, 22, 23, 24, 25, 26, 27, 28, 29, 30, 31, 32, 33, 34, 37, 38, 39, 40, 41, 42, 43, 44, 45, 46, 47, 48, 49, 50, 51, 52, 35, 36], []⟩)]⟩
def j3 : Tree :=
 let a : X := .lt (.tok 1) (.tok 5)
 let d : X := .le (.lit (.i 0)) (.tok 5)
 let h : X := .lit (.i 1)
 let i : X := .tok 6
 let b : X := .sub (.tok 5) h
 let c : X := .lt (.tok 5) (.len i)
 let e : X := .rng .i64 b
 let f : X := .lt b (.len i)
 let g : X := .le (.lit (.i 0)) b
 (.need [(.rng .i64 (.add (.tok 1) h))] (.loop 1 3 [(.add (.tok 1) h), (.tok 0)] (.br (.lt (.tok 3) (.tok 2)) (.loop 4 5 [(.tok 3), (.tok 4)] (.need [(.imp a (.ok 0 [(.get i (.tok 5)), (.get i b)])), (.imp a g), (.imp a f), (.imp a d), (.imp a c), (.imp a d), (.imp a c), (.imp a g), (.imp a f), (.imp a g), (.imp a f), (.imp a e), (.imp a e), (.imp a e), (.imp a d), (.imp a c), (.imp a d), (.imp a c), (.imp a d), (.imp a c), (.imp a e), (.imp a e), (.imp a e), (.imp a e), (.imp a e), (.imp a d), (.imp a c), (.imp a d), (.imp a c), (.imp a g), (.imp a f), (.imp a d), (.imp a c), (.imp a e)] (.br (.and a (.lt (.call 0 0 [(.get i (.tok 5)), (.get i b)]) (.lit (.i 0)))) (.bad 6015) (.need [(.rng .i64 (.add (.tok 3) h))] (.back 1 [(.add (.tok 3) h), i]))))) (.leaf []))))
theorem q2p (g0 : GfZ) : CdZ [(yy, g0)] q32 qv Try.f92 j3 := fun cd h => by injection h with h; subst h; kernel_rfl
theorem q33 {g0 g : GfZ} (h0 : FOk yy g0) (h : HgZ j3 qv [(yy, g0)] g) : FOk qv g := jc (q2p g0) (.cons h0 .nil) rfl rfl q2m (by decide) h
def z7 : Ct := ⟨71, [.val (.row 65), .val (.int .i64), .fn 48 []], [], [], none, [], []⟩
theorem q4l : EnZ z7 := fun _ _ => by kernel_rfl
def q5y : Ann := ⟨[0, 1, 2, 6, 7, 8, 9, 13, 30, 35, 54], [(2, ⟨[(7, .int .i64, false), (8, .int .i64, false)], [], [11, 12, 13, 14, 15, 16, 17, 18, 19, 20, 21, 22], []⟩),
 (7, ⟨[(7, .int .i64, false), (8, .int .i64, false), (6, .int .i64, false)], [], [28, 29, 30, 31, 32, 33, 34, 35, 36, 37, 38, 39, 40, 41, 42, 43, 44, 45, 46, 47, 48, 49, 50, 51, 9, 52, 53, 54, 55, 56, 57, 58, 59, 60, 61, 62], []⟩),
 (9, ⟨[(7, .int .i64, false), (8, .int .i64, false)], [], [33, 34, 35, 36, 37, 38, 39, 40, 41, 42, 43, 44, 45, 46, 47, 48], []⟩)]⟩
def q02 : Tree := (.loop 2 2 [(.lit (.i 0)), (.lit (.i 20))] (.br (.le (.tok 3) (.tok 1)) (.need [(.ok 1 [(.tok 0), (.tok 2), (.tok 3)])] (.need [(.rng .i64 (.add (.tok 3) (.lit (.i 20))))] (.back 2 [(.tok 3), (.add (.tok 3) (.lit (.i 20)))]))) (.need [(.ok 1 [(.tok 0), (.tok 2), (.tok 1)])] (.loop 7 4 [(.tok 2), (.tok 3), (.lit (.i 20))] (.br (.lt (.tok 6) (.tok 1)) (.need [(.rng .i64 (.mul (.lit (.i 2)) (.tok 6)))] (.loop 9 7 [(.lit (.i 0)), (.mul (.lit (.i 2)) (.tok 6))] (.br (.le (.tok 8) (.tok 1)) (.bad 10007) (.need [(.rng .i64 (.add (.tok 7) (.tok 6)))] (.br (.lt (.add (.tok 7) (.tok 6)) (.tok 1)) (.bad 15005) (.need [(.rng .i64 (.mul (.tok 6) (.lit (.i 2))))] (.back 7 [(.tok 7), (.tok 8), (.mul (.tok 6) (.lit (.i 2)))]))))))) (.leaf []))))))
theorem q51 (g0 g1 : GfZ) : CdZ [(yy, g0), (qv, g1)] q5y z7 Try.f71 q02 := fun cd h => by injection h with h; subst h; kernel_rfl
theorem q5w {g0 g1 g : GfZ} (h0 : FOk yy g0) (h1 : FOk qv g1) (h : HgZ q02 z7 [(yy, g0), (qv, g1)] g) : FOk z7 g := jc (q51 g0 g1) (.cons h0 (.cons h1 .nil)) rfl rfl q4l (by decide) h
def zp : Ct := ⟨47, [.val (.row 65), .fn 48 []], [], [], none, [], []⟩
theorem q3z : EnZ zp := fun _ _ => by kernel_rfl
def q5e : Ann := ⟨[0, 1], []⟩
def jx : Tree := (.need [(.ok 1 [(.tok 0), (.len (.tok 0))])] (.leaf []))
theorem q4m (g0 g1 : GfZ) : CdZ [(yy, g0), (z7, g1)] q5e zp Try.f47 jx := fun cd h => by injection h with h; subst h; kernel_rfl
theorem q57 {g0 g1 g : GfZ} (h0 : FOk yy g0) (h1 : FOk z7 g1) (h : HgZ jx zp [(yy, g0), (z7, g1)] g) : FOk zp g := jc (q4m g0 g1) (.cons h0 (.cons h1 .nil)) rfl rfl q3z (by decide) h
def cellAt (s : So) (i : Int) : Ce := s.cs.getD i.toNat default
def inS (s : So) (i : Int) : Bool := decide (0 ≤ i) && decide (i < s.cs.length)
def q3v (s : So) (i : Int) : Int := if inS s i then (cellAt s i).t else -1
def arS (s : So) (n : Int) : Int := if 0 ≤ n ∧ n < s.ys.length then (s.ys.getD n.toNat default).ar else -1
def vcR (s : So) (c : Ce) : Bool := if c.t = 0 then inS s c.n && !decide (q3v s c.n = 4) else if c.t = 1 then true else if c.t = 2 then decide (arS s c.n = 0) else if c.t = 3 then decide (q3v s c.n = 4) else if c.t = 5 then decide (q3v s c.n = 5) else false
def vcP (s : So) (c : Ce) : Bool := if c.t = 0 then decide (0 ≤ q3v s c.n) && !decide (q3v s c.n = 4) else if c.t = 1 then true else if c.t = 2 then decide (arS s c.n = 0) else if c.t = 3 then decide (q3v s c.n = 4) else if c.t = 5 then decide (q3v s c.n = 5) else false
def z37 (s : So) (i : Int) : Bool := decide (q3v s (i + 1) = 1) && (decide (1 ≤ (cellAt s (i + 1)).n) && (decide ((cellAt s (i + 1)).n ≤ s.ser) && (decide (0 ≤ q3v s (i + 2)) && (!decide (q3v s (i + 2) = 4) && !decide (q3v s (i + 2) = 5)))))
def qea (f : So → Int → Int) : List D → Option (List D)
 | [s, i] => some [.i (f (dS s) i.int)]
 | _ => none
def qtx (f : So → Int → Bool) : List D → Option (List D)
 | [s, i] => some [.b (f (dS s) i.int)]
 | _ => none
def z4x (q : So → Int → Bool) (f : So → Int → Bool) : List D → Option (List D)
 | [s, i] => if q (dS s) i.int then some [.b (f (dS s) i.int)] else none
 | _ => none
def qgl (f : So → Ce → Bool) : List D → Option (List D)
 | [s, c] => some [.b (f (dS s) (dC c))]
 | _ => none
theorem z8 {s : So} {i : Int} : inS s i = true ↔ 0 ≤ i ∧ i < s.cs.length := by simp [inS]
theorem zy {s : So} {i : Int} (h : inS s i = true) : (D.r (s.cs.map eC)).get i = eC (cellAt s i) := qwd eC (z8.1 h).1 (z8.1 h).2
theorem q8o {s : So} {i : Int} (h : inS s i = true) : q3v s i = (cellAt s i).t := if_pos h
theorem qc7 {s : So} {i : Int} (h : inS s i = false) : q3v s i = -1 := if_neg (by rw [h]; decide)
theorem q6v : FOk yi (qea q3v) := qpk fun ds outs hw hg => by
 obtain ⟨d, r, rfl, hd, e, r', rfl, he, rfl⟩ := hw
 obtain ⟨s, rfl, hs⟩ := wfS hd
 obtain ⟨i, rfl, hi⟩ := wfI he
 simp only [qea, ye, yz, Option.some.injEq] at hg
 subst hg
 simp only [q7u, Tree.go, qf, X.says, X.ev, X.evs, evl, qe, gnA, true_and]
 cases h : inS s i with
 | false =>
  have h' : ¬ (0 ≤ i ∧ i < s.cs.length) := fun q => by rw [z8.2 q] at h; cases h
  have h2 : i < 0 ∨ (s.cs.length : Int) ≤ i := by omega
  simp [qc7 h]
  omega
 | true =>
  have h' := z8.1 h
  have h1 : ¬ i < 0 := by omega
  have h2 : ¬ (s.cs.length : Int) ≤ i := by omega
  simp [zy h, qnv, q8o h, h', h1, h2]
theorem qy7 {s : So} {i : Int} (h : 0 ≤ i ∧ i < s.ys.length) : (D.r (s.ys.map eY)).get i = eY (s.ys.getD i.toNat default) := qwd eY h.1 h.2
theorem qb5 : FOk yv (qea arS) := qiv fun ds outs hw hg => by
 obtain ⟨d, r, rfl, hd, e, r', rfl, he, rfl⟩ := hw
 obtain ⟨s, rfl, hs⟩ := wfS hd
 obtain ⟨i, rfl, hi⟩ := wfI he
 simp only [qea, ye, yz, Option.some.injEq] at hg
 subst hg
 simp only [q59, Tree.go, qf, X.says, X.ev, X.evs, evl, qe, gnA, true_and]
 by_cases h : 0 ≤ i ∧ i < s.ys.length
 ·have h1 : ¬ i < 0 := by omega
  have h2 : ¬ (s.ys.length : Int) ≤ i := by omega
  simp [qy7 h, za3, arS, h, h1, h2]
 ·simp [arS, h]
theorem ym : FOk qm (qgl vcP) := qcu qb5 q6v fun ds outs hw hg => by
 obtain ⟨d, r, rfl, hd, e, r', rfl, he, rfl⟩ := hw
 obtain ⟨s, rfl, hs⟩ := wfS hd
 obtain ⟨c, rfl, hc⟩ := wfC he
 simp only [qgl, ye, ju, Option.some.injEq] at hg
 subst hg
 simp only [q2h, Tree.go, qf, X.says, X.ev, X.evs, evl, qe, gnA, qea, vcP, true_and]
 by_cases h0 : c.t = 0
 ·simp [h0]
 ·by_cases h1 : c.t = 1
  ·simp [h1]
  ·by_cases h2 : c.t = 2
   ·simp [h2]
   ·by_cases h3 : c.t = 3
    ·simp [h3]
    ·by_cases h5 : c.t = 5
     ·simp [h5]
     ·simp [h0, h1, h2, h3, h5]
theorem tag_in {s : So} {i : Int} (h : q3v s i = 1) : inS s i = true := by
 cases hi : inS s i with
 | true => rfl
 | false => rw [qc7 hi] at h; cases h
theorem qns {k k' v : D} : ∀ {l : List D}, mfind k (mset k' v l) = if k' = k then some v else mfind k l
 | [] => by simp [mset, mfind, D.fld, D.fs]
 | p :: l => by
  unfold mset
  split
  ·rename_i h
   by_cases hk : k' = k
   ·simp [mfind, D.fld, D.fs, hk]
   ·have : ¬ (p.fld 0 = k) := fun e => hk (h.symm.trans e)
    simp [mfind, D.fld, D.fs, hk, this]
    intro e
    exact absurd e this
  ·rename_i h
   unfold mfind
   by_cases hk : p.fld 0 = k
   ·have : ¬ (k' = k) := fun e => h (hk.trans e.symm)
    simp [hk, this]
   ·simp only [if_neg hk]
    exact qns
def okY (y : Sy) : Bool := decide (y.name.size ≤ 100) && (decide (0 ≤ y.ar) && decide (y.ar ≤ 8))
def z5y (l : List Sy) (k : Nat) : Bool := okY (l.getD k default) && !decide (l.getD k default ∈ l.take k)
def qqy (l : List Sy) : Bool := decide (l.length ≤ 1048576) && (List.range l.length).all (z5y l)
theorem z6o {s : So} (h : qqy s.ys = true) (n : Int) : -1 ≤ arS s n ∧ arS s n ≤ 8 := by
 unfold arS
 split
 ·rename_i hn
  simp only [qqy, Bool.and_eq_true] at h
  have := qtq h.2 (k := n.toNat) (by omega)
  simp only [z5y, okY, Bool.and_eq_true, decide_eq_true_eq] at this
  omega
 ·omega
def q3p (s : So) : Nat → Int → Bool
 | 0, _ => false
 | k + 1, n => if q3v s n = 0 ∧ ¬ (cellAt s n).n = n then q3p s k (cellAt s n).n else true
def z55 (s : So) (n : Int) : Bool := q3p s (s.cs.length + 1) n
theorem qzs {s : So} {i : Int} {t : Int} (ht : t ≠ -1) (h : q3v s i = t) : inS s i = true := by
 cases hi : inS s i with
 | true => rfl
 | false => rw [qc7 hi] at h; exact absurd h.symm ht
def qq1 (s : So) (i : Int) : Bool :=
 if (cellAt s i).t = 4 then decide (1 ≤ arS s (cellAt s i).n) && (inS s (i + arS s (cellAt s i).n) && (List.range (arS s (cellAt s i).n).toNat).all fun j => !decide (q3v s (i + ((j : Int) + 1)) = 4))
 else vcR s (cellAt s i) && (z55 s i && (!decide ((cellAt s i).t = 5) || (decide ((cellAt s i).n = i) && z37 s i)))
def zk6 (vc : So → Ce → Bool) (rg : So → Int → Bool) (s : So) (u : Un) : Bool :=
 rg s u.at' && if u.old.t = 0 then decide (u.old.n = u.at') else if u.old.t = 5 then decide (u.old.n = u.at') && (z37 s u.at' && !decide (q3v s (u.at' - 1) = 5)) else if u.old.t = 1 ∨ u.old.t = 2 ∨ u.old.t = 3 then vc s u.old else false
def zjz : So → Un → Bool := zk6 vcR inS
section
section
variable {s : So}
def Ns (s : So) (n : Int) : Prop := q3v s n = 0 ∧ ¬ (cellAt s n).n = n
abbrev nx (s : So) (n : Int) : Int := (cellAt s n).n
theorem q84 {k : Nat} {n : Int} (h : Ns s n) : q3p s (k + 1) n = q3p s k (nx s n) := if_pos h
theorem qex {k : Nat} {n : Int} (h : ¬ Ns s n) : q3p s (k + 1) n = true := if_neg h
theorem Ns.inS {n : Int} (h : Ns s n) : inS s n = true := qzs (by decide) h.1
theorem z49 {k : Nat} : ∀ {n : Int}, q3p s k n = true → q3p s (k + 1) n = true := by
 induction k with
 | zero => intro n h; cases h
 | succ k ih =>
  intro n h
  by_cases hn : Ns s n
  ·rw [q84 hn] at h ⊢
   exact ih h
  ·exact qex hn
theorem qlr {k j : Nat} (hk : k ≤ j) {n : Int} (h : q3p s k n = true) : q3p s j n = true := by
 obtain ⟨d, rfl⟩ := Nat.exists_eq_add_of_le hk
 clear hk
 induction d with
 | zero => exact h
 | succ d ih => exact z49 ih
def En (s : So) (n : Int) : Prop := ∃ k, q3p s k n = true
theorem En.st {n : Int} (h : ¬ Ns s n) : En s n := ⟨1, qex h⟩
theorem ql6 : ∀ (n : Nat) (l : List Nat), l.Nodup → (∀ x ∈ l, x < n) → l.length ≤ n
 | 0, [], _, _ => Nat.le_refl _
 | 0, x :: l, _, h => absurd (h x List.mem_cons_self) (Nat.not_lt_zero _)
 | n + 1, l, hn, h => by
  have h1 := ql6 n (l.erase n) (hn.erase n) fun x hx => by
   have h2 := (hn.mem_erase_iff).1 hx
   have := h x h2.2
   have := h2.1
   omega
  have h2 := List.length_erase (a := n) (l := l)
  split at h2 <;> omega
theorem qr9 : ∀ (k : Nat) (n : Int), q3p s (k + 1) n = true → q3p s k n = false → ∃ l : List Int, l.length = k ∧ l.Nodup ∧ (∀ x ∈ l, inS s x = true) ∧ ∀ x ∈ l, ∃ j, j ≤ k ∧ q3p s (j + 1) x = true
 | 0, n, _, _ => ⟨[], rfl, List.nodup_nil, (fun x hx => by cases hx), fun x hx => by cases hx⟩
 | k + 1, n, h1, h2 => by
  have hn : Ns s n := Classical.byContradiction fun hn => by rw [qex hn] at h2; cases h2
  rw [q84 hn] at h1 h2
  obtain ⟨l, e1, e2, e3, e4⟩ := qr9 k _ h1 h2
  refine ⟨n :: l, by simp [e1], ?_, fun x hx => ?_, fun x hx => ?_⟩
  ·refine List.nodup_cons.2 ⟨fun hm => ?_, e2⟩
   obtain ⟨j, hj, he⟩ := e4 n hm
   rw [q84 hn] at he
   rw [qlr hj he] at h2
   cases h2
  ·rcases List.mem_cons.1 hx with rfl | hx
   ·exact hn.inS
   ·exact e3 x hx
  ·rcases List.mem_cons.1 hx with rfl | hx
   ·exact ⟨k + 1, Nat.le_refl _, by rw [q84 hn]; exact h1⟩
   ·obtain ⟨j, hj, he⟩ := e4 x hx
    exact ⟨j, by omega, he⟩
theorem En.ends {n : Int} (h : En s n) : z55 s n = true := by
 obtain ⟨k, hk⟩ := h
 induction k with
 | zero => cases hk
 | succ k ih =>
  cases hk' : q3p s k n with
  | true => exact ih hk'
  | false =>
   obtain ⟨l, e1, e2, e3, -⟩ := qr9 k n hk hk'
   have h1 := ql6 s.cs.length (l.map Int.toNat) ?_ ?_
   ·rw [List.length_map, e1] at h1
    exact qlr (by omega) hk
   ·refine List.Pairwise.map _ (fun a b h => h) ?_
    refine List.Pairwise.imp_of_mem (R := fun a b => a ≠ b) (fun {a b} ha hb hab e => hab ?_) e2
    have h1 := z8.1 (e3 a ha)
    have h2 := z8.1 (e3 b hb)
    omega
   ·intro x hx
    obtain ⟨a, ha, rfl⟩ := List.mem_map.1 hx
    have h1 := z8.1 (e3 a ha)
    omega
end
end
instance {s : So} {n : Int} : Decidable (Ns s n) := inferInstanceAs (Decidable (_ ∧ _))
def wkB (vc : So → Ce → Bool) (s : So) (w : Wk) : Bool := decide (1 ≤ w.ser) && (decide (w.ser ≤ s.ser) && (vc s w.att && vc s w.val))
def qvu (s : So) : Bool := decide (1 ≤ s.mx) && (decide (s.mx ≤ 1048576) && (decide ((s.cs.length : Int) ≤ s.mx) && (decide (0 ≤ s.ser) && qqy s.ys)))
def jh (s : So) : Bool := qvu s && ((List.range s.cs.length).all (fun i => qq1 s (i : Nat)) && ((List.range s.tr.length).all (fun i => zjz s (s.tr.getD i default)) && (List.range s.wk.length).all fun i => wkB vcR s (s.wk.getD i default)))
def gEq : List D → Option (List D)
 | [a, b] => some [.b (decide (a = b))]
 | _ => none
def z7z (n : Nat) (d : D) : Bool := decide (d.rs.length ≤ n)
theorem qyr (n : Nat) (l : List D) : (z7z n (.r l) = true) = (l.length ≤ n) := by simp only [z7z, decide_eq_true_eq]; rfl
def gCl (n : Nat) : List D → Option (List D)
 | [a] => if z7z n a then some [a] else none
 | _ => none
def clT (n : Nat) : Tree := (.amb (.tok 0) .false (.leaf [(.lit (.r []))]) (.need [(.le (.add (.lit (.i 0)) (.len (.tok 0))) (.lit (.i (n : Nat))))] (.leaf [(.app (.row []) (.tok 0))])))
theorem z5h {S : Nat → List D → Option (List D)} {l : List D} {R : List D → Prop} {B : Nat → List D → Prop} {n : Nat} (hl : l.length ≤ n) (hR : R [.r l]) : (clT n).go S R [.r l] B := by
 refine ⟨fun h => ?_, fun _ => ?_⟩
 ·have : l = [] := h rfl
  subst this
  exact hR
 ·rw [qa]
  refine ⟨by simp only [qa, qg, qb, qd, qf, X.says, X.ev, X.evs, evl, qe, gnA]; omega, ?_⟩
  simpa [qb, X.evs, X.ev, evl, D.rs] using hR
theorem qbp : FOk jl (gCl 3518437208780) := qaw fun ds outs hw hg => by
 obtain ⟨d, r, rfl, hd, rfl⟩ := hw
 obtain ⟨l, te, rfl, -⟩ := hd.row
 simp only [gCl, qyr, Option.ite_none_right_eq_some, Option.some.injEq] at hg
 obtain ⟨h1, rfl⟩ := hg
 exact z5h h1 rfl
def fnd (nm : ByteArray) (ar : Int) : Nat → List Sy → Int
 | _, [] => -1
 | k, y :: l => if y.name = nm ∧ y.ar = ar then (k : Int) else fnd nm ar (k + 1) l
def qb1 (s : So) (nm : ByteArray) (ar : Int) : Int := fnd nm ar 0 s.ys
theorem qqv {α : Type} [Inhabited α] {l : List α} {k : Nat} (h : k < l.length) : l.drop k = l.getD k default :: l.drop (k + 1) := by
 rw [List.drop_eq_getElem_cons h]
 simp [List.getD_eq_getElem?_getD, h]
theorem z65 {nm : ByteArray} {ar : Int} {l : List Sy} {k : Nat} (h : k < l.length) : fnd nm ar k (l.drop k) = if (l.getD k default).name = nm ∧ (l.getD k default).ar = ar then (k : Int) else fnd nm ar (k + 1) (l.drop (k + 1)) := by
 rw [qqv h]
 rfl
def q9v : List D → Option (List D)
 | [s, y] => some [.i (qb1 (dS s) (y.fld 0).str (y.fld 1).int)]
 | _ => none
def zjk : List D → Option (List D)
 | [s, nm, ar] => some [.i (qb1 (dS s) nm.str ar.int)]
 | _ => none
theorem qde : FOk zq q9v := qoe fun ds outs hw hg => by
 obtain ⟨d, r, rfl, hd, e, r', rfl, he, rfl⟩ := hw
 obtain ⟨s, rfl, hs⟩ := wfS hd
 obtain ⟨y, rfl, hy⟩ := wfY he
 simp only [q9v, ye, z3o, za3, q4p, yz, Option.some.injEq] at hg
 subst hg
 have hl := hs.ys.1
 rw [q62, jm]
 refine ⟨fun st => ∃ k : Nat, k ≤ s.ys.length ∧ st = [.i 0, .i k] ∧ fnd y.name y.ar k (s.ys.drop k) = qb1 s y.name y.ar, fun st => s.ys.length - (st.getD 1 .u).int.toNat, ⟨0, Nat.zero_le _, rfl, rfl⟩, ?_⟩
 rintro st - ⟨k, hk, rfl, hf⟩
 simp only [qa, qg, qb, qd, qf, X.says, X.ev, X.evs, evl, qe, gnA]
 refine ⟨fun hlt => ?_, fun hlt => ?_⟩
 ·have hkn : k < s.ys.length := by omega
  rw [z65 hkn] at hf
  simp only [qba eY hkn, qvp]
  generalize s.ys.getD k default = z at hf
  refine ⟨⟨by omega, by omega⟩, fun he => ?_, fun he => ⟨⟨by omega, by omega⟩, ?_⟩⟩
  ·have he' : z = y := by simpa using he
   subst he'
   rw [if_pos ⟨rfl, rfl⟩] at hf
   rw [← hf]
  ·have he' : ¬ z = y := by simpa using he
   have hne : ¬ (z.name = y.name ∧ z.ar = y.ar) := fun h => he' (by cases z; cases y; simp_all)
   rw [if_neg hne] at hf
   rw [q3l, if_pos rfl]
   refine ⟨⟨k + 1, hkn, by simp, hf⟩, ?_⟩
   simp [D.int]
   omega
 ·have : k = s.ys.length := by omega
  subst this
  rw [List.drop_length] at hf
  rw [← hf]
  rfl
def qdw (nm : ByteArray) (ar : Int) : Bool := decide (100 < (nm.size : Int)) || (decide (ar < 0) || decide (8 < ar))
def z9x : List D → Option (List D)
 | [s, nm, ar] => if qdw nm.str ar.int then some [.i 0, .i 1, eS (dS s)] else if decide (0 ≤ qb1 (dS s) nm.str ar.int) then some [.i (qb1 (dS s) nm.str ar.int), .i 0, eS (dS s)]
   else if decide (1048576 ≤ (dS s).ys.length) then some [.i 0, .i 13, eS (dS s)] else some [.i (dS s).ys.length, .i 0, eS { dS s with ys := (dS s).ys ++ [⟨nm.str, ar.int⟩] }]
 | _ => none
theorem zgb (s : So) (y : Sy) : D.a ((eS s).fs.set 1 (.r (s.ys.map eY ++ [eY y]))) = eS { s with ys := s.ys ++ [y] } := by simp [eS, D.fs]
theorem qj4 : FOk z6 z9x := qhg qde fun ds outs hw hg => by
 obtain ⟨d, r, rfl, hd, e, r', rfl, he, f, r2, rfl, hf', rfl⟩ := hw
 obtain ⟨s, rfl, hs⟩ := wfS hd
 obtain ⟨nm, rfl, hn⟩ := he.str
 obtain ⟨ar, rfl, ha⟩ := wfI hf'
 simp only [z9x, ye, q4p, yz] at hg
 have ey : D.a [.s nm, .i ar] = eY ⟨nm, ar⟩ := rfl
 simp only [q4j, qa, qg, qb, qd, qf, X.says, X.ev, X.evs, evl, qe, gnA, q9v, ey, zgb]
 cases hb : qdw nm ar with
 | true =>
  simp only [hb, if_true, Option.some.injEq] at hg
  subst hg
  have hb' : (decide (100 < (nm.size : Int)) || decide (ar < 0) || decide (8 < ar)) = true := by rw [Bool.or_assoc]; exact hb
  rw [hb']
  exact ⟨fun _ => rfl, fun h => (by cases h)⟩
 | false =>
  simp only [hb, Bool.false_eq_true, if_false] at hg
  have hb' : (decide (100 < (nm.size : Int)) || decide (ar < 0) || decide (8 < ar)) = false := by rw [Bool.or_assoc]; exact hb
  rw [hb']
  refine ⟨fun h => (by cases h), fun _ => ⟨fun h0 => ?_, fun h0 => ⟨fun h1 => ?_, fun h1 => ?_⟩⟩⟩
  ·rw [if_pos (decide_eq_true h0)] at hg
   exact Option.some.inj hg
  ·have h1' : 1048576 ≤ s.ys.length := by omega
   rw [if_neg (by simpa using h0), if_pos (decide_eq_true h1')] at hg
   exact Option.some.inj hg
  ·have h1' : ¬ 1048576 ≤ s.ys.length := by omega
   rw [if_neg (by simpa using h0), if_neg (by simpa using h1')] at hg
   have := Option.some.inj hg
   subst this
   simp [eS, D.fld, D.fs, D.rs]
   omega
def qsk : List D → Option (List D)
 | [s] => if decide ((dS s).mx ≤ (dS s).cs.length) then some [eC ⟨0, 0⟩, .i 13, eS (dS s)] else if decide ((dS s).cs.length < 8796093021952) then some [eC ⟨0, (dS s).cs.length⟩, .i 0, eS { dS s with cs := (dS s).cs ++ [⟨0, (dS s).cs.length⟩] }] else none
 | _ => none
theorem qyh (s : So) (y : Ce) : D.a ((eS s).fs.set 0 (.r (s.cs.map eC ++ [eC y]))) = eS { s with cs := s.cs ++ [y] } := by simp [eS, D.fs]
theorem qbl : FOk qy qsk := qjh fun ds outs hw hg => by
 obtain ⟨d, r, rfl, hd, rfl⟩ := hw
 obtain ⟨s, rfl, hs⟩ := wfS hd
 simp only [qsk, ye] at hg
 simp only [q5h, qa, qg, qb, qd, qf, X.says, X.ev, X.evs, evl, qe, gnA, q82, qyh]
 refine ⟨fun h0 => ?_, fun h0 => ?_⟩
 ·rw [if_pos (decide_eq_true h0)] at hg
  exact Option.some.inj hg
 ·rw [if_neg (by simpa using h0)] at hg
  split at hg
  ·rename_i h1
   have h1 := of_decide_eq_true h1
   have := Option.some.inj hg
   exact ⟨by omega, this⟩
  ·cases hg
structure VS (s : So) : Prop where
 tag : ∀ i : Int, inS s i = true → 0 ≤ (cellAt s i).t ∧ (cellAt s i).t ≤ 5
theorem zae {s : So} {c : Ce} (h : vcR s c = true) : c.t = 0 ∨ c.t = 1 ∨ c.t = 2 ∨ c.t = 3 ∨ c.t = 5 := by
 unfold vcR at h
 by_cases h0 : c.t = 0
 ·exact .inl h0
 ·by_cases h1 : c.t = 1
  ·exact .inr (.inl h1)
  ·by_cases h2 : c.t = 2
   ·exact .inr (.inr (.inl h2))
   ·by_cases h3 : c.t = 3
    ·exact .inr (.inr (.inr (.inl h3)))
    ·by_cases h5 : c.t = 5
     ·exact .inr (.inr (.inr (.inr h5)))
     ·simp [h0, h1, h2, h3, h5] at h
theorem qho {s : So} (h : jh s = true) : VS s := by
 simp only [jh, Bool.and_eq_true] at h
 refine ⟨fun i hi => ?_⟩
 have h1 := z8.1 hi
 have hk := qtq h.2.1 (k := i.toNat) (by omega)
 rw [show ((i.toNat : Nat) : Int) = i by omega] at hk
 unfold qq1 at hk
 by_cases h4 : (cellAt s i).t = 4
 ·omega
 ·rw [if_neg h4] at hk
  simp only [Bool.and_eq_true] at hk
  have := zae hk.1
  omega
theorem VS.tag_in {s : So} (h : VS s) (n : Int) : decide (0 ≤ q3v s n) = inS s n := by
 cases hi : inS s n with
 | true =>
  rw [q8o hi]
  exact decide_eq_true (h.tag n hi).1
 | false =>
  rw [qc7 hi]
  decide
theorem VS.vc {s : So} (h : VS s) (c : Ce) : vcP s c = vcR s c := by
 unfold vcP vcR
 rw [h.tag_in]
def so0 : So := ⟨[], [], [], [], 0, 0⟩
def qy0 (n : Int) : Bool := decide (n < 1) || decide (1048576 < n)
def zh4 : List D → Option (List D)
 | [n] => if qy0 n.int then some [eS so0, .i 1] else some [eS { so0 with mx := n.int }, .i 0]
 | _ => none
theorem qrr : FOk q0l zh4 := qpg fun ds outs hw hg => by
 obtain ⟨d, r, rfl, hd, rfl⟩ := hw
 obtain ⟨n, rfl, hn⟩ := wfI hd
 have hg2 : (if qy0 n = true then some [eS so0, D.i 1] else some [eS { so0 with mx := n }, D.i 0]) = some outs := hg
 clear hg
 simp only [q7o, qa, qg, qb, qd, qf, X.says, X.ev, X.evs, evl, qe, gnA]
 cases hb : qy0 n with
 | true =>
  rw [hb, if_pos rfl] at hg2
  have hb' : (decide (n < 1) || decide (1048576 < n)) = true := hb
  rw [hb']
  exact ⟨fun _ => Option.some.inj hg2, fun h => (by cases h)⟩
 | false =>
  rw [hb] at hg2
  have hb' : (decide (n < 1) || decide (1048576 < n)) = false := hb
  rw [hb']
  exact ⟨fun h => (by cases h), fun _ => Option.some.inj hg2⟩
inductive Te where
 | mk (k n : Int) (s : ByteArray) (l : List Te)
instance : Inhabited Te := ⟨.mk 0 0 ⟨#[]⟩ []⟩
def Te.k : Te → Int | .mk k _ _ _ => k
def Te.n : Te → Int | .mk _ n _ _ => n
def Te.s : Te → ByteArray | .mk _ _ s _ => s
def Te.l : Te → List Te | .mk _ _ _ l => l
mutual
theorem Te.ind0 {P : Te → Prop} (h : ∀ k n s l, (∀ t ∈ l, P t) → P (.mk k n s l)) : ∀ t, P t
 | .mk k n s l => h k n s l (Te.inds h l)
theorem Te.inds {P : Te → Prop} (h : ∀ k n s l, (∀ t ∈ l, P t) → P (.mk k n s l)) : ∀ (l : List Te), ∀ t ∈ l, P t
 | [], _, ht => by cases ht
 | u :: l, t, ht => by
  exact (List.mem_cons.1 ht).elim (fun e => e ▸ Te.ind0 h u) fun h' => Te.inds h l t h'
end
mutual
def eT : Te → D
 | .mk k n s l => .a [.i k, .i n, .s s, .r (eTs l)]
def eTs : List Te → List D
 | [] => []
 | t :: l => eT t :: eTs l
end
theorem qzn : ∀ l, eTs l = l.map eT
 | [] => rfl
 | t :: l => by rw [eTs, qzn l, List.map_cons]
theorem qg0 (k n : Int) (s : ByteArray) (l : List Te) : eT (.mk k n s l) = .a [.i k, .i n, .s s, .r (l.map eT)] := by rw [eT, qzn]
mutual
def dT : D → Te
 | .a [.i k, .i n, .s s, .r l] => .mk k n s (dTs l)
 | _ => .mk 0 0 ⟨#[]⟩ []
def dTs : List D → List Te
 | [] => []
 | d :: l => dT d :: dTs l
end
mutual
theorem je : ∀ t, dT (eT t) = t
 | .mk k n s l => by simp only [eT, dT, z11 l]
theorem z11 : ∀ l, dTs (eTs l) = l
 | [] => rfl
 | t :: l => by simp only [eTs, dTs, je t, z11 l]
end
theorem zg8 {t u : Te} (h : eT t = eT u) : t = u := by rw [← je t, h, je u]
theorem zck (t u : Te) : (eT t = eT u) = (t = u) := propext ⟨zg8, fun h => h ▸ rfl⟩
theorem zdz (t : Te) : (eT t).fld 0 = .i t.k := by cases t; rfl
theorem zgi (t : Te) : (eT t).fld 1 = .i t.n := by cases t; rfl
theorem ze0 (t : Te) : (eT t).fld 2 = .s t.s := by cases t; rfl
theorem zhn (t : Te) : (eT t).fld 3 = .r (t.l.map eT) := by cases t; rw [qg0]; rfl
theorem z0j (k n : Int) (s : ByteArray) (l : List Te) (x : Te) : D.a ((eT (.mk k n s l)).fs.set 3 (.r (l.map eT ++ [eT x]))) = eT (.mk k n s (l ++ [x])) := by
 rw [qg0, qg0]
 simp [D.fs]
def zT : Te := .mk 0 0 ⟨#[]⟩ []
theorem zj6 : D.a [.i 0, .i 0, .s ⟨#[]⟩, .r []] = eT zT := rfl
theorem gnT : type_of% (And.intro @je (And.intro @zdz (And.intro @zgi (And.intro @ze0 (And.intro @zhn (And.intro @zck @zj6)))))) := And.intro @je (And.intro @zdz (And.intro @zgi (And.intro @ze0 (And.intro @zhn (And.intro @zck @zj6)))))
mutual
def szT : Te → Nat
 | .mk _ _ _ l => q1s l + 1
def q1s : List Te → Nat
 | [] => 0
 | t :: l => szT t + q1s l
end
theorem z9j (t : Te) : 1 ≤ szT t := by cases t; rw [szT]; omega
theorem qmn {t : Te} : ∀ {l : List Te}, t ∈ l → szT t ≤ q1s l
 | u :: l, h => by
  rcases List.mem_cons.1 h with rfl | h
  ·rw [q1s]; omega
  ·have := qmn h; rw [q1s]; omega
theorem zcb {t u : Te} (h : u ∈ t.l) : szT u < szT t := by
 cases t
 have := qmn h
 rw [szT]
 exact Nat.lt_succ_of_le this
theorem qbk : ∀ (l m : List Te), q1s (l ++ m) = q1s l + q1s m
 | [], m => by simp [q1s]
 | t :: l, m => by rw [List.cons_append, q1s, q1s, qbk l m]; omega
theorem qce {l : List Te} {k : Nat} (h : k < l.length) : q1s (l.take (k + 1)) = q1s (l.take k) + szT (l.getD k default) := by
 rw [qca h, qbk]
 simp [q1s]
theorem qv1 : ∀ (l : List Te), l.length ≤ q1s l
 | [] => Nat.le_refl _
 | t :: l => by have := qv1 l; have := z9j t; rw [q1s, List.length_cons]; omega
theorem zcu (t : Te) : szT t = q1s t.l + 1 := by cases t; rw [szT]; rfl
mutual
def okT : Te → Prop
 | .mk k n s l => i64 k ∧ i64 n ∧ s.size ≤ LIM ∧ l.length ≤ 2513169434843 ∧ z9w l
def z9w : List Te → Prop
 | [] => True
 | t :: l => okT t ∧ z9w l
end
theorem qvd : ∀ {l : List Te}, z9w l ↔ ∀ t ∈ l, okT t
 | [] => ⟨fun _ t h => (by cases h), fun _ => trivial⟩
 | t :: l => by rw [z9w, qvd]; simp
theorem z4c {k n : Int} {s : ByteArray} {l : List Te} : okT (.mk k n s l) ↔ i64 k ∧ i64 n ∧ s.size ≤ LIM ∧ l.length ≤ 2513169434843 ∧ ∀ t ∈ l, okT t := by rw [okT, qvd]
theorem okT.l {t : Te} (h : okT t) : t.l.length ≤ 2513169434843 := by cases t; exact (z4c.1 h).2.2.2.1
theorem z20 (d : D) : (Wf d qhh → ∃ t, d = eT t ∧ okT t) ∧ (Wf d qer → ∃ l : List Te, d = .r (l.map eT) ∧ l.length ≤ 2513169434843 ∧ ∀ t ∈ l, okT t) := by
 have noS : ∀ {d : D}, Wf d qhh → ∃ l, d = .a l := fun h => let ⟨l, e, _⟩ := h.st_of (fs := [.int .i64, .int .i64, .str, qer]) rfl; ⟨l, e⟩
 have noR : ∀ {d : D}, Wf d qer → ∃ l, d = .r l := fun h => let ⟨l, e, _⟩ := h.row_of (te := qhh) rfl; ⟨l, e⟩
 induction d using D.ind with
 | hu => exact ⟨fun h => (by obtain ⟨_, e⟩ := noS h; cases e), fun h => (by obtain ⟨_, e⟩ := noR h; cases e)⟩
 | hi n => exact ⟨fun h => (by obtain ⟨_, e⟩ := noS h; cases e), fun h => (by obtain ⟨_, e⟩ := noR h; cases e)⟩
 | hb n => exact ⟨fun h => (by obtain ⟨_, e⟩ := noS h; cases e), fun h => (by obtain ⟨_, e⟩ := noR h; cases e)⟩
 | hs n => exact ⟨fun h => (by obtain ⟨_, e⟩ := noS h; cases e), fun h => (by obtain ⟨_, e⟩ := noR h; cases e)⟩
 | hm n => exact ⟨fun h => (by obtain ⟨_, e⟩ := noS h; cases e), fun h => (by obtain ⟨_, e⟩ := noR h; cases e)⟩
 | ha l ih =>
  refine ⟨fun h => ?_, fun h => (by obtain ⟨_, e⟩ := noR h; cases e)⟩
  obtain ⟨ds, e, hl⟩ := h.st_of (fs := [.int .i64, .int .i64, .str, qer]) rfl
  injection e with e
  subst e
  obtain ⟨d0, r, rfl, h0, hl⟩ := q7f hl
  obtain ⟨d1, r, rfl, h1, hl⟩ := q7f hl
  obtain ⟨d2, d3, rfl, h2, h3⟩ := qv6 hl
  obtain ⟨k, rfl, hk⟩ := wfI h0
  obtain ⟨n, rfl, hn⟩ := wfI h1
  obtain ⟨s, rfl, hs⟩ := h2.str
  obtain ⟨ts, rfl, h4, h5⟩ := (ih d3 (by simp)).2 h3
  exact ⟨.mk k n s ts, (qg0 _ _ _ _).symm, z4c.2 ⟨hk, hn, hs, h4, h5⟩⟩
 | hr l ih =>
  refine ⟨fun h => (by obtain ⟨_, e⟩ := noS h; cases e), fun h => ?_⟩
  obtain ⟨l', e, h1, h2⟩ := h.row_of (te := qhh) rfl
  injection e with e
  subst e
  obtain ⟨m, rfl, h3⟩ := qb8 (e := eT) (P := okT) fun x hx => (ih x hx).1 (h2 x hx)
  have e : LM qhh = 2513169434843 := by kernel_rfl
  rw [e, List.length_map] at h1
  exact ⟨m, rfl, h1, h3⟩
theorem wfT {d : D} (h : Wf d qhh) : ∃ t, d = eT t ∧ okT t := (z20 d).1 h
theorem zil {d : D} (h : Wf d qer) : ∃ l : List Te, d = .r (l.map eT) ∧ l.length ≤ 2513169434843 ∧ ∀ t ∈ l, okT t := (z20 d).2 h
def q41 (t : Te) : Bool :=
 if t.k = 0 then decide (0 ≤ t.n) && (decide (t.n ≤ 1099511627776) && (decide (t.s = ⟨#[]⟩) && decide ((t.l.length : Int) = 0)))
 else if t.k = 1 then decide (t.s = ⟨#[]⟩) && decide ((t.l.length : Int) = 0)
 else if t.k = 2 then decide (t.n = 0) && (decide ((t.s.size : Int) ≤ 100) && decide ((t.l.length : Int) = 0))
 else if t.k = 3 then decide (t.n = 0) && (decide ((t.s.size : Int) ≤ 100) && (decide (1 ≤ (t.l.length : Int)) && decide ((t.l.length : Int) ≤ 8)))
 else false
mutual
def yd : Te → Bool
 | .mk k n s l => q41 (.mk k n s l) && q3b l
def q3b : List Te → Bool
 | [] => true
 | t :: l => yd t && q3b l
end
theorem q8g : ∀ {l : List Te}, q3b l = true ↔ ∀ t ∈ l, yd t = true
 | [] => ⟨fun _ t h => (by cases h), fun _ => rfl⟩
 | t :: l => by rw [q3b, Bool.and_eq_true, q8g]; simp
theorem qlo (t : Te) : yd t = (q41 t && (List.range t.l.length).all fun i => yd (t.l.getD i default)) := by
 cases t with
 | mk k n s l =>
  rw [yd]
  congr 1
  rw [Bool.eq_iff_iff, q8g, List.all_eq_true]
  refine ⟨fun h i hi => h _ (q7p (List.mem_range.1 hi)), fun h t ht => ?_⟩
  obtain ⟨i, hi, rfl⟩ := List.getElem_of_mem ht
  have := h i (List.mem_range.2 hi)
  rwa [show (Te.mk k n s l).l.getD i default = l[i] by simp [Te.l, List.getD_eq_getElem?_getD, List.getElem?_eq_getElem hi]] at this
def q0b (t : Te) : Bool := decide (szT t ≤ 2000) && yd t
mutual
def idT : Te → Te → Bool
 | .mk k n s l, .mk k' n' s' l' => decide (k = k') && (decide (n = n') && (decide (s = s') && qy3 l l'))
def qy3 : List Te → List Te → Bool
 | [], [] => true
 | t :: l, u :: m => idT t u && qy3 l m
 | _, _ => false
end
mutual
theorem qf0 : ∀ (t u : Te), idT t u = true ↔ t = u
 | .mk k n s l, .mk k' n' s' l' => by simp [idT, qx6 l l']
theorem qx6 : ∀ (l m : List Te), qy3 l m = true ↔ l = m
 | [], [] => by simp [qy3]
 | t :: l, u :: m => by simp [qy3, qf0 t u, qx6 l m]
 | [], _ :: _ => by simp [qy3]
 | _ :: _, [] => by simp [qy3]
end
instance : DecidableEq Te := fun t u => if h : idT t u = true then .isTrue ((qf0 t u).1 h) else .isFalse fun e => h ((qf0 t u).2 e)
def mT (ds : List D) : Nat := szT (dT (ds.getD 0 .u))
def z8j : List D → Option (List D)
 | [t, m] => if 1 ≤ m.int then some [.i (min (szT (dT t) : Int) m.int)] else none
 | _ => none
def gTi (f : Te → Int) : List D → Option (List D)
 | [t] => some [.i (f (dT t))]
 | _ => none
def gTb (f : Te → Bool) : List D → Option (List D)
 | [t] => some [.b (f (dT t))]
 | _ => none
def gTT (f : Te → Te) : List D → Option (List D)
 | [t] => some [eT (f (dT t))]
 | _ => none
def quy (f : Te → Te → Bool) : List D → Option (List D)
 | [t, v] => some [.b (f (dT t) (dT v))]
 | _ => none
theorem zii (k n : Int) (s : ByteArray) (l : List Te) : (Te.mk k n s l).l = l := rfl
theorem q8u {l : List Te} {k : Nat} (h : k < l.length) : (D.r (l.map eT)).get (k : Int) = eT (l.getD k default) := qba eT h
theorem qb2 {t : Te} {k : Nat} (h : k < t.l.length) : szT (t.l.getD k default) < szT t := zcb (q7p h)
theorem qo2 : FOk yq z8j := q8k (m := mT) q8v fun N ih => qiz ih fun ds outs hw hg => by
 obtain ⟨d, r, rfl, hd, e, r', rfl, he, rfl⟩ := hw
 obtain ⟨t, rfl, ht⟩ := wfT hd
 obtain ⟨m, rfl, hm⟩ := wfI he
 simp only [q3u, mT, z8j, List.getD_cons_zero, je, yz, Option.ite_none_right_eq_some, Option.some.injEq] at hg
 obtain ⟨hsz, h1, rfl⟩ := hg
 have hl := ht.l
 rw [q53, jm]
 refine ⟨fun st => ∃ k : Nat, k ≤ t.l.length ∧ st = [.i (min ((q1s (t.l.take k) : Int) + 1) m), .i k], fun st => t.l.length - (st.getD 1 .u).int.toNat, ⟨0, Nat.zero_le _, by simp [X.evs, X.ev, q1s]; omega⟩, ?_⟩
 rintro st - ⟨k, hk, rfl⟩
 rw [qg]
 refine ⟨fun hlt => ?_, fun hlt => ?_⟩
 ·simp only [qa, qg, qb, qd, qf, X.says, X.ev, X.evs, evl, qe, gnA, gnT, Bool.and_eq_true] at hlt
  obtain ⟨hkl, hlm⟩ := hlt
  have hkl' : k < t.l.length := by omega
  have ha := qb2 hkl'
  have hs := qce hkl'
  have hmn : 1 ≤ m - min ((q1s (t.l.take k) : Int) + 1) m := by omega
  simp only [qa, qg, qb, qd, qf, X.says, X.ev, X.evs, evl, qe, gnA, gnT, q8u hkl', q3u, mT, z8j, if_pos hmn, if_pos (show szT (t.l.getD k default) < N by omega)]
  refine ⟨⟨by omega, by omega, by omega, by omega⟩, ⟨by omega, by omega⟩, ?_⟩
  rw [q3l, if_pos rfl]
  refine ⟨⟨k + 1, by omega, ?_⟩, ?_⟩
  ·rw [hs]
   simp
   omega
  ·simp [D.int]
   omega
 ·simp only [qa, qg, qb, qd, qf, X.says, X.ev, X.evs, evl, qe, gnA, gnT, Bool.and_eq_false_iff] at hlt
  simp only [qa, qg, qb, qd, qf, X.says, X.ev, X.evs, evl, qe, gnA, gnT]
  have hz := zcu t
  have : min ((q1s (t.l.take k) : Int) + 1) m = min (szT t : Int) m := by
   rcases hlt with h | h
   ·have : k = t.l.length := by omega
    subst this
    rw [List.take_length]
    omega
   ·have h2 := qbk (t.l.take k) (t.l.drop k)
    rw [List.take_append_drop] at h2
    omega
  rw [this]
theorem qq0 : FOk q0q (gTi fun t => min (szT t : Int) 2001) := qmh qo2 fun ds outs hw hg => by
 obtain ⟨d, r, rfl, hd, rfl⟩ := hw
 obtain ⟨t, rfl, ht⟩ := wfT hd
 simp only [gTi, je, Option.some.injEq] at hg
 subst hg
 simp [q6c, qa, qg, qb, qd, qf, X.says, X.ev, X.evs, evl, qe, gnA, gnT, z8j]
theorem qol : FOk q0p (gTb q41) := qo9 fun ds outs hw hg => by
 obtain ⟨d, r, rfl, hd, rfl⟩ := hw
 obtain ⟨t, rfl, ht⟩ := wfT hd
 simp only [gTb, je, Option.some.injEq] at hg
 subst hg
 simp only [q6f, qa, qg, qb, qd, qf, X.says, X.ev, X.evs, evl, qe, gnA, gnT, q41]
 by_cases h0 : t.k = 0
 ·simp [h0, Bool.and_assoc]
 ·by_cases h1 : t.k = 1
  ·simp [h1]
  ·by_cases h2 : t.k = 2
   ·simp [h2, Bool.and_assoc]
   ·by_cases h3 : t.k = 3
    ·simp [h3, Bool.and_assoc]
    ·simp [h0, h1, h2, h3]
theorem q70 (t : Te) : yd t = true ↔ q41 t = true ∧ ∀ j, j < t.l.length → yd (t.l.getD j default) = true := by
 rw [qlo, Bool.and_eq_true, List.all_eq_true]
 simp
theorem qmf : FOk yp (gTb yd) := q8k (m := mT) q8i fun N ih => qk5 qol ih fun ds outs hw hg => by
 obtain ⟨d, r, rfl, hd, rfl⟩ := hw
 obtain ⟨t, rfl, ht⟩ := wfT hd
 simp only [q3u, mT, gTb, List.getD_cons_zero, je, yz, Option.ite_none_right_eq_some, Option.some.injEq] at hg
 obtain ⟨hsz, rfl⟩ := hg
 have hl := ht.l
 simp only [q4t, qa, qg, qb, qd, qf, X.says, X.ev, X.evs, evl, qe, gnA, gnT, gTb]
 refine ⟨fun hn => ?_, fun hn => ?_⟩
 ·rw [qlo, show q41 t = false by simpa using hn]
  rfl
 have hn : q41 t = true := by simpa using hn
 rw [jm]
 refine ⟨fun st => ∃ k : Nat, k ≤ t.l.length ∧ st = [.b false, .i k] ∧ ∀ j, j < k → yd (t.l.getD j default) = true, fun st => t.l.length - (st.getD 1 .u).int.toNat, ⟨0, Nat.zero_le _, rfl, fun j hj => absurd hj (Nat.not_lt_zero _)⟩, ?_⟩
 rintro st - ⟨k, hk, rfl, hP⟩
 rw [qg]
 refine ⟨fun hlt => ?_, fun hlt => ?_⟩
 ·simp only [qa, qg, qb, qd, qf, X.says, X.ev, X.evs, evl, qe, gnA, gnT] at hlt
  have hkl' : k < t.l.length := by omega
  have ha := qb2 hkl'
  simp only [qa, qg, qb, qd, qf, X.says, X.ev, X.evs, evl, qe, gnA, gnT, q8u hkl', q3u, mT, gTb, if_pos (show szT (t.l.getD k default) < N by omega)]
  refine ⟨⟨by omega, by omega⟩, fun hx => ?_, fun hx => ⟨⟨by omega, by omega⟩, ?_⟩⟩
  ·have : yd t = false := by
    cases hh : yd t with
    | false => rfl
    | true => rw [((q70 t).1 hh).2 k hkl'] at hx; cases hx
   rw [this]
  ·rw [q3l, if_pos rfl]
   refine ⟨⟨k + 1, by omega, by simp, q5l hP (by simpa using hx)⟩, ?_⟩
   simp [D.int]
   omega
 ·simp only [qa, qg, qb, qd, qf, X.says, X.ev, X.evs, evl, qe, gnA, gnT] at hlt ⊢
  have : k = t.l.length := by omega
  subst this
  rw [(q70 t).2 ⟨hn, hP⟩]
theorem qne : FOk q0d (gTb q0b) := qk1 qq0 qmf fun ds outs hw hg => by
 obtain ⟨d, r, rfl, hd, rfl⟩ := hw
 obtain ⟨t, rfl, ht⟩ := wfT hd
 simp only [gTb, je, Option.some.injEq] at hg
 subst hg
 have e : decide (min (szT t : Int) 2001 ≤ 2000) = decide (szT t ≤ 2000) := by rw [decide_eq_decide]; omega
 simp [q54, qa, qg, qb, qd, qf, X.says, X.ev, X.evs, evl, qe, gnA, gnT, gTi, gTb, q0b, e]
theorem qnj {t u : Te} : idT t u = true ↔ t.k = u.k ∧ t.n = u.n ∧ t.s = u.s ∧ t.l.length = u.l.length ∧ ∀ j, j < t.l.length → idT (t.l.getD j default) (u.l.getD j default) = true := by
 rw [qf0]
 cases t with
 | mk k n s l =>
  cases u with
  | mk k' n' s' l' =>
   simp only [Te.k, Te.n, Te.s, Te.l, Te.mk.injEq, qf0]
   refine ⟨?_, ?_⟩
   ·rintro ⟨rfl, rfl, rfl, rfl⟩
    exact ⟨rfl, rfl, rfl, rfl, fun _ _ => rfl⟩
   ·rintro ⟨rfl, rfl, rfl, h1, h2⟩
    refine ⟨rfl, rfl, rfl, List.ext_getElem h1 fun i hi hi' => ?_⟩
    have := h2 i hi
    simpa [List.getD_eq_getElem?_getD, List.getElem?_eq_getElem hi, List.getElem?_eq_getElem hi'] using this
theorem qeg : FOk zk (quy idT) := q8k (m := mT) q4s fun N ih => qd5 ih fun ds outs hw hg => by
 obtain ⟨d, r, rfl, hd, e, r', rfl, he, rfl⟩ := hw
 obtain ⟨t, rfl, ht⟩ := wfT hd
 obtain ⟨u, rfl, hu⟩ := wfT he
 simp only [q3u, mT, quy, List.getD_cons_zero, je, yz, Option.ite_none_right_eq_some, Option.some.injEq] at hg
 obtain ⟨hsz, rfl⟩ := hg
 have hl := ht.l
 have no : (¬ idT t u = true) → [D.b false] = [D.b (idT t u)] := fun h => by rw [Bool.eq_false_iff.2 h]
 simp only [q2c, qa, qg, qb, qd, qf, X.says, X.ev, X.evs, evl, qe, gnA, gnT, quy]
 refine ⟨fun hn => no fun h => ?_, fun hn => ?_⟩
 ·obtain ⟨e1, e2, e3, e4, -⟩ := qnj.1 h
  simp [e1, e2, e3, e4] at hn
 simp only [Bool.or_eq_false_iff, Bool.not_eq_false', decide_eq_true_eq] at hn
 obtain ⟨⟨⟨e1, e2⟩, e3⟩, e4⟩ := hn
 have e4 : t.l.length = u.l.length := by omega
 rw [jm]
 refine ⟨fun st => ∃ k : Nat, k ≤ t.l.length ∧ st = [.b false, .i k] ∧ ∀ j, j < k → idT (t.l.getD j default) (u.l.getD j default) = true, fun st => t.l.length - (st.getD 1 .u).int.toNat, ⟨0, Nat.zero_le _, rfl, fun j hj => absurd hj (Nat.not_lt_zero _)⟩, ?_⟩
 rintro st - ⟨k, hk, rfl, hP⟩
 rw [qg]
 refine ⟨fun hlt => ?_, fun hlt => ?_⟩
 ·simp only [qa, qg, qb, qd, qf, X.says, X.ev, X.evs, evl, qe, gnA, gnT] at hlt
  have hkl' : k < t.l.length := by omega
  have hku' : k < u.l.length := by omega
  have ha := qb2 hkl'
  simp only [qa, qg, qb, qd, qf, X.says, X.ev, X.evs, evl, qe, gnA, gnT, q8u hkl', q8u hku', q3u, mT, quy, if_pos (show szT (t.l.getD k default) < N by omega)]
  refine ⟨⟨by omega, by omega, by omega, by omega⟩, fun hx => no fun h => ?_, fun hx => ⟨⟨by omega, by omega⟩, ?_⟩⟩
  ·rw [(qnj.1 h).2.2.2.2 k hkl'] at hx
   cases hx
  ·rw [q3l, if_pos rfl]
   refine ⟨⟨k + 1, by omega, by simp, q5l hP (by simpa using hx)⟩, ?_⟩
   simp [D.int]
   omega
 ·simp only [qa, qg, qb, qd, qf, X.says, X.ev, X.evs, evl, qe, gnA, gnT] at hlt ⊢
  have : k = t.l.length := by omega
  subst this
  rw [qnj.2 ⟨e1, e2, e3, e4, hP⟩]
def z3q (t u : Te) : Bool := q0b t && (q0b u && idT t u)
theorem qoq : FOk q22 (quy z3q) := qll qne qeg fun ds outs hw hg => by
 obtain ⟨d, r, rfl, hd, e, r', rfl, he, rfl⟩ := hw
 obtain ⟨t, rfl, ht⟩ := wfT hd
 obtain ⟨u, rfl, hu⟩ := wfT he
 simp only [quy, je, Option.some.injEq] at hg
 subst hg
 simp [q66, qa, qg, qb, qd, qf, X.says, X.ev, X.evs, evl, qe, gnA, gnT, gTb, quy, z3q, Bool.and_assoc]
def z9d : List D → Option (List D)
 | [t, m] => if 1 ≤ m.int then some [.i (m.int - min (szT (dT t) : Int) m.int)] else none
 | _ => none
theorem qm6 : FOk yw z9d := q8k (m := mT) q8a fun N ih => qj6 ih fun ds outs hw hg => by
 obtain ⟨d, r, rfl, hd, e, r', rfl, he, rfl⟩ := hw
 obtain ⟨t, rfl, ht⟩ := wfT hd
 obtain ⟨m, rfl, hm⟩ := wfI he
 simp only [q3u, mT, z9d, List.getD_cons_zero, je, yz, Option.ite_none_right_eq_some, Option.some.injEq] at hg
 obtain ⟨hsz, h1, rfl⟩ := hg
 have hl := ht.l
 rw [q5k, qa]
 refine ⟨by simp only [qa, qg, qb, qd, qf, X.says, X.ev, X.evs, evl, qe, gnA, gnT]; omega, ?_⟩
 rw [jm]
 refine ⟨fun st => ∃ k : Nat, k ≤ t.l.length ∧ st = [.i k, .i (m - min ((q1s (t.l.take k) : Int) + 1) m)], fun st => t.l.length - (st.getD 0 .u).int.toNat, ⟨0, Nat.zero_le _, by simp [X.evs, X.ev, q1s, evl, D.int]; omega⟩, ?_⟩
 rintro st - ⟨k, hk, rfl⟩
 rw [qg]
 refine ⟨fun hlt => ?_, fun hlt => ?_⟩
 ·simp only [qa, qg, qb, qd, qf, X.says, X.ev, X.evs, evl, qe, gnA, gnT, Bool.and_eq_true] at hlt
  obtain ⟨hkl, hlm⟩ := hlt
  have hkl' : k < t.l.length := by omega
  have ha := qb2 hkl'
  have hs := qce hkl'
  have hmn : 1 ≤ m - min ((q1s (t.l.take k) : Int) + 1) m := by omega
  simp only [qa, qg, qb, qd, qf, X.says, X.ev, X.evs, evl, qe, gnA, gnT, q8u hkl', q3u, mT, z9d, if_pos hmn, if_pos (show szT (t.l.getD k default) < N by omega)]
  refine ⟨⟨by omega, by omega⟩, ⟨by omega, by omega⟩, ?_⟩
  rw [q3l, if_pos rfl]
  refine ⟨⟨k + 1, by omega, ?_⟩, ?_⟩
  ·rw [hs]
   simp
   omega
  ·simp [D.int]
   omega
 ·simp only [qa, qg, qb, qd, qf, X.says, X.ev, X.evs, evl, qe, gnA, gnT, Bool.and_eq_false_iff] at hlt
  simp only [qa, qg, qb, qd, qf, X.says, X.ev, X.evs, evl, qe, gnA, gnT]
  have hz := zcu t
  have : m - min ((q1s (t.l.take k) : Int) + 1) m = m - min (szT t : Int) m := by
   rcases hlt with h | h
   ·have : k = t.l.length := by omega
    subst this
    rw [List.take_length]
    omega
   ·have h2 := qbk (t.l.take k) (t.l.drop k)
    rw [List.take_append_drop] at h2
    omega
  rw [this]
theorem qf2 : FOk jo (gTi fun t => min (szT t : Int) 2001) := qox qm6 fun ds outs hw hg => by
 obtain ⟨d, r, rfl, hd, rfl⟩ := hw
 obtain ⟨t, rfl, ht⟩ := wfT hd
 simp only [gTi, je, Option.some.injEq] at hg
 subst hg
 simp [q7k, qa, qg, qb, qd, qf, X.says, X.ev, X.evs, evl, qe, gnA, gnT, z9d]
 omega
theorem qfd : FOk zt (gTb yd) := q8k (m := mT) qap fun N ih => qp4 ih fun ds outs hw hg => by
 obtain ⟨d, r, rfl, hd, rfl⟩ := hw
 obtain ⟨t, rfl, ht⟩ := wfT hd
 simp only [q3u, mT, gTb, List.getD_cons_zero, je, yz, Option.ite_none_right_eq_some, Option.some.injEq] at hg
 obtain ⟨hsz, rfl⟩ := hg
 have hl := ht.l
 have key : ∀ (x : X), x.ev (evl (qe [(zt, q3u mT N (gTb yd))]) [eT t]) = .b (q41 t) → Tree.go (qe [(zt, q3u mT N (gTb yd))]) (fun o => o = [D.b (yd t)]) (.loop 12 1 [x, (.lit (.i 0))] (.br (.and (.lt (.tok 2) (.len (.fld (.tok 0) 3))) (.tok 1)) (.need [(.le (.lit (.i 0)) (.tok 2)), (.lt (.tok 2) (.len (.fld (.tok 0) 3))), (.ok 0 [(.get (.fld (.tok 0) 3) (.tok 2))])] (.need [(.rng .i64 (.add (.tok 2) (.lit (.i 1))))] (.back 12 [(.call 0 0 [(.get (.fld (.tok 0) 3) (.tok 2))]), (.add (.tok 2) (.lit (.i 1)))]))) (.leaf [(.tok 1)]))) [eT t] fun _ _ => False := by
  intro x hx
  rw [jm]
  refine ⟨fun st => ∃ (k : Nat) (v : Bool), k ≤ t.l.length ∧ st = [.b v, .i k] ∧ (v = true ↔ q41 t = true ∧ ∀ j, j < k → yd (t.l.getD j default) = true), fun st => t.l.length - (st.getD 1 .u).int.toNat, ⟨0, q41 t, Nat.zero_le _, by simp only [X.evs, hx, X.ev]; rfl, by simp⟩, ?_⟩
  rintro st - ⟨k, v, hk, rfl, hv⟩
  rw [qg]
  refine ⟨fun hlt => ?_, fun hlt => ?_⟩
  ·simp only [qa, qg, qb, qd, qf, X.says, X.ev, X.evs, evl, qe, gnA, gnT, Bool.and_eq_true] at hlt
   obtain ⟨hlt, rfl⟩ := hlt
   have hkl' : k < t.l.length := by omega
   have ha := qb2 hkl'
   simp only [qa, qg, qb, qd, qf, X.says, X.ev, X.evs, evl, qe, gnA, gnT, q8u hkl', q3u, mT, gTb, if_pos (show szT (t.l.getD k default) < N by omega)]
   refine ⟨⟨by omega, by omega⟩, ⟨by omega, by omega⟩, ?_⟩
   rw [q3l, if_pos rfl]
   have hv' := hv.1 rfl
   refine ⟨⟨k + 1, _, by omega, rfl, ⟨fun h => ⟨hv'.1, q5l hv'.2 h⟩, fun h => h.2 k (Nat.lt_succ_self _)⟩⟩, ?_⟩
   simp [D.int]
   omega
  ·simp only [qa, qg, qb, qd, qf, X.says, X.ev, X.evs, evl, qe, gnA, gnT, Bool.and_eq_false_iff] at hlt
   simp only [qa, qg, qb, qd, qf, X.says, X.ev, X.evs, evl, qe, gnA, gnT]
   rw [show v = yd t from ?_]
   cases hvv : v with
   | false =>
    cases hh : yd t with
    | false => rfl
    | true =>
     have h2 := (q70 t).1 hh
     rw [hv.2 ⟨h2.1, fun j hj => h2.2 j (by omega)⟩] at hvv
     cases hvv
   | true =>
    have : k = t.l.length := by
     rcases hlt with h | h
     ·omega
     ·rw [hvv] at h; cases h
    subst this
    exact ((q70 t).2 (hv.1 hvv)).symm
 rw [q7r]
 simp only [qg]
 have e0 : ∀ z : Int, (X.eq (.fld (.tok 0) 0) (.lit (.i z))).ev (evl (qe [(zt, q3u mT N (gTb yd))]) [eT t]) = .b (decide (t.k = z)) := fun z => by
  simp only [qa, qg, qb, qd, qf, X.says, X.ev, X.evs, evl, qe, gnA, gnT]
 simp only [e0, q4k, decide_eq_true_eq, decide_eq_false_iff_not]
 refine ⟨fun h => key _ ?_, fun h0 => ⟨fun h => key _ ?_, fun h1 => ⟨fun h => key _ ?_, fun h2 => ⟨fun h => key _ ?_, fun h3 => key _ ?_⟩⟩⟩⟩
 all_goals simp only [qa, qg, qb, qd, qf, X.says, X.ev, X.evs, evl, qe, gnA, gnT, q41]
 ·simp [h, Bool.and_assoc]
 ·simp [h, Bool.and_assoc]
 ·simp [h, Bool.and_assoc]
 ·have e8 : decide (0 < (t.l.length : Int)) = decide (1 ≤ (t.l.length : Int)) := rfl
  rw [e8]
  simp [h, Bool.and_assoc]
 ·simp [h0, h1, h2, h3]
theorem q8y : FOk y8 (gTb q0b) := qn3 qf2 qfd fun ds outs hw hg => by
 obtain ⟨d, r, rfl, hd, rfl⟩ := hw
 obtain ⟨t, rfl, ht⟩ := wfT hd
 simp only [gTb, je, Option.some.injEq] at hg
 subst hg
 have e : decide (min (szT t : Int) 2001 ≤ 2000) = decide (szT t ≤ 2000) := by rw [decide_eq_decide]; omega
 simp [q6e, qa, qg, qb, qd, qf, X.says, X.ev, X.evs, evl, qe, gnA, gnT, gTi, gTb, q0b, e]
theorem qk7 : FOk jt (gTT id) := qh8 fun ds outs hw hg => by
 obtain ⟨d, r, rfl, hd, rfl⟩ := hw
 obtain ⟨t, rfl, ht⟩ := wfT hd
 simp only [gTT, je, Option.some.injEq] at hg
 subst hg
 simp only [q4g, qa, qg, qb, qd, qf, X.says, X.ev, X.evs, evl, qe, gnA, gnT, id]
theorem qpv : FOk jd (gTT id) := q8k (m := mT) q9n fun N ih => qoa qk7 ih fun ds outs hw hg => by
 obtain ⟨d, r, rfl, hd, rfl⟩ := hw
 obtain ⟨t, rfl, ht⟩ := wfT hd
 simp only [q3u, mT, gTT, List.getD_cons_zero, je, yz, Option.ite_none_right_eq_some, Option.some.injEq] at hg
 obtain ⟨hsz, rfl⟩ := hg
 have hl := ht.l
 rw [q6h, qg]
 refine ⟨fun h => ?_, fun h => ?_⟩
 ·simp only [qa, qg, qb, qd, qf, X.says, X.ev, X.evs, evl, qe, gnA, gnT, gTT, id]
 rw [jm]
 refine ⟨fun st => ∃ k : Nat, k ≤ t.l.length ∧ st = [.i k, eT (.mk t.k t.n t.s (t.l.take k))], fun st => t.l.length - (st.getD 0 .u).int.toNat, ⟨0, Nat.zero_le _, by simp only [X.evs, X.ev, evl, List.getD_cons_zero, zdz, zgi, ze0, qg0]; rfl⟩, ?_⟩
 rintro st - ⟨k, hk, rfl⟩
 rw [qg]
 refine ⟨fun hlt => ?_, fun hlt => ?_⟩
 ·simp only [qa, qg, qb, qd, qf, X.says, X.ev, X.evs, evl, qe, gnA, gnT] at hlt
  have hkl' : k < t.l.length := by omega
  have ha := qb2 hkl'
  simp only [qa, qg, qb, qd, qf, X.says, X.ev, X.evs, evl, qe, gnA, gnT, q8u hkl', q3u, mT, gTT, if_pos (show szT (t.l.getD k default) < N by omega), id, zii, List.length_take]
  refine ⟨⟨by omega, by omega⟩, by omega, ⟨by omega, by omega⟩, ?_⟩
  rw [q3l, if_pos rfl]
  refine ⟨⟨k + 1, by omega, ?_⟩, ?_⟩
  ·rw [qca hkl', z0j]
   rfl
  ·simp [D.int]
   omega
 ·simp only [qa, qg, qb, qd, qf, X.says, X.ev, X.evs, evl, qe, gnA, gnT] at hlt ⊢
  have : k = t.l.length := by omega
  subst this
  rw [List.take_length]
  cases t
  rfl
theorem q9a : FOk zx (gTT fun t => if q0b t then t else zT) := ql7 q8y qpv fun ds outs hw hg => by
 obtain ⟨d, r, rfl, hd, rfl⟩ := hw
 obtain ⟨t, rfl, ht⟩ := wfT hd
 simp only [gTT, je, Option.some.injEq] at hg
 subst hg
 simp only [q6g, qa, qg, qb, qd, qf, X.says, X.ev, X.evs, evl, qe, gnA, gnT, gTb, gTT, id]
 cases q0b t <;> simp
def gSt (f : ByteArray → Te) : List D → Option (List D)
 | [s] => some [eT (f s.str)]
 | _ => none
def q4c (s : ByteArray) : Te := if s.size ≤ 100 then .mk 2 0 s [] else zT
theorem z68 {s : ByteArray} (h : s.size ≤ 100) : q4c s = .mk 2 0 s [] := if_pos h
theorem q40 : FOk zz (gSt q4c) := qp3 q9a fun ds outs hw hg => by
 obtain ⟨d, r, rfl, hd, rfl⟩ := hw
 obtain ⟨s, rfl, hs⟩ := hd.str
 simp only [gSt, q4p, Option.some.injEq] at hg
 subst hg
 have e : D.a ((D.a ([D.i 0, .i 0, .s ⟨#[]⟩, .r []].set 0 (.i 2))).fs.set 2 (.s s)) = eT (.mk 2 0 s []) := rfl
 simp only [q7w, qa, qg, qb, qd, qf, X.says, X.ev, X.evs, evl, qe, gnA, gnT, gTT, zis]
 have e2 : D.a (((eT zT).fs.set 0 (.i 2)).set 2 (.s s)) = eT (.mk 2 0 s []) := rfl
 simp only [e2]
 have : q0b (.mk 2 0 s []) = decide (s.size ≤ 100) := by
  rw [Bool.eq_iff_iff]
  simp [q0b, szT, q1s, yd, q3b, q41, Te.k, Te.n, Te.s, Te.l]
  exact Iff.trans decide_eq_true_iff (Int.ofNat_le (n := 100))
 simp only [je, this, q4c, decide_eq_true_eq]
def gIt (f : Int → Te) : List D → Option (List D)
 | [n] => some [eT (f n.int)]
 | _ => none
theorem qif : FOk q1a (gIt fun n => .mk 1 n ⟨#[]⟩ []) := qto fun ds outs hw hg => by
 obtain ⟨d, r, rfl, hd, rfl⟩ := hw
 obtain ⟨n, rfl, hn⟩ := wfI hd
 simp only [gIt, yz, Option.some.injEq] at hg
 subst hg
 simp only [q95, qa, qg, qb, qd, qf, X.says, X.ev, X.evs, evl, qe, gnA, gnT]
 rfl
theorem qs5 {s : So} (h : jh s = true) : qvu s = true := by
 simp only [jh, Bool.and_eq_true] at h
 exact h.1
theorem z0g {s : So} (h : jh s = true) : qqy s.ys = true := by
 have := qs5 h
 simp only [qvu, Bool.and_eq_true] at this
 exact this.2.2.2.2
theorem z80 {s : So} (h : jh s = true) : s.cs.length ≤ 1048576 := by
 have := qs5 h
 simp only [qvu, Bool.and_eq_true, decide_eq_true_eq] at this
 omega
theorem qu6 {s : So} (h : jh s = true) {i : Int} (hi : inS s i = true) : qq1 s i = true := by
 simp only [jh, Bool.and_eq_true] at h
 have h1 := z8.1 hi
 have hk := qtq h.2.1 (k := i.toNat) (by omega)
 rwa [show ((i.toNat : Nat) : Int) = i by omega] at hk
theorem z4s {s : So} (h : jh s = true) {i : Int} (hi : inS s i = true) (ht : (cellAt s i).t ≠ 4) : vcR s (cellAt s i) = true := by
 have := qu6 h hi
 unfold qq1 at this
 rw [if_neg ht] at this
 simp only [Bool.and_eq_true] at this
 exact this.1
theorem zbn {s : So} (h : jh s = true) {i : Int} (hi : inS s i = true) : z55 s i = true := by
 by_cases ht : (cellAt s i).t = 4
 ·exact (En.st (fun hn => by have := hn.1; rw [q8o hi] at this; omega)).ends
 ·have := qu6 h hi
  unfold qq1 at this
  rw [if_neg ht] at this
  simp only [Bool.and_eq_true] at this
  exact this.2.1
theorem qyy {s : So} {c : Ce} (h : vcR s c = true) (ht : c.t = 0) : inS s c.n = true ∧ (cellAt s c.n).t ≠ 4 := by
 unfold vcR at h
 rw [if_pos ht] at h
 simp only [Bool.and_eq_true, Bool.not_eq_true', decide_eq_false_iff_not] at h
 rw [q8o h.1] at h
 exact h
theorem zhl {s : So} (h : jh s = true) {n : Int} (hn : Ns s n) : inS s (nx s n) = true := by
 have hi := hn.inS
 have ht : (cellAt s n).t = 0 := by have := hn.1; rwa [q8o hi] at this
 exact (qyy (z4s h hi (by omega)) ht).1
theorem zg0 {s : So} (h : jh s = true) {i : Int} (hi : inS s i = true) (ht : (cellAt s i).t = 4) : 1 ≤ arS s (cellAt s i).n ∧ arS s (cellAt s i).n ≤ 8 ∧ ∀ j : Nat, (j : Int) < arS s (cellAt s i).n → inS s (i + 1 + j) = true ∧ vcR s (cellAt s (i + 1 + j)) = true := by
 have := qu6 h hi
 unfold qq1 at this
 rw [if_pos ht] at this
 simp only [Bool.and_eq_true, decide_eq_true_eq, List.all_eq_true, List.mem_range, Bool.not_eq_true', decide_eq_false_iff_not] at this
 obtain ⟨h1, h2, h3⟩ := this
 refine ⟨h1, (z6o (z0g h) _).2, fun j hj => ?_⟩
 have q := z8.1 h2
 have q1 := z8.1 hi
 have hin : inS s (i + 1 + j) = true := z8.2 ⟨by omega, by omega⟩
 refine ⟨hin, z4s h hin ?_⟩
 have := h3 j (by omega)
 rw [show i + ((j : Int) + 1) = i + 1 + j by omega, q8o hin] at this
 exact this
theorem qmy {s : So} {n : Int} (h : 0 ≤ arS s n) : 0 ≤ n ∧ n < s.ys.length ∧ arS s n = (s.ys.getD n.toNat default).ar := by
 unfold arS at h ⊢
 split at h
 ·rename_i hn
  rw [if_pos hn]
  exact ⟨hn.1, hn.2, rfl⟩
 ·omega
def z30 (s : So) (n : Int) : Sy := s.ys.getD n.toNat default
theorem z8k {s : So} (h : jh s = true) {n : Int} (hn : 0 ≤ arS s n) : (z30 s n).name.size ≤ 100 := by
 obtain ⟨h0, h1, -⟩ := qmy hn
 have := z0g h
 simp only [qqy, Bool.and_eq_true] at this
 have := qtq this.2 (k := n.toNat) (by omega)
 simp only [z5y, okY, Bool.and_eq_true, decide_eq_true_eq] at this
 exact this.1.1
theorem qv4 {s : So} (hv : ∀ m, Ns s m → inS s (nx s m) = true) : ∀ (k : Nat) (n : Int), inS s n = true → q3p s (k + 1) n = true → q3p s k n = false → ∃ l : List Int, l.length = k + 1 ∧ l.Nodup ∧ (∀ x ∈ l, inS s x = true) ∧ ∀ x ∈ l, ∃ j, j ≤ k ∧ q3p s (j + 1) x = true
 | 0, n, hi, h1, _ => ⟨[n], rfl, by simp, (fun x hx => by rw [List.mem_singleton.1 hx]; exact hi), fun x hx => ⟨0, Nat.le_refl _, by rw [List.mem_singleton.1 hx]; exact h1⟩⟩
 | k + 1, n, hi, h1, h2 => by
  have hn : Ns s n := Classical.byContradiction fun hn => by rw [qex hn] at h2; cases h2
  have h1' := h1
  rw [q84 hn] at h1 h2
  obtain ⟨l, e1, e2, e3, e4⟩ := qv4 hv k _ (hv n hn) h1 h2
  refine ⟨n :: l, by simp [e1], ?_, fun x hx => ?_, fun x hx => ?_⟩
  ·refine List.nodup_cons.2 ⟨fun hm => ?_, e2⟩
   obtain ⟨j, hj, he⟩ := e4 n hm
   rw [q84 hn] at he
   rw [qlr hj he] at h2
   cases h2
  ·rcases List.mem_cons.1 hx with rfl | hx
   ·exact hi
   ·exact e3 x hx
  ·rcases List.mem_cons.1 hx with rfl | hx
   ·exact ⟨k + 1, Nat.le_refl _, h1'⟩
   ·obtain ⟨j, hj, he⟩ := e4 x hx
    exact ⟨j, by omega, he⟩
theorem qwt {s : So} (h : jh s = true) {n : Int} (hi : inS s n = true) : q3p s s.cs.length n = true := by
 cases hk' : q3p s s.cs.length n with
 | true => rfl
 | false =>
  obtain ⟨l, e1, e2, e3, -⟩ := qv4 (fun m hm => zhl h hm) s.cs.length n hi (zbn h hi) hk'
  have h1 := ql6 s.cs.length (l.map Int.toNat) ?_ ?_
  ·rw [List.length_map, e1] at h1
   omega
  ·refine List.Pairwise.map _ (fun a b h => h) ?_
   refine List.Pairwise.imp_of_mem (R := fun a b => a ≠ b) (fun {a b} ha hb hab e => hab ?_) e2
   have h1 := z8.1 (e3 a ha)
   have h2 := z8.1 (e3 b hb)
   omega
  ·intro x hx
   obtain ⟨a, ha, rfl⟩ := List.mem_map.1 hx
   have h1 := z8.1 (e3 a ha)
   omega
def qe9 (s : So) : Nat → Ce → Ce
 | 0, c => c
 | k + 1, c => if c.t = 0 ∧ inS s c.n = true ∧ cellAt s c.n ≠ c then qe9 s k (cellAt s c.n) else c
theorem qri {s : So} {c : Ce} (h : c.t ≠ 0) : ∀ k, qe9 s k c = c
 | 0 => rfl
 | k + 1 => if_neg fun q => h q.1
theorem qmq {s : So} (j : Nat) : ∀ (k : Nat) (n : Int), q3p s k n = true → qe9 s (k + j) ⟨0, n⟩ = qe9 s k ⟨0, n⟩
 | 0, n, h => by cases h
 | k + 1, n, h => by
  rw [show k + 1 + j = (k + j) + 1 by omega]
  unfold qe9
  split
  ·rename_i hc
   by_cases ht : (cellAt s n).t = 0
   ·have e : cellAt s n = ⟨0, nx s n⟩ := Ce.ext' ht rfl
    have hn : Ns s n := ⟨(q8o hc.2.1).trans ht, fun hn => hc.2.2 (Ce.ext' ht hn)⟩
    rw [q84 hn] at h
    show qe9 s (k + j) (cellAt s n) = qe9 s k (cellAt s n)
    rw [e]
    exact qmq j k _ h
   ·rw [qri ht, qri ht]
  ·rfl
def q05 (s : So) (c : Ce) : Ce := if vcR s c then qe9 s (s.cs.length + 1) c else ⟨0, 0⟩
theorem zbj {s : So} (h : jh s = true) {c : Ce} (hc : vcR s c = true) : qe9 s s.cs.length c = qe9 s (s.cs.length + 1) c := by
 by_cases ht : c.t = 0
 ·have e : c = ⟨0, c.n⟩ := Ce.ext' ht rfl
  rw [e]
  exact (qmq 1 _ _ (qwt h (qyy hc ht).1)).symm
 ·rw [qri ht, qri ht]
theorem qzz {s : So} (h : jh s = true) : ∀ (k : Nat) {c : Ce}, vcR s c = true → vcR s (qe9 s k c) = true
 | 0, c, hc => hc
 | k + 1, c, hc => by
  unfold qe9
  split
  ·rename_i q
   exact qzz h k (z4s h q.2.1 (qyy hc q.1).2)
  ·exact hc
theorem zc8 {s : So} (h : jh s = true) {c : Ce} (hc : vcR s c = true) : vcR s (q05 s c) = true := by
 rw [q05, if_pos hc]
 exact qzz h _ hc
def qgf (g : Ce → Int → Te × Int) : List Ce → Int → List Te × Int
 | [], l => ([], l)
 | c :: cs, l => if l < 0 then ([], l) else ((g c l).1 :: (qgf g cs (g c l).2).1, (qgf g cs (g c l).2).2)
def q6a (s : So) (n : Int) (k : Nat) : List Ce := (List.range k).map fun j => cellAt s (n + 1 + (j : Nat))
def q86 (s : So) : Nat → Ce → Int → Te × Int
 | 0, _, left => (zT, left - 1)
 | f + 1, c, left => if left - 1 < 0 then (zT, left - 1)
  else if (q05 s c).t = 1 then (.mk 1 (q05 s c).n ⟨#[]⟩ [], left - 1)
  else if (q05 s c).t = 2 then (.mk 2 0 (z30 s (q05 s c).n).name [], left - 1)
  else if (q05 s c).t = 3 then (.mk 3 0 (z30 s (cellAt s (q05 s c).n).n).name (qgf (q86 s f) (q6a s (q05 s c).n (arS s (cellAt s (q05 s c).n).n).toNat) (left - 1)).1, (qgf (q86 s f) (q6a s (q05 s c).n (arS s (cellAt s (q05 s c).n).n).toNat) (left - 1)).2)
  else (.mk 0 (q05 s c).n ⟨#[]⟩ [], left - 1)
theorem z1a {g : Ce → Int → Te × Int} (hg : ∀ c l, 0 ≤ l → (g c l).2 ≤ l - 1 ∧ -1 ≤ (g c l).2) : ∀ (cs : List Ce) (l : Int), -1 ≤ l → (qgf g cs l).2 ≤ l ∧ -1 ≤ (qgf g cs l).2
 | [], l, h => ⟨Int.le_refl _, h⟩
 | c :: cs, l, h => by
  unfold qgf
  split
  ·exact ⟨Int.le_refl _, h⟩
  ·have h1 := hg c l (by omega)
   have h2 := z1a hg cs (g c l).2 h1.2
   exact ⟨by omega, h2.2⟩
theorem z0c (s : So) : ∀ (f : Nat) (c : Ce) (l : Int), 0 ≤ l → (q86 s f c l).2 ≤ l - 1 ∧ -1 ≤ (q86 s f c l).2
 | 0, c, l, h => ⟨Int.le_refl _, by simp only [q86]; omega⟩
 | f + 1, c, l, h => by
  unfold q86
  split
  ·simp only; omega
  split
  ·simp only; omega
  split
  ·simp only; omega
  split
  ·exact z1a (z0c s f) _ _ (by omega)
  ·simp only; omega
def za9 : List D → Option (List D)
 | [s, c] => if jh (dS s) then some [eC (q05 (dS s) (dC c))] else none
 | _ => none
theorem zcf : D.a [.i 0, .i 0] = eC ⟨0, 0⟩ := rfl
theorem qlh : FOk zg za9 := qar ym q6v fun ds outs hw hg => by
 obtain ⟨d, r, rfl, hd, e, r', rfl, he, rfl⟩ := hw
 obtain ⟨s, rfl, hs⟩ := wfS hd
 obtain ⟨c, rfl, hc⟩ := wfC he
 simp only [za9, ye, ju, Option.ite_none_right_eq_some, Option.some.injEq] at hg
 obtain ⟨hv, rfl⟩ := hg
 have hvs := qho hv
 have hl := z80 hv
 have hvc : ∀ c, vcP s c = vcR s c := hvs.vc
 simp only [q2n, qa, qg, qb, qd, qf, X.says, X.ev, X.evs, evl, qe, gnA, qgl, hvc, zcf]
 refine ⟨fun h => ?_, fun h => ?_⟩
 ·simp only [q05, show vcR s c = false by simpa using h]
  rfl
 have hvc' : vcR s c = true := by simpa using h
 rw [jm]
 refine ⟨fun st => ∃ (k : Nat) (x : Ce), k ≤ s.cs.length ∧ st = [.i k, eC x] ∧ qe9 s (s.cs.length - k) x = q05 s c, fun st => s.cs.length - (st.getD 0 .u).int.toNat, ⟨0, c, Nat.zero_le _, rfl, by rw [Nat.sub_zero, zbj hv hvc', q05, if_pos hvc']⟩, ?_⟩
 rintro st - ⟨k, x, hk, rfl, hP⟩
 rw [qg]
 refine ⟨fun hlt => ?_, fun hlt => ?_⟩
 ·simp only [qa, qg, qb, qd, qf, X.says, X.ev, X.evs, evl, qe, gnA] at hlt
  have hkl : k < s.cs.length := by omega
  obtain ⟨n, hn⟩ : ∃ n, s.cs.length - k = n + 1 := ⟨s.cs.length - k - 1, by omega⟩
  rw [hn] at hP
  unfold qe9 at hP
  have hn2 : s.cs.length - (k + 1) = n := by omega
  have ht := hvs.tag_in x.n
  by_cases h0 : x.t = 0
  ·cases hin : inS s x.n with
   | true =>
    have h3 := z8.1 hin
    rw [hin] at ht
    have ht' : ¬ q3v s x.n < 0 := by have := of_decide_eq_true ht; omega
    simp only [qa, qg, qb, qd, qf, X.says, X.ev, X.evs, evl, qe, gnA, qea, zy hin, h0, ht', h3.1, h3.2]
    refine ⟨fun hx => ?_, fun hx => ?_⟩
    ·have hx' : cellAt s x.n = x := by simpa using hx
     rw [if_neg (fun q => q.2.2 hx')] at hP
     rw [hP]
    ·have hx' : cellAt s x.n ≠ x := by simpa using hx
     rw [if_pos ⟨h0, hin, hx'⟩] at hP
     refine ⟨⟨by omega, by omega⟩, ?_⟩
     rw [q3l, if_pos rfl]
     refine ⟨⟨k + 1, cellAt s x.n, by omega, by simp, by rw [hn2]; exact hP⟩, ?_⟩
     simp [D.int]
     omega
   | false =>
    rw [hin] at ht
    have ht' : q3v s x.n < 0 := by have := of_decide_eq_false ht; omega
    rw [if_neg (fun q => by rw [hin] at q; cases q.2.1)] at hP
    simp only [qa, qg, qb, qd, qf, X.says, X.ev, X.evs, evl, qe, gnA, qea, h0, ht', ← hP]
    simp
  ·rw [if_neg (fun q => h0 q.1)] at hP
   simp only [qa, qg, qb, qd, qf, X.says, X.ev, X.evs, evl, qe, gnA, qea, h0, ← hP]
   simp
 ·simp only [qa, qg, qb, qd, qf, X.says, X.ev, X.evs, evl, qe, gnA] at hlt ⊢
  have : k = s.cs.length := by omega
  subst this
  rw [Nat.sub_self] at hP
  rw [← hP, qe9]
def z61 (s : So) (c : Ce) (l : Int) (n : Nat) : Bool := jh s && (vcR s c && (decide (0 ≤ l) && decide (l < n)))
def qmi (n : Nat) : List D → Option (List D)
 | [c, l, s] => if z61 (dS s) (dC c) l.int n then some [eT (q86 (dS s) n (dC c) l.int).1, .i (q86 (dS s) n (dC c) l.int).2] else none
 | _ => none
theorem z3l {g : Ce → Int → Te × Int} {l : Int} (h : l < 0) : ∀ cs, qgf g cs l = ([], l)
 | [] => rfl
 | c :: cs => if_pos h
theorem z2a {s : So} {n : Int} {m k : Nat} (h : k < m) : (q6a s n m).drop k = cellAt s (n + 1 + k) :: (q6a s n m).drop (k + 1) := by
 have hl : k < (q6a s n m).length := by simp [q6a, h]
 rw [List.drop_eq_getElem_cons hl]
 simp [q6a]
theorem z3y {s : So} {i : Int} (h : 0 ≤ arS s i) : (D.r (s.ys.map eY)).get i = eY (z30 s i) := qwd eY (qmy h).1 (qmy h).2.1
theorem zj9 (n : Int) : D.a ((D.a ((eT zT).fs.set 0 (.i 0))).fs.set 1 (.i n)) = eT (.mk 0 n ⟨#[]⟩ []) := rfl
theorem zi2 (x : ByteArray) : D.a ((D.a ((eT zT).fs.set 0 (.i 3))).fs.set 2 (.s x)) = eT (.mk 3 0 x []) := rfl
theorem qbt : ∀ n, FOk yt (qmi n)
 | 0 => (FOk.none q8l).sub fun ds outs h => by
  unfold qmi at h
  split at h
  ·simp only [z61, Option.ite_none_right_eq_some, Bool.and_eq_true, decide_eq_true_eq] at h
   omega
  ·cases h
 | f + 1 => qjf (qbt f) qlh qif qb5 q40 q6v fun ds outs hw hg => by
  obtain ⟨d, r, rfl, hd, e, r', rfl, he, e2, r2, rfl, he2, hw⟩ := hw
  obtain rfl : r2 = [] := hw
  obtain ⟨c, rfl, hc⟩ := wfC hd
  obtain ⟨l, rfl, hl⟩ := wfI he
  obtain ⟨s, rfl, hs⟩ := wfS he2
  simp only [qmi, z61, ye, ju, yz, Option.ite_none_right_eq_some, Option.some.injEq, Bool.and_eq_true, decide_eq_true_eq] at hg
  obtain ⟨⟨hv, hvc, h0, hf⟩, rfl⟩ := hg
  have h0 := of_decide_eq_true h0
  have hf := of_decide_eq_true hf
  have hlen := z80 hv
  have hd := zc8 hv hvc
  have hder : za9 [eS s, eC c] = some [eC (q05 s c)] := by simp only [za9, ye, ju, hv, if_true]
  simp only [q5i, qa, qg, qb, qd, qf, X.says, X.ev, X.evs, evl, qe, gnA, gnT, hder, gIt, qea, gSt]
  refine ⟨⟨by omega, by omega⟩, fun hn => ?_, fun hn => ?_⟩
  ·rw [q86, if_pos hn]
  have hn' : ¬ l - 1 < 0 := hn
  unfold q86
  simp only [if_neg hn']
  refine ⟨fun h1 => ?_, fun h1 => ?_⟩
  ·rw [if_pos h1]
  simp only [if_neg h1]
  have h2' : (q05 s c).t = 2 → arS s (q05 s c).n = 0 := fun ht => by
   simp only [vcR, ht] at hd
   simpa using hd
  have h3' : (q05 s c).t = 3 → q3v s (q05 s c).n = 4 := fun ht => by
   simp only [vcR, ht] at hd
   simpa using hd
  by_cases h2 : (q05 s c).t = 2
  ·have ha := h2' h2
   have hsy := z3y (s := s) (i := (q05 s c).n) (by omega)
   have hr := qmy (s := s) (n := (q05 s c).n) (by omega)
   have hnm := z8k hv (n := (q05 s c).n) (by omega)
   simp [h2, ha, hsy, z3o, hr.1, hr.2.1, q4p, z68 hnm]
  simp only [h2]
  by_cases h3 : (q05 s c).t = 3
  ·have htag := h3' h3
   have hin := qzs (by decide) htag
   have htag' := htag
   rw [q8o hin] at htag'
   obtain ⟨a1, a2, a3⟩ := zg0 hv hin htag'
   have hr := qmy (s := s) (n := (cellAt s (q05 s c).n).n) (by omega)
   have hsy := z3y (s := s) (i := (cellAt s (q05 s c).n).n) (by omega)
   have hi := z8.1 hin
   have hge : (0 : Int) ≤ arS s (cellAt s (q05 s c).n).n := by omega
   have hsr : (z30 s (cellAt s (q05 s c).n).n).ar = arS s (cellAt s (q05 s c).n).n := hr.2.2.symm
   simp only [h3, htag, qa, qg, qb, qd, qf, X.says, X.ev, X.evs, evl, qe, gnA, gnT, zy hin, hsy, hr.1, hr.2.1, hi.1, hi.2, hge]
   generalize hF : qgf (q86 s f) (q6a s (q05 s c).n (arS s (cellAt s (q05 s c).n).n).toNat) (l - 1) = F
   generalize har : arS s (cellAt s (q05 s c).n).n = ar at *
   refine ⟨fun h => by simp at h, fun _ => ⟨fun _ => ⟨⟨by omega, by omega⟩, ?_⟩, fun h => by simp at h⟩⟩
   simp only [if_false, if_true]
   rw [jm]
   refine ⟨fun st => ∃ (k : Nat) (x : Int) (ts : List Te), (k : Int) ≤ ar ∧ -1 ≤ x ∧ x ≤ l - 1 ∧ ts.length = k ∧ st = [.i ((q05 s c).n + 1 + k), .i x, eT (.mk 3 0 (z30 s (cellAt s (q05 s c).n).n).name ts)] ∧ F = (ts ++ (qgf (q86 s f) ((q6a s (q05 s c).n ar.toNat).drop k) x).1, (qgf (q86 s f) ((q6a s (q05 s c).n ar.toNat).drop k) x).2), fun st => ar.toNat - ((st.getD 0 .u).int - (q05 s c).n - 1).toNat, ⟨0, l - 1, [], by omega, by omega, by omega, rfl, ?_, by rw [← hF]; rfl⟩, ?_⟩
   ·simp only [X.evs, qa, qg, qb, qd, qf, X.says, X.ev, X.evs, evl, qe, gnA, gnT, hder, zy hin, hsy, zi2]
    simp
   rintro st - ⟨k, x, ts, hk, hx1, hx2, hts, rfl, hFk⟩
   by_cases hkl : (k : Int) < ar
   ·obtain ⟨b1, b2⟩ := a3 k hkl
    have b3 := z8.1 b1
    have ht0 : 0 ≤ q3v s ((q05 s c).n + 1 + k) := by
     have := (qho hv).tag_in ((q05 s c).n + 1 + k)
     rw [b1] at this
     exact of_decide_eq_true this
    have hle : (q05 s c).n + 1 + k ≤ (q05 s c).n + ar := by omega
    by_cases hx0 : 0 ≤ x
    ·have hq : qmi f [eC (cellAt s ((q05 s c).n + 1 + k)), .i x, eS s] = some [eT (q86 s f (cellAt s ((q05 s c).n + 1 + k)) x).1, .i (q86 s f (cellAt s ((q05 s c).n + 1 + k)) x).2] := by
      have h1 : x < f := by omega
      simp only [qmi, z61, ye, ju, yz, hv, b2, hx0, h1, decide_true, Bool.and_true, if_true]
     have hnx := z0c s f (cellAt s ((q05 s c).n + 1 + k)) x hx0
     simp only [qa, qg, qb, qd, qf, X.says, X.ev, X.evs, evl, qe, gnA, gnT, hder, zy hin, zy b1, hsy, hsr, qea, hle, ht0, hq, hx0, zii, b3.1, b3.2]
     refine ⟨⟨by omega, by omega⟩, fun _ => ⟨by omega, ⟨by omega, by omega⟩, ?_⟩, fun h => by simp at h⟩
     rw [q3l, if_pos rfl]
     refine ⟨⟨k + 1, (q86 s f (cellAt s ((q05 s c).n + 1 + k)) x).2, ts ++ [(q86 s f (cellAt s ((q05 s c).n + 1 + k)) x).1], by omega, by omega, by omega, by simp [hts], ?_, ?_⟩, ?_⟩
     ·rw [z0j]
      simp
      omega
     ·rw [hFk, z2a (by omega), qgf, if_neg (by omega)]
      simp
     ·simp [D.int]
      omega
    ·simp only [qa, qg, qb, qd, qf, X.says, X.ev, X.evs, evl, qe, gnA, gnT, hder, zy hin, zy b1, hsy, hsr, qea, hle, ht0, hx0]
     rw [z3l (by omega)] at hFk
     refine ⟨⟨by omega, by omega⟩, fun h => by simp at h, fun _ => ?_⟩
     simp [hFk]
   ·have hle : ¬ (q05 s c).n + 1 + k ≤ (q05 s c).n + ar := by omega
    have : (q6a s (q05 s c).n ar.toNat).drop k = [] := List.drop_eq_nil_of_le (by simp [q6a]; omega)
    rw [this] at hFk
    simp only [qa, qg, qb, qd, qf, X.says, X.ev, X.evs, evl, qe, gnA, gnT, hder, zy hin, hsy, hsr, qea, hle]
    refine ⟨⟨by omega, by omega⟩, fun h => by simp at h, fun _ => ?_⟩
    simp [hFk, qgf]
  ·simp only [h3, qa, qg, qb, qd, qf, X.says, X.ev, X.evs, evl, qe, gnA, gnT]
   refine ⟨fun h => by simp at h, fun _ => ⟨by simp, fun h => by simp at h, fun _ => ?_⟩⟩
   simp only [zj9, if_false]
def zfr (s : So) (c : Ce) : Te × Int := if vcR s c then (if (q86 s 2001 c 2000).2 < 0 then (zT, 2) else ((q86 s 2001 c 2000).1, 0)) else (zT, 1)
def zey : List D → Option (List D)
 | [s, c] => if jh (dS s) then some [eT (zfr (dS s) (dC c)).1, .i (zfr (dS s) (dC c)).2] else none
 | _ => none
theorem quh : FOk q2u zey := qp5 (qbt 2001) ym fun ds outs hw hg => by
 obtain ⟨d, r, rfl, hd, e, r', rfl, he, rfl⟩ := hw
 obtain ⟨s, rfl, hs⟩ := wfS hd
 obtain ⟨c, rfl, hc⟩ := wfC he
 simp only [zey, ye, ju, Option.ite_none_right_eq_some, Option.some.injEq] at hg
 obtain ⟨hv, rfl⟩ := hg
 have hvc : ∀ c, vcP s c = vcR s c := (qho hv).vc
 simp only [q7y, qa, qg, qb, qd, qf, X.says, X.ev, X.evs, evl, qe, gnA, gnT, qgl, hvc, zfr]
 cases h : vcR s c with
 | false => simp
 | true =>
  have hq : qmi 2001 [eC c, .i 2000, eS s] = some [eT (q86 s 2001 c 2000).1, .i (q86 s 2001 c 2000).2] := by
   simp only [qmi, z61, ye, ju, yz, hv, h]
   rfl
  simp only [hq]
  by_cases hn : (q86 s 2001 c 2000).2 < 0
  ·simp [hn, yz]
  ·simp [hn, yz]
theorem qic : FOk q07 (qtx inS) := qt9 fun ds outs hw hg => by
 obtain ⟨d, r, rfl, hd, e, r', rfl, he, rfl⟩ := hw
 obtain ⟨s, rfl, hs⟩ := wfS hd
 obtain ⟨i, rfl, hi⟩ := wfI he
 simp only [qtx, ye, yz, Option.some.injEq] at hg
 subst hg
 simp only [q97, qa, qg, qb, qd, qf, X.says, X.ev, X.evs, evl, qe, gnA, inS]
def q4d (c : Ce) : Ce := if c.t = 5 then ⟨0, c.n⟩ else c
def q8p : List D → Option (List D)
 | [c] => some [eC (q4d (dC c))]
 | _ => none
theorem qph : FOk q0r q8p := qnq fun ds outs hw hg => by
 obtain ⟨d, r, rfl, hd, rfl⟩ := hw
 obtain ⟨c, rfl, hc⟩ := wfC hd
 simp only [q8p, ju, Option.some.injEq] at hg
 subst hg
 simp only [q63, qa, qg, qb, qd, qf, X.says, X.ev, X.evs, evl, qe, gnA, q4d, zd1]
 exact ⟨fun h => by rw [if_pos h], fun h => by rw [if_neg h]⟩
def behind (s : So) (a : Int) : Bool := decide (2 ≤ a) && decide ((cellAt s (a - 2)).t = 5)
def qbn (s : So) (a : Int) : Bool := if (cellAt s a).t = 0 then decide ((cellAt s a).n = a) else if (cellAt s a).t = 5 then true else if (cellAt s a).t = 1 ∨ (cellAt s a).t = 2 ∨ (cellAt s a).t = 3 then behind s a else false
theorem qfm : FOk j8 (z4x inS qbn) := qdi fun ds outs hw hg => by
 obtain ⟨d, r, rfl, hd, e, r', rfl, he, rfl⟩ := hw
 obtain ⟨s, rfl, hs⟩ := wfS hd
 obtain ⟨i, rfl, hi⟩ := wfI he
 simp only [z4x, ye, yz, Option.ite_none_right_eq_some, Option.some.injEq] at hg
 obtain ⟨hin, rfl⟩ := hg
 have h1 := z8.1 hin
 have hl := hs.cs.1
 have hr : i64 (i - 2) := ⟨by omega, by omega⟩
 have hr' := q4a.2 hr
 simp only [q35, qa, qg, qb, qd, qf, X.says, X.ev, X.evs, evl, qe, gnA, zy hin, h1, hr, qbn, behind, q82]
 have e0 : (D.a [.i 0, .i i]) = eC ⟨0, i⟩ := rfl
 by_cases h2 : 2 ≤ i
 ·have hin2 : inS s (i - 2) = true := z8.2 ⟨by omega, by omega⟩
  have q1 : 0 ≤ i - 2 := by omega
  have q2 : i - 2 < s.cs.length := by omega
  simp only [zy hin2, h2, q1, q2, qnv, qqt, hr']
  by_cases c0 : (cellAt s i).t = 0
  ·have : (cellAt s i = ⟨0, i⟩) = ((cellAt s i).n = i) := propext ⟨fun e => by rw [e], fun e => Ce.ext' c0 e⟩
   simp [c0, this]
  ·by_cases c5 : (cellAt s i).t = 5
   ·simp [c5]
   ·by_cases c1 : (cellAt s i).t = 1
    ·simp [c1]
    ·by_cases c2 : (cellAt s i).t = 2
     ·simp [c2]
     ·by_cases c3 : (cellAt s i).t = 3
      ·simp [c3]
      ·simp [c0, c1, c2, c3, c5]
 ·simp only [h2]
  by_cases c0 : (cellAt s i).t = 0
  ·have : (cellAt s i = ⟨0, i⟩) = ((cellAt s i).n = i) := propext ⟨fun e => by rw [e], fun e => Ce.ext' c0 e⟩
   simp [c0, this]
  ·by_cases c5 : (cellAt s i).t = 5
   ·simp [c5]
   ·by_cases c1 : (cellAt s i).t = 1
    ·simp [c1]
    ·by_cases c2 : (cellAt s i).t = 2
     ·simp [c2]
     ·by_cases c3 : (cellAt s i).t = 3
      ·simp [c3]
      ·simp [c0, c1, c2, c3, c5]
def qge (s : So) (a : Int) : Nat → Ce → Bool
 | 0, _ => false
 | k + 1, c => if c.t = 0 ∧ inS s c.n = true then (if c.n = a then true else qge s a k (cellAt s c.n)) else false
def qte (s : So) (c : Ce) (a : Int) : Bool := qge s a (s.cs.length + 1) c
theorem qi8 {s : So} {a : Int} {c : Ce} (h : cellAt s c.n = c) (ha : ¬ c.n = a) : ∀ k, qge s a k c = false
 | 0 => rfl
 | k + 1 => by
  unfold qge
  by_cases hc : c.t = 0 ∧ inS s c.n = true
  ·rw [if_pos hc, if_neg ha, h]
   exact qi8 h ha k
  ·rw [if_neg hc]
def z7p (f : So → Ce → Int → Bool) : List D → Option (List D)
 | [s, c, i] => some [.b (f (dS s) (dC c) i.int)]
 | _ => none
theorem qo5 : FOk q0c (z7p qte) := qiy qic fun ds outs hw hg => by
 obtain ⟨d, r, rfl, hd, e, r', rfl, he, f, r2, rfl, hf, rfl⟩ := hw
 obtain ⟨s, rfl, hs⟩ := wfS hd
 obtain ⟨c0, rfl, hc⟩ := wfC he
 obtain ⟨a, rfl, ha⟩ := wfI hf
 simp only [z7p, ye, ju, yz, Option.some.injEq] at hg
 subst hg
 have hl := hs.cs.1
 rw [q58, qa]
 refine ⟨by simp only [qa, qg, qb, qd, qf, X.says, X.ev, X.evs, evl, qe, gnA]; omega, ?_⟩
 rw [jm]
 refine ⟨fun st => ∃ (k : Nat) (c : Ce), k ≤ s.cs.length + 1 ∧ st = [.b false, .i k, eC c] ∧ qge s a (s.cs.length + 1 - k) c = qte s c0 a, fun st => s.cs.length + 1 - (st.getD 1 .u).int.toNat, ⟨0, c0, Nat.zero_le _, rfl, rfl⟩, ?_⟩
 rintro st - ⟨k, c, hk, rfl, hP⟩
 simp only [qa, qg, qb, qd, qf, X.says, X.ev, X.evs, evl, qe, gnA, qtx]
 refine ⟨fun hlt => ?_, fun hlt => ?_⟩
 ·have hkl : k ≤ s.cs.length := by omega
  have hr : i64 ((k : Int) + 1) := ⟨by omega, by omega⟩
  obtain ⟨n, hn⟩ : ∃ n, s.cs.length + 1 - k = n + 1 := ⟨s.cs.length - k, by omega⟩
  rw [hn] at hP
  unfold qge at hP
  refine ⟨fun hx => ?_, fun hx => ?_⟩
  ·rw [if_neg] at hP
   ·rw [← hP]
   ·intro h
    simp [h.1, h.2] at hx
  ·have hx' : c.t = 0 ∧ inS s c.n = true := by simpa using hx
   have h1 := z8.1 hx'.2
   rw [if_pos hx'] at hP
   simp only [zy hx'.2, z10]
   refine ⟨fun hy => ?_, fun hy => ⟨h1, fun hz => ?_, fun hz => ⟨hr, ?_⟩⟩⟩
   ·rw [if_pos hy] at hP
    rw [hP]
   ·rw [if_neg hy, hz, qi8 hz hy] at hP
    rw [← hP]
   ·rw [if_neg hy] at hP
    rw [q3l, if_pos rfl]
    refine ⟨⟨k + 1, cellAt s c.n, by omega, by simp, by rw [show s.cs.length + 1 - (k + 1) = n by omega]; exact hP⟩, ?_⟩
    simp [D.int]
    omega
 ·rw [← hP, show s.cs.length + 1 - k = 0 by omega]
  rfl
def qak (vc : So → Ce → Bool) (st : So → Int → Bool) (s : So) (a : Int) (c : Ce) : Bool := inS s a && (vc s c && (st s a && !qte s (q4d c) a))
def zbe (s : So) (a : Int) (c : Ce) : So := { s with cs := s.cs.set a.toNat (q4d c), tr := s.tr ++ [⟨a, cellAt s a⟩] }
def zai (vc : So → Ce → Bool) (st : So → Int → Bool) : List D → Option (List D)
 | [s, a, c] => if qak vc st (dS s) a.int (dC c) then (if decide ((dS s).tr.length < 5864062014634) then some [.i 0, eS (zbe (dS s) a.int (dC c))] else none) else some [.i 1, eS (dS s)]
 | _ => none
theorem z93 {s : So} {a : Int} {c : Ce} : D.a ((D.a ((eS s).fs.set 2 (.r (s.tr.map eU ++ [.a [.i a, eC (cellAt s a)]])))).fs.set 0 (.r ((s.cs.map eC).set a.toNat (eC (q4d c))))) = eS (zbe s a c) := by
 simp [zbe, eS, D.fs, eU, List.map_set]
theorem ze8 {s : So} {x : D} : (D.a ((eS s).fs.set 2 x)).fld 0 = .r (s.cs.map eC) := rfl
theorem q6s : FOk zw (zai vcP qbn) := qpc qic ym qfm qph qo5 fun ds outs hw hg => by
 obtain ⟨d, r, rfl, hd, e, r', rfl, he, f, r2, rfl, hf, rfl⟩ := hw
 obtain ⟨s, rfl, hs⟩ := wfS hd
 obtain ⟨a, rfl, ha⟩ := wfI he
 obtain ⟨c, rfl, hc⟩ := wfC hf
 simp only [zai, ye, ju, yz] at hg
 simp only [q7l, qa, qg, qb, qd, qf, X.says, X.ev, X.evs, evl, qe, gnA, qtx, qgl, z4x, q8p, z7p, Option.isSome_some, Option.getD_some]
 cases hin : inS s a with
 | false =>
  have : qak vcP qbn s a c = false := by simp [qak, hin]
  simp only [this, Bool.false_eq_true, if_false, Option.some.injEq] at hg
  subst hg
  simp
 | true =>
  have h1 := z8.1 hin
  cases hv : vcP s c with
  | false =>
   have : qak vcP qbn s a c = false := by simp [qak, hv]
   simp only [this, Bool.false_eq_true, if_false, Option.some.injEq] at hg
   subst hg
   simp
  | true =>
   cases ht : qbn s a with
   | false =>
    have : qak vcP qbn s a c = false := by simp [qak, ht]
    simp only [this, Bool.false_eq_true, if_false, Option.some.injEq] at hg
    subst hg
    simp [q4k, ht]
   | true =>
    cases hco : qte s (q4d c) a with
    | true =>
     have : qak vcP qbn s a c = false := by simp [qak, hco]
     simp only [this, Bool.false_eq_true, if_false, Option.some.injEq] at hg
     subst hg
     simp [q4k, ht]
    | false =>
     have : qak vcP qbn s a c = true := by simp [qak, hin, hv, ht, hco]
     simp only [this, if_true, Option.ite_none_right_eq_some, Option.some.injEq, decide_eq_true_eq] at hg
     obtain ⟨hlt, rfl⟩ := hg
     simp only [zy hin, ze8, q6i, List.length_map, z93]
     simp [q4k, ht, h1]
     omega
structure Vc where
 v : Int
 c : Ce
instance : Inhabited Vc := ⟨⟨0, default⟩⟩
def eV (x : Vc) : D := .a [.i x.v, eC x.c]
def dV (d : D) : Vc := ⟨(d.fld 0).int, dC (d.fld 1)⟩
theorem qlb (x : Vc) : dV (eV x) = x := rfl
theorem zf8 {a b : Vc} (h : eV a = eV b) : a = b := by rw [← qlb a, h, qlb b]
instance : DecidableEq Vc := fun a b => if h : eV a = eV b then .isTrue (zf8 h) else .isFalse fun e => h (e ▸ rfl)
theorem zec (x : Vc) : (eV x).fld 0 = .i x.v := rfl
theorem zfu (x : Vc) : (eV x).fld 1 = eC x.c := rfl
theorem zdk (n : Int) (c : Ce) : D.a [.i n, eC c] = eV ⟨n, c⟩ := rfl
def dVs (d : D) : List Vc := d.rs.map dV
theorem q3a (l : List Vc) : dVs (.r (l.map eV)) = l := by
 show (l.map eV).map dV = l
 rw [List.map_map]
 exact List.map_id'' (fun x => rfl) l
theorem wfV {d : D} (h : Wf d qgp) : ∃ c, d = eV c ∧ i64 c.v ∧ c.c.ok := by
 obtain ⟨ds, rfl, hl⟩ := h.st_of (fs := [.int .i64, qn]) rfl
 obtain ⟨a, b, rfl, ha, hb⟩ := qv6 hl
 obtain ⟨x, rfl, hx⟩ := wfI ha
 obtain ⟨y, rfl, hy⟩ := wfC hb
 exact ⟨⟨x, y⟩, rfl, hx, hy⟩
theorem z3p {d : D} (h : Wf d qxc) : ∃ l : List Vc, d = .r (l.map eV) ∧ l.length ≤ 5864062014634 ∧ ∀ x ∈ l, i64 x.v ∧ x.c.ok := by
 obtain ⟨l, e, h1, h2⟩ := h.row_of (te := qgp) rfl
 subst e
 obtain ⟨m, rfl, h3⟩ := qb8 (e := eV) (P := fun x => i64 x.v ∧ x.c.ok) fun x hx => wfV (h2 x hx)
 have e : LM qgp = 5864062014634 := by kernel_rfl
 rw [e, List.length_map] at h1
 exact ⟨m, rfl, h1, h3⟩
def ofV : List Vc → Int → Option Ce
 | [], _ => none
 | x :: l, v => if x.v = v then some x.c else ofV l v
def qk6 : List Vc → Int → Ce → List Vc
 | [], v, c => [⟨v, c⟩]
 | x :: l, v, c => if x.v < v then x :: qk6 l v c else ⟨v, c⟩ :: x :: l
def loV : List Vc → Int → Nat
 | [], _ => 0
 | x :: l, v => if x.v < v then loV l v + 1 else 0
def SV (l : List Vc) : Prop := l.Pairwise (fun a b => a.v < b.v) ∧ ∀ x ∈ l, 0 ≤ x.v ∧ x.v ≤ 1099511627776
instance (l : List Vc) : Decidable (SV l) := inferInstanceAs (Decidable (_ ∧ _))
theorem qzd (v : Int) : ∀ l, loV l v ≤ l.length
 | [] => Nat.le_refl _
 | x :: l => by
  unfold loV
  have := qzd v l
  split <;> simp <;> omega
theorem z52 {v : Int} : ∀ {l : List Vc} {j : Nat}, j < loV l v → (l.getD j default).v < v
 | [], j, h => by simp [loV] at h
 | x :: l, j, h => by
  unfold loV at h
  split at h
  ·rename_i hx
   cases j with
   | zero => exact hx
   | succ j =>
    rw [List.getD_cons_succ]
    exact z52 (by omega)
  ·omega
theorem qx0 {v : Int} : ∀ {l : List Vc}, loV l v < l.length → v ≤ (l.getD (loV l v) default).v
 | [], h => by simp [loV] at h
 | x :: l, h => by
  unfold loV at h ⊢
  split at h
  ·rename_i hx
   rw [if_pos hx, List.getD_cons_succ]
   exact qx0 (by simpa using h)
  ·rename_i hx
   rw [if_neg hx, List.getD_cons_zero]
   omega
theorem z5j {v : Int} {l : List Vc} {i : Nat} (hi : i ≤ l.length) (h1 : ∀ j, j < i → (l.getD j default).v < v) (h2 : ∀ j, i ≤ j → j < l.length → v ≤ (l.getD j default).v) : loV l v = i := by
 rcases Nat.lt_trichotomy (loV l v) i with h | h | h
 ·have := h1 _ h
  have := qx0 (v := v) (l := l) (by omega)
  omega
 ·exact h
 ·have := z52 h
  have h3 := qzd v l
  have := h2 i (Nat.le_refl _) (by omega)
  omega
theorem qtk (v : Int) (c : Ce) : ∀ l, qk6 l v c = l.take (loV l v) ++ ⟨v, c⟩ :: l.drop (loV l v)
 | [] => rfl
 | x :: l => by
  unfold qk6 loV
  split
  ·rw [qtk v c l]
   rfl
  ·rfl
theorem qw8 {v : Int} : ∀ {l : List Vc}, (∀ y ∈ l, y.v ≠ v) → ofV l v = none
 | [], _ => rfl
 | x :: l, h => by
  unfold ofV
  rw [if_neg (h x (by simp)), qw8 fun y hy => h y (by simp [hy])]
theorem qxx {v : Int} : ∀ {l : List Vc}, SV l → ofV l v = if loV l v < l.length ∧ (l.getD (loV l v) default).v = v then some (l.getD (loV l v) default).c else none
 | [], _ => rfl
 | x :: l, h => by
  have hp := List.pairwise_cons.1 h.1
  have hl : SV l := ⟨hp.2, fun y hy => h.2 y (by simp [hy])⟩
  unfold ofV loV
  by_cases hx : x.v < v
  ·rw [if_neg (by omega), if_pos hx, qxx hl]
   simp
  ·rw [if_neg hx]
   by_cases he : x.v = v
   ·simp [he]
   ·rw [if_neg he, qw8 fun y hy => by have := hp.1 y hy; omega]
    simp [he]
theorem z6w {v : Int} : ∀ {l : List Vc}, ofV l v = none → ∀ y ∈ l, y.v ≠ v
 | [], _, y, hy => by cases hy
 | x :: l, h, y, hy => by
  unfold ofV at h
  split at h
  ·cases h
  ·rename_i hx
   rcases List.mem_cons.1 hy with rfl | hy
   ·exact hx
   ·exact z6w h y hy
theorem qwl {v : Int} {c : Ce} {l : List Vc} {y : Vc} : y ∈ qk6 l v c ↔ y = ⟨v, c⟩ ∨ y ∈ l := by
 rw [qtk, List.mem_append, List.mem_cons]
 conv => rhs; rw [← List.take_append_drop (loV l v) l, List.mem_append]
 constructor
 ·rintro (h | h | h)
  ·exact .inr (.inl h)
  ·exact .inl h
  ·exact .inr (.inr h)
 ·rintro (h | h | h)
  ·exact .inr (.inl h)
  ·exact .inl h
  ·exact .inr (.inr h)
theorem z06 {v : Int} {c : Ce} (h0 : 0 ≤ v) (h1 : v ≤ 1099511627776) : ∀ {l : List Vc}, SV l → ofV l v = none → SV (qk6 l v c) := fun {l} h hn => by
 refine ⟨?_, fun y hy => ?_⟩
 ·have hne := z6w hn
  have key : ∀ l : List Vc, l.Pairwise (fun a b => a.v < b.v) → (∀ y ∈ l, y.v ≠ v) → (qk6 l v c).Pairwise fun a b => a.v < b.v := by
   intro l
   induction l with
   | nil => intro _ _; exact List.pairwise_singleton _ _
   | cons x l ih =>
    intro hp hn
    have hp' := List.pairwise_cons.1 hp
    unfold qk6
    split
    ·rename_i hx
     refine List.pairwise_cons.2 ⟨fun y hy => ?_, ih hp'.2 fun y hy => hn y (by simp [hy])⟩
     rcases qwl.1 hy with rfl | hy
     ·exact hx
     ·exact hp'.1 y hy
    ·rename_i hx
     have := hn x (by simp)
     refine List.pairwise_cons.2 ⟨fun y hy => ?_, hp⟩
     rcases List.mem_cons.1 hy with rfl | hy
     ·show v < y.v; omega
     ·have := hp'.1 y hy
      show v < y.v
      omega
  exact key l h.1 hne
 ·rcases qwl.1 hy with rfl | hy
  ·exact ⟨h0, h1⟩
  ·exact h.2 y hy
theorem z5u {b : Int} : ∀ (l : List Vc) (a : Int), a ≤ b + 1 → l.Pairwise (fun x y => x.v < y.v) → (∀ x ∈ l, a ≤ x.v ∧ x.v ≤ b) → (l.length : Int) ≤ b - a + 1
 | [], a, h, _, _ => by simp; omega
 | x :: l, a, h, hp, hr => by
  have hp' := List.pairwise_cons.1 hp
  have hx := hr x (by simp)
  have := z5u l (x.v + 1) (by omega) hp'.2 fun y hy => ⟨by have := hp'.1 y hy; omega, (hr y (by simp [hy])).2⟩
  rw [List.length_cons]
  omega
theorem SV.len {l : List Vc} (h : SV l) : (l.length : Int) ≤ 1099511627777 := by
 have := z5u (b := 1099511627776) l 0 (by omega) h.1 h.2
 omega
theorem z1e {nm : ByteArray} {ar : Int} : ∀ (k : Nat) (l : List Sy), 0 ≤ fnd nm ar k l ↔ (⟨nm, ar⟩ : Sy) ∈ l
 | k, [] => by simp [fnd]
 | k, y :: l => by
  unfold fnd
  split
  ·rename_i h
   obtain ⟨rfl, rfl⟩ := h
   exact ⟨fun _ => by simp, fun _ => Int.natCast_nonneg _⟩
  ·rename_i h
   rw [z1e (k + 1) l, List.mem_cons]
   exact ⟨.inr, fun h' => h'.elim (fun e => by subst e; exact (h ⟨rfl, rfl⟩).elim) id⟩
theorem qcq {s : So} {nm : ByteArray} {ar : Int} : 0 ≤ qb1 s nm ar ↔ (⟨nm, ar⟩ : Sy) ∈ s.ys := z1e 0 s.ys
def q6t (s : So) (nm : ByteArray) (ar : Int) : Int × So := if 0 ≤ qb1 s nm ar then (qb1 s nm ar, s) else ((s.ys.length : Nat), { s with ys := s.ys ++ [⟨nm, ar⟩] })
def qhf (ys : List Sy) (y : Sy) : List Sy := if y ∈ ys then ys else ys ++ [y]
mutual
def q8n (ys : List Sy) : Te → List Sy
 | .mk k _ nm l => q34 (if k = 2 ∨ k = 3 then qhf ys ⟨nm, (l.length : Nat)⟩ else ys) l
def q34 (ys : List Sy) : List Te → List Sy
 | [] => ys
 | t :: l => q34 (q8n ys t) l
end
theorem z4m (ys : List Sy) (y : Sy) : ys.length ≤ (qhf ys y).length := by
 unfold qhf
 split
 ·exact Nat.le_refl _
 ·simp
mutual
theorem qgi : ∀ (t : Te) (ys : List Sy), ys.length ≤ (q8n ys t).length
 | .mk k n nm l, ys => by
  rw [q8n]
  refine Nat.le_trans ?_ (qaa l _)
  split
  ·exact z4m _ _
  ·exact Nat.le_refl _
theorem qaa : ∀ (l : List Te) (ys : List Sy), ys.length ≤ (q34 ys l).length
 | [], ys => Nat.le_refl _
 | t :: l, ys => by
  rw [q34]
  exact Nat.le_trans (qgi t ys) (qaa l _)
end
theorem qtm (s : So) (nm : ByteArray) (ar : Int) : (q6t s nm ar).2.cs = s.cs ∧ (q6t s nm ar).2.mx = s.mx ∧ (q6t s nm ar).2.ys = qhf s.ys ⟨nm, ar⟩ ∧ (q6t s nm ar).2.tr = s.tr ∧ (q6t s nm ar).2.wk = s.wk ∧ (q6t s nm ar).2.ser = s.ser := by
 unfold q6t qhf
 by_cases h : 0 ≤ qb1 s nm ar
 ·rw [if_pos h, if_pos (qcq.1 h)]
  exact ⟨rfl, rfl, rfl, rfl, rfl, rfl⟩
 ·rw [if_neg h, if_neg (fun q => h (qcq.2 q))]
  exact ⟨rfl, rfl, rfl, rfl, rfl, rfl⟩
def qnl (ys ms : List Sy) (y : Sy) : List Sy := if y ∈ ms ∨ y ∈ ys then ms else ms ++ [y]
mutual
def qbz (ys ms : List Sy) : Te → List Sy
 | .mk k _ nm l => q43 ys (if k = 2 ∨ k = 3 then qnl ys ms ⟨nm, (l.length : Nat)⟩ else ms) l
def q43 (ys ms : List Sy) : List Te → List Sy
 | [] => ms
 | t :: l => q43 ys (qbz ys ms t) l
end
theorem zf7 (ys ms : List Sy) (y : Sy) : ys ++ qnl ys ms y = qhf (ys ++ ms) y := by
 unfold qnl qhf
 by_cases h : y ∈ ms ∨ y ∈ ys
 ·rw [if_pos h, if_pos (List.mem_append.2 h.symm)]
 ·rw [if_neg h, if_neg (fun q => h (List.mem_append.1 q).symm), List.append_assoc]
mutual
theorem z42 : ∀ (t : Te) (ys ms : List Sy), ys ++ qbz ys ms t = q8n (ys ++ ms) t
 | .mk k n nm l, ys, ms => by
  rw [qbz, q8n, qzp]
  split
  ·rw [zf7]
  ·rfl
theorem qzp : ∀ (l : List Te) (ys ms : List Sy), ys ++ q43 ys ms l = q34 (ys ++ ms) l
 | [], ys, ms => rfl
 | t :: l, ys, ms => by rw [q43, q34, qzp, z42]
end
theorem z60 (ys ms : List Sy) (y : Sy) : (qnl ys ms y).length ≤ ms.length + 1 := by
 unfold qnl
 split
 ·omega
 ·simp
mutual
theorem qv9 : ∀ (t : Te) (ys ms : List Sy), (qbz ys ms t).length ≤ ms.length + szT t
 | .mk k n nm l, ys, ms => by
  rw [qbz, szT]
  refine Nat.le_trans (qre l _ _) ?_
  split
  ·have := z60 ys ms ⟨nm, (l.length : Nat)⟩
   omega
  ·omega
theorem qre : ∀ (l : List Te) (ys ms : List Sy), (q43 ys ms l).length ≤ ms.length + q1s l
 | [], ys, ms => by simp [q43, q1s]
 | t :: l, ys, ms => by
  rw [q43, q1s]
  have h1 := qv9 t ys ms
  have h2 := qre l ys (qbz ys ms t)
  omega
end
mutual
/-- The cells that a term needs, but for a variable that is no argument. -/
def q7x : Te → Nat
 | .mk k _ _ l => if k = 3 then 1 + l.length + q1f l else 0
def q1f : List Te → Nat
 | [] => 0
 | t :: l => q7x t + q1f l
end
mutual
theorem z08 : ∀ t : Te, q7x t + 1 ≤ 2 * szT t
 | .mk k n nm l => by
  rw [q7x, szT]
  have h1 := qur l
  have h2 := qv1 l
  split <;> omega
theorem qur : ∀ l : List Te, q1f l + l.length ≤ 2 * q1s l
 | [] => Nat.le_refl _
 | t :: l => by
  rw [q1f, q1s, List.length_cons]
  have h1 := z08 t
  have h2 := qur l
  omega
end
def qjr (t : Te) (all : List Vc) : Nat := q7x t + if t.k = 0 ∧ ofV all t.n = none then 1 else 0
abbrev Sv := So × List Vc
def z2d (s : So) (i : Nat) (c : Ce) : So := { s with cs := s.cs.set i c }
mutual
/-- A term added; at: the address of the argument that it becomes. -/
def q5p (q : Sv) : Te → Int → Ce × Sv
 | .mk k n nm l, at' =>
  if k = 1 then (⟨1, n⟩, q)
  else if k = 2 then (⟨2, (q6t q.1 nm 0).1⟩, (q6t q.1 nm 0).2, q.2)
  else if k = 0 then (match ofV q.2 n with
   | some c => (q4d c, q)
   | none => if at' < 0 then (⟨0, (q.1.cs.length : Nat)⟩, { q.1 with cs := q.1.cs ++ [⟨0, (q.1.cs.length : Nat)⟩] }, qk6 q.2 n ⟨0, (q.1.cs.length : Nat)⟩) else (⟨0, at'⟩, q.1, qk6 q.2 n ⟨0, at'⟩))
  else (⟨3, (q.1.cs.length : Nat)⟩, qal ({ (q6t q.1 nm (l.length : Nat)).2 with cs := q.1.cs ++ (⟨4, (q6t q.1 nm (l.length : Nat)).1⟩ :: List.replicate l.length ⟨0, 0⟩) }, q.2) l (q.1.cs.length + 1))
def qal (q : Sv) : List Te → Nat → Sv
 | [], _ => q
 | a :: l, to => qal (z2d (q5p q a (to : Nat)).2.1 to (q5p q a (to : Nat)).1, (q5p q a (to : Nat)).2.2) l (to + 1)
end
theorem qmw (s : So) (i : Nat) (c : Ce) : (z2d s i c).cs.length = s.cs.length := by simp [z2d]
def Rst (s s' : So) : Prop := s'.mx = s.mx ∧ s'.tr = s.tr ∧ s'.wk = s.wk ∧ s'.ser = s.ser
theorem Rst.trans {a b c : So} (h : Rst a b) (k : Rst b c) : Rst a c := ⟨k.1.trans h.1, k.2.1.trans h.2.1, k.2.2.1.trans h.2.2.1, k.2.2.2.trans h.2.2.2⟩
theorem zas (k n : Int) (s : ByteArray) (l : List Te) : q41 (.mk k n s l) = if k = 0 then decide (0 ≤ n) && (decide (n ≤ 1099511627776) && (decide (s = ⟨#[]⟩) && decide ((l.length : Int) = 0)))
 else if k = 1 then decide (s = ⟨#[]⟩) && decide ((l.length : Int) = 0)
 else if k = 2 then decide (n = 0) && (decide ((s.size : Int) ≤ 100) && decide ((l.length : Int) = 0))
 else if k = 3 then decide (n = 0) && (decide ((s.size : Int) ≤ 100) && (decide (1 ≤ (l.length : Int)) && decide ((l.length : Int) ≤ 8)))
 else false := rfl
theorem qdp {k n : Int} {s : ByteArray} {l : List Te} (h : q41 (.mk k n s l) = true) : (k = 0 ∧ l = [] ∧ 0 ≤ n ∧ n ≤ 1099511627776) ∨ (k = 1 ∧ l = []) ∨ (k = 2 ∧ l = [] ∧ s.size ≤ 100) ∨ (k = 3 ∧ s.size ≤ 100 ∧ 1 ≤ l.length ∧ l.length ≤ 8) := by
 rw [zas] at h
 by_cases h0 : k = 0
 ·rw [if_pos h0] at h
  simp only [Bool.and_eq_true, decide_eq_true_eq] at h
  exact .inl ⟨h0, List.length_eq_zero_iff.1 (by omega), h.1, h.2.1⟩
 rw [if_neg h0] at h
 by_cases h1 : k = 1
 ·rw [if_pos h1] at h
  simp only [Bool.and_eq_true, decide_eq_true_eq] at h
  exact .inr (.inl ⟨h1, List.length_eq_zero_iff.1 (by omega)⟩)
 rw [if_neg h1] at h
 by_cases h2 : k = 2
 ·rw [if_pos h2] at h
  simp only [Bool.and_eq_true, decide_eq_true_eq] at h
  exact .inr (.inr (.inl ⟨h2, List.length_eq_zero_iff.1 (by omega), by omega⟩))
 rw [if_neg h2] at h
 split at h
 ·rename_i h3
  simp only [Bool.and_eq_true, decide_eq_true_eq] at h
  exact .inr (.inr (.inr ⟨h3, by omega, by omega, by omega⟩))
 ·cases h
theorem z53 (q : Sv) (n : Int) (nm : ByteArray) (l : List Te) (a : Int) : q5p q (.mk 0 n nm l) a = match ofV q.2 n with
   | some c => (q4d c, q)
   | none => if a < 0 then (⟨0, (q.1.cs.length : Nat)⟩, { q.1 with cs := q.1.cs ++ [⟨0, (q.1.cs.length : Nat)⟩] }, qk6 q.2 n ⟨0, (q.1.cs.length : Nat)⟩) else (⟨0, a⟩, q.1, qk6 q.2 n ⟨0, a⟩) := by
 rw [q5p, if_neg (by decide), if_neg (by decide), if_pos rfl]
theorem z7n (q : Sv) (n : Int) (nm : ByteArray) (l : List Te) (a : Int) : q5p q (.mk 1 n nm l) a = (⟨1, n⟩, q) := by rw [q5p, if_pos rfl]
theorem z56 (q : Sv) (n : Int) (nm : ByteArray) (l : List Te) (a : Int) : q5p q (.mk 2 n nm l) a = (⟨2, (q6t q.1 nm 0).1⟩, (q6t q.1 nm 0).2, q.2) := by rw [q5p, if_neg (by decide), if_pos rfl]
theorem z6i (q : Sv) (n : Int) (nm : ByteArray) (l : List Te) (a : Int) : q5p q (.mk 3 n nm l) a = (⟨3, (q.1.cs.length : Nat)⟩, qal ({ (q6t q.1 nm (l.length : Nat)).2 with cs := q.1.cs ++ (⟨4, (q6t q.1 nm (l.length : Nat)).1⟩ :: List.replicate l.length ⟨0, 0⟩) }, q.2) l (q.1.cs.length + 1)) := by rw [q5p, if_neg (by decide), if_neg (by decide), if_neg (by decide)]
theorem qna {k n : Int} {nm : ByteArray} {l : List Te} (h : k ≠ 3) : q7x (.mk k n nm l) = 0 := by rw [q7x, if_neg h]
theorem qt6 {k n : Int} {nm : ByteArray} {l : List Te} (h : k ≠ 0) (all : List Vc) : qjr (.mk k n nm l) all = q7x (.mk k n nm l) := by
 unfold qjr
 rw [if_neg (fun q => h q.1)]
 rfl
theorem z01 {k n : Int} {nm : ByteArray} {ys : List Sy} (h : ¬ (k = 2 ∨ k = 3)) : q8n ys (.mk k n nm []) = ys := by rw [q8n, if_neg h, q34]
theorem z5m {n : Int} {nm : ByteArray} {ys : List Sy} : q8n ys (.mk 2 n nm []) = qhf ys ⟨nm, 0⟩ := by rw [q8n, if_pos (.inl rfl), q34]; rfl
theorem z81 {n : Int} {nm : ByteArray} {ys : List Sy} {l : List Te} : q8n ys (.mk 3 n nm l) = q34 (qhf ys ⟨nm, (l.length : Nat)⟩) l := by rw [q8n, if_pos (.inr rfl)]
theorem zd8 {n : Int} {nm : ByteArray} {l : List Te} : q7x (.mk 3 n nm l) = 1 + l.length + q1f l := by rw [q7x, if_pos rfl]
theorem Rst.refl (s : So) : Rst s s := ⟨rfl, rfl, rfl, rfl⟩
mutual
theorem qlf : ∀ (t : Te) (q : Sv) (a : Int), yd t = true → SV q.2 → (q5p q t a).2.1.cs.length = q.1.cs.length + (if a < 0 then qjr t q.2 else q7x t) ∧ (q5p q t a).2.1.ys = q8n q.1.ys t ∧ Rst q.1 (q5p q t a).2.1 ∧ SV (q5p q t a).2.2
 | .mk k n nm l, q, a, hn, hs => by
  rw [yd, Bool.and_eq_true] at hn
  rcases qdp hn.1 with ⟨rfl, rfl, h1, h2⟩ | ⟨rfl, rfl⟩ | ⟨rfl, rfl, h1⟩ | ⟨rfl, h1, h2, h3⟩
  ·have e1 : qjr (.mk 0 n nm []) q.2 = if ofV q.2 n = none then 1 else 0 := by
    unfold qjr
    rw [qna (by decide)]
    simp [Te.k, Te.n]
   rw [z53, z01 (by decide), qna (by decide), e1]
   cases ho : ofV q.2 n with
   | some c => exact ⟨by simp, rfl, Rst.refl _, hs⟩
   | none =>
    by_cases ha : a < 0
    ·simp only [if_pos ha]
     exact ⟨by simp, by trivial, ⟨rfl, rfl, rfl, rfl⟩, z06 h1 h2 hs ho⟩
    ·simp only [if_neg ha]
     exact ⟨by simp, by trivial, ⟨rfl, rfl, rfl, rfl⟩, z06 h1 h2 hs ho⟩
  ·rw [z7n, z01 (by decide), qt6 (by decide), qna (by decide)]
   exact ⟨by simp, rfl, Rst.refl _, hs⟩
  ·obtain ⟨e1, e2, e3, e4, e5, e6⟩ := qtm q.1 nm 0
   rw [z56, z5m, qt6 (by decide), qna (by decide)]
   exact ⟨by rw [e1]; simp, e3, ⟨e2, e4, e5, e6⟩, hs⟩
  ·obtain ⟨e1, e2, e3, e4, e5, e6⟩ := qtm q.1 nm (l.length : Nat)
   rw [z6i, z81, qt6 (by decide), zd8]
   obtain ⟨g1, g2, g3, g4⟩ := qqn l ({ (q6t q.1 nm (l.length : Nat)).2 with cs := q.1.cs ++ (⟨4, (q6t q.1 nm (l.length : Nat)).1⟩ :: List.replicate l.length ⟨0, 0⟩) }, q.2) (q.1.cs.length + 1) hn.2 hs
   refine ⟨?_, ?_, ?_, g4⟩
   ·rw [g1]
    simp
    omega
   ·rw [g2]
    show q34 (q6t q.1 nm (l.length : Nat)).2.ys l = _
    rw [e3]
   ·exact Rst.trans ⟨e2, e4, e5, e6⟩ g3
theorem qqn : ∀ (l : List Te) (q : Sv) (to : Nat), q3b l = true → SV q.2 → (qal q l to).1.cs.length = q.1.cs.length + q1f l ∧ (qal q l to).1.ys = q34 q.1.ys l ∧ Rst q.1 (qal q l to).1 ∧ SV (qal q l to).2
 | [], q, to, _, hs => ⟨rfl, rfl, ⟨rfl, rfl, rfl, rfl⟩, hs⟩
 | t :: l, q, to, hn, hs => by
  rw [q3b, Bool.and_eq_true] at hn
  rw [qal, q1f, q34]
  obtain ⟨h1, h2, h3, h4⟩ := qlf t q (to : Nat) hn.1 hs
  obtain ⟨g1, g2, g3, g4⟩ := qqn l (z2d (q5p q t (to : Nat)).2.1 to (q5p q t (to : Nat)).1, (q5p q t (to : Nat)).2.2) (to + 1) hn.2 h4
  refine ⟨?_, ?_, ?_, g4⟩
  ·rw [g1, qmw, h1, if_neg (by omega)]
   omega
  ·rw [g2]
   show q34 (q5p q t (to : Nat)).2.1.ys l = _
   rw [h2]
  ·exact Rst.trans h3 g3
end
section
namespace Ins
open Go.RowKit Go.Shelf Go.Lib
attribute [local go_sem] Oper.semAt_some
abbrev E3 := Int × Int × Int
def fl3 (x : E3) : List Value := [.int .i64 x.1, .int .i64 x.2.1, .int .i64 x.2.2]
def fls (l : List E3) : List Value := l.flatMap fl3
theorem q8r (l : List E3) : (fls l).length = l.length * 3 := by
 induction l with
 | nil => rfl
 | cons x l ih => simp [fls, fl3] at *; omega
theorem qkj (l m : List E3) : fls (l ++ m) = fls l ++ fls m := List.flatMap_append
theorem qkt {l : List E3} : ∀ v ∈ fls l, v.oneCell' = true := fun v hv => by
 obtain ⟨x, -, hx⟩ := List.mem_flatMap.1 hv
 simp only [fl3, List.mem_cons, List.not_mem_nil, or_false] at hx
 rcases hx with rfl | rfl | rfl <;> rfl
theorem qfw (x : E3) (l : List E3) : fls (x :: l) = fl3 x ++ fls l := rfl
theorem qt3 : Try.prog.underlying 94 = some (.slice 98) := by kernel_rfl
theorem zcd : Try.prog.underlying 3 = some (.int .i64) := by kernel_rfl
theorem z1i : (Try.prog.info? 98).map (fun i => (i.size, i.bytes)) = some (3, 24) := by kernel_rfl
theorem zee : (Try.prog.info? 98).map (fun i => i.zero) = some (some (.agg #[.int .i64 0, .int .i64 0, .int .i64 0])) := by kernel_rfl
theorem zbb (w : World) : (Go.sizeOf 98).run Try.prog w = .ok 3 w := by kernel_rfl
theorem qcl (w : World) (ty : TypeId) (g o dLen dCap : Nat) (a : Addr) (sLen sCap : Nat) (cur : Array Value) (t : TypeId) (cs : List Value)
  (hg : w.heap[g]? = some (.cells cur t (0, 0))) {n : Nat} (hn : n = Nat.min sLen dLen) (hl : cs.length = n * 3)
  (hsrc : ∀ j v, cs[j]? = some v → w.cell? (a.add j) = some v) (hfit : o + cs.length ≤ cur.size) (h1 : ∀ v ∈ cs, v.oneCell' = true) :
  (Builtin.copy_ #[94, 94] ty #[.slice (some ⟨g, o, none⟩) dLen dCap, .slice (some a) sLen sCap]).run Try.prog w =
   .ok (goInt n) (w.setRow g (cur.toList.take o ++ cs ++ cur.toList.drop (o + cs.length)).toArray) := by
 have hld := run_loadCells_list (P := Try.prog) w a cs hsrc
 have hst := run_storeCells_at Try.prog g o t cs 0 cur w hg (by simpa using hfit) h1
 obtain ⟨i, hi, e⟩ := Option.map_eq_some_iff.1 z1i
 simp only [Prod.mk.injEq] at e
 rw [hl] at hld
 simp [Builtin.copy_, run_underlying qt3, Builtin.lenOf, Builtin.firstCells, sizeOf, typeInfo, hi, e.1, ← hn, hld, hst]
theorem q9q {w : World} {b k : Nat} {cs : List Value} {T : TypeId} (h : w.heap[b]? = some (.cells cs.toArray T (0, 0))) {v : Value} (hv : cs[k]? = some v) : w.cell? ⟨b, k, none⟩ = some v := by
 rw [cell_of_row w b k _ T (0, 0) h]
 simpa using hv
theorem z6t (w : World) (b cap vb vc i n : Nat) (L0 : List E3) (x : E3) (post vpost : List Value) (E Ev : TypeId) (hL : L0.length = n) (hi : i < n) (hcap : n + 1 ≤ cap) (hc63 : cap ≤ 9223372036854775807) (hne : vb ≠ b) (hp3 : 3 ≤ post.length)
  (hb : w.heap[b]? = some (.cells (fls L0 ++ post).toArray E (0, 0))) (hv : w.heap[vb]? = some (.cells (fl3 x ++ vpost).toArray Ev (0, 0))) :
  Calls Try.prog 85 #[.slice (some ⟨b, 0, none⟩) n cap, .int .i64 i, .slice (some ⟨vb, 0, none⟩) 1 vc] w fun e w' =>
   e = .returned (.slice (some ⟨b, 0, none⟩) (n + 1) cap) ∧ But (fun k => k = b) w w' ∧ w'.heap[b]? = some (.cells (fls (L0.take i ++ x :: L0.drop i) ++ post.drop 3).toArray E (0, 0)) := by
 have hlL := q8r L0
 have hlt := q8r (L0.take i)
 have hld := q8r (L0.drop i)
 have hsplit : fls L0 = fls (L0.take i) ++ fls (L0.drop i) := by rw [← qkj, List.take_append_drop]
 have htl : (L0.take i).length = i := by rw [List.length_take]; omega
 have hdl : (L0.drop i).length = n - i := by rw [List.length_drop, hL]
 have hov : ∀ lb cb, (callFunc 96 #[.slice (some ⟨vb, 0, none⟩) 1 vc, .slice (some ⟨b, (i + 1) * 3, none⟩) lb cb]).run Try.prog w = .ok (.value (.bool false)) w := fun lb cb => by
  rw [run_callFunc_extern Try.func96 (by kernel_rfl) (by kernel_rfl) (by kernel_rfl) (e := Extern.SlicesOverlaps.overlaps #[94, 94] #[4]) (by kernel_rfl),
   Lib.run_overlaps_apart w 94 4 98 qt3 3 zbb ⟨vb, 0, none⟩ ⟨b, (i + 1) * 3, none⟩ 1 vc lb cb hne Ev E (fl3 x ++ vpost).toArray.size (fls L0 ++ post).toArray.size (by simp [World.shape?, hv]) (by simp [World.shape?, hb]) (by rw [List.size_toArray, List.length_append]; omega) (by simp [World.frozen?, hv]) (by simp [World.frozen?, hv])]
  rfl
 have hcp1 : ∀ ty dc sc, (Builtin.copy_ #[94, 94] ty #[.slice (some ⟨b, (i + 1) * 3, none⟩) (n - i) dc, .slice (some ⟨b, i * 3, none⟩) (n + 1 - i) sc]).run Try.prog w.drew = .ok (goInt (n - i : Nat)) (w.drew.setRow b ((fls L0 ++ post).toArray.toList.take ((i + 1) * 3) ++ fls (L0.drop i) ++ (fls L0 ++ post).toArray.toList.drop ((i + 1) * 3 + (fls (L0.drop i)).length)).toArray) := fun ty dc sc =>
  qcl w.drew ty b ((i + 1) * 3) (n - i) dc ⟨b, i * 3, none⟩ (n + 1 - i) sc (fls L0 ++ post).toArray E (fls (L0.drop i)) hb (by simp only [Nat.min_def]; split <;> omega) (by rw [hld, hdl])
   (fun j v hj => by
    rw [Addr.add_lit]
    refine q9q (w := w.drew) (T := E) hb ?_
    rw [hsplit, List.append_assoc, List.getElem?_append_right (by omega), show i * 3 + j - (fls (L0.take i)).length = j by omega]
    exact List.getElem?_append_left (by have := (List.getElem?_eq_some_iff.1 hj).1; omega) ▸ hj)
   (by simp; omega) qkt
 obtain ⟨J, hJ, hcur⟩ : ∃ J : List Value, J.length = 3 ∧ ((fls L0 ++ post).toArray.toList.take ((i + 1) * 3) ++ fls (L0.drop i) ++ (fls L0 ++ post).toArray.toList.drop ((i + 1) * 3 + (fls (L0.drop i)).length)) = fls (L0.take i) ++ (J ++ (fls (L0.drop i) ++ post.drop 3)) := by
  refine ⟨(fls (L0.drop i)).take 3, by rw [List.length_take]; omega, ?_⟩
  have e1 : (fls L0 ++ post).take ((i + 1) * 3) = fls (L0.take i) ++ (fls (L0.drop i)).take 3 := by
   rw [hsplit, List.append_assoc, List.take_append, List.take_of_length_le (by omega), show (i + 1) * 3 - (fls (L0.take i)).length = 3 by omega, List.take_append_of_le_length (by omega)]
  have e2 : (fls L0 ++ post).drop ((i + 1) * 3 + (fls (L0.drop i)).length) = post.drop 3 := by
   rw [List.drop_append, List.drop_eq_nil_of_le (by omega), List.nil_append]
   congr 1
   omega
  show (fls L0 ++ post).take _ ++ _ ++ (fls L0 ++ post).drop _ = _
  rw [e1, e2]
  simp
 rw [hcur] at hcp1
 have hb1 : (w.drew.setRow b (fls (L0.take i) ++ (J ++ (fls (L0.drop i) ++ post.drop 3))).toArray).heap[b]? = some (.cells (fls (L0.take i) ++ (J ++ (fls (L0.drop i) ++ post.drop 3))).toArray E (0, 0)) := setRow_heap w.drew b _ _ E _ hb
 have hv1 : (w.drew.setRow b (fls (L0.take i) ++ (J ++ (fls (L0.drop i) ++ post.drop 3))).toArray).heap[vb]? = some (.cells (fl3 x ++ vpost).toArray Ev (0, 0)) := by
  rw [setRow_other w.drew b vb _ hne]
  exact hv
 obtain ⟨W1, hW1⟩ : ∃ W1, W1 = w.drew.setRow b (fls (L0.take i) ++ (J ++ (fls (L0.drop i) ++ post.drop 3))).toArray := ⟨_, rfl⟩
 rw [← hW1] at hcp1 hb1 hv1
 have hcp2 : ∀ (W : World), W.heap = W1.heap → ∀ ty dc, (Builtin.copy_ #[94, 94] ty #[.slice (some ⟨b, i * 3, none⟩) (n + 1 - i) dc, .slice (some ⟨vb, 0, none⟩) 1 vc]).run Try.prog W = .ok (goInt (1 : Nat)) (W.setRow b ((fls (L0.take i) ++ (J ++ (fls (L0.drop i) ++ post.drop 3))).toArray.toList.take (i * 3) ++ fl3 x ++ (fls (L0.take i) ++ (J ++ (fls (L0.drop i) ++ post.drop 3))).toArray.toList.drop (i * 3 + (fl3 x).length)).toArray) := fun W hW ty dc =>
  qcl W ty b (i * 3) (n + 1 - i) dc ⟨vb, 0, none⟩ 1 vc _ E (fl3 x) (hW ▸ hb1) (by simp only [Nat.min_def]; split <;> omega) rfl
   (fun j v hj => by
    rw [Addr.add_lit, Nat.zero_add]
    refine q9q (w := W) (T := Ev) (hW ▸ hv1) ?_
    exact List.getElem?_append_left (by have := (List.getElem?_eq_some_iff.1 hj).1; omega) ▸ hj)
   (by simp [fl3]; omega) (fun v hv => qkt (l := [x]) v (by simpa [fls] using hv))
 have hcur2 : ((fls (L0.take i) ++ (J ++ (fls (L0.drop i) ++ post.drop 3))).toArray.toList.take (i * 3) ++ fl3 x ++ (fls (L0.take i) ++ (J ++ (fls (L0.drop i) ++ post.drop 3))).toArray.toList.drop (i * 3 + (fl3 x).length)) = fls (L0.take i ++ x :: L0.drop i) ++ post.drop 3 := by
  show (fls (L0.take i) ++ (J ++ (fls (L0.drop i) ++ post.drop 3))).take _ ++ _ ++ (fls (L0.take i) ++ (J ++ (fls (L0.drop i) ++ post.drop 3))).drop _ = _
  rw [show i * 3 = (fls (L0.take i)).length by omega, List.take_left, show (fls (L0.take i)).length + (fl3 x).length = (fls (L0.take i) ++ J).length by rw [List.length_append, hJ]; rfl, ← List.append_assoc (fls (L0.take i)) J, List.drop_left, qkj, qfw]
  simp
 rw [hcur2] at hcp2
 have hw1 : IntKind.i64.wrap ((i : Int) + 1) = (i : Int) + 1 := by rw [IntKind.wrap_i64]; omega
 have hz2 : ¬ ((i : Int) = (n : Int)) := by omega
 have h0i : (0 : Int) ≤ (i : Int) + 1 := by omega
 have hin : i ≤ n := by omega
 have htn : ((i : Int) + 1).toNat = i + 1 := by omega
 have hb2 : ¬ (cap = i + 1) := by omega
 have hb3 : (i : Int) ≤ (n : Int) + 1 := by omega
 have hb4 : ¬ (cap = i) := by omega
 go_enter Try.func85, Try.ntmps85
 go_wp2_with (simp only [hov])
 go_region_law (refine step_copy_runI rfl _ _ 94 94 rfl _ _ (by simp [Act.eval, Act.put]) (by simp [Act.eval, Act.put]) (hcp1 _ _ _) ?_)
 go_wp2_with (at_builtin; refine wpList_copy_runI _ rfl _ _ 94 94 rfl _ _ rfl rfl (hcp2 _ rfl _ _) ?_)
 go_ret
 exact ⟨rfl, q50 (S := fun k => k = b) (q50 (S := fun k => k = b) (But.refl _ w).drew (.inl rfl) _) (.inl rfl) _, setRow_heap _ _ _ _ _ _ (by rw [← hW1]; exact hb1)⟩
theorem z7t (a c : List Value) (k : Nat) : (a ++ c).drop (a.length + k) = c.drop k := by rw [List.drop_append, List.drop_eq_nil_of_le (Nat.le_add_right _ _), Nat.add_sub_cancel_left, List.nil_append]
theorem z6j (w : World) (b vb vc i n : Nat) (L0 : List E3) (x : E3) (post vpost : List Value) (E Ev : TypeId) (hL : L0.length = n) (hi : i < n) (hbig : (n + 1) * 24 ≤ 140737488355328) (hne : vb ≠ b)
  (hb : w.heap[b]? = some (.cells (fls L0 ++ post).toArray E (0, 0))) (hv : w.heap[vb]? = some (.cells (fl3 x ++ vpost).toArray Ev (0, 0))) :
  Calls Try.prog 85 #[.slice (some ⟨b, 0, none⟩) n n, .int .i64 i, .slice (some ⟨vb, 0, none⟩) 1 vc] w fun e w' =>
   ∃ (G : Nat) (rest : List Value), e = .returned (.slice (some ⟨w.heap.size, 0, none⟩) (n + 1) G) ∧ But Nil w w' ∧ n + 1 ≤ G ∧ G ≤ maxLen ∧ rest.length = (G - (n + 1)) * 3 ∧ w'.heap[w.heap.size]? = some (.cells (fls (L0.take i ++ x :: L0.drop i) ++ rest).toArray 98 (0, 0)) := by
 have hlL := q8r L0
 have hlt := q8r (L0.take i)
 have hld := q8r (L0.drop i)
 have hsplit : fls L0 = fls (L0.take i) ++ fls (L0.drop i) := by rw [← qkj, List.take_append_drop]
 have htl : (L0.take i).length = i := by rw [List.length_take]; omega
 have hdl : (L0.drop i).length = n - i := by rw [List.length_drop, hL]
 have hbw := qt hb
 have hvw := qt hv
 obtain ⟨i0, hi0, e0⟩ := Option.map_eq_some_iff.1 z1i
 obtain ⟨i1, hi1, ez⟩ := Option.map_eq_some_iff.1 zee
 obtain rfl := Option.some.inj (hi0.symm.trans hi1)
 simp only [Prod.mk.injEq] at e0
 have hold : (Builtin.firstCells i0.size i (.slice (some ⟨b, 0, none⟩) i n)).run Try.prog w.drew = .ok (fls (L0.take i)).toArray w.drew := by
  rw [e0.1]
  exact run_firstCells_some w.drew 3 i ⟨b, 0, none⟩ i n (fls (L0.take i)) (by omega) (fun j v hj => by
   rw [Addr.add_lit, Nat.zero_add]
   refine q9q (w := w.drew) (T := E) hb ?_
   rw [hsplit, List.append_assoc]
   exact List.getElem?_append_left (by have := (List.getElem?_eq_some_iff.1 hj).1; omega) ▸ hj)
 obtain ⟨G, hG⟩ : ∃ G, G = grownCap w (n + 1) n 98 := ⟨_, rfl⟩
 have hGn : n + 1 ≤ G := by rw [hG]; exact grownCap_ge w _ _ _
 have hGm : G ≤ maxLen := by rw [hG]; exact grownCap_le_maxLen w _ _ _ (by unfold maxLen; omega)
 have hik : i + (n + 1 - i) = n + 1 := by omega
 have hkk : (n : Int) + 1 - (i : Int) = ((n + 1 - i : Nat) : Int) := by omega
 obtain ⟨Z, hZ, hrz⟩ : ∃ Z : List Value, Z.length = (n + 1 - i) * 3 + (G - (n + 1)) * 3 ∧ ∀ ty, (Builtin.append_ #[94, 3] ty #[.slice (some ⟨b, 0, none⟩) i n, .int .i64 ((n : Int) + 1 - (i : Int))]).run Try.prog w =
   .ok (.slice (some ⟨w.heap.size, 0, none⟩) (n + 1) G) (w.drew.alloc (.cells (fls (L0.take i) ++ Z).toArray 98)) := by
  refine ⟨(Builtin.zeroCells (Value.agg #[.int .i64 0, .int .i64 0, .int .i64 0]).cells (n + 1 - i)).toList ++ (Builtin.zeroCells (Value.agg #[.int .i64 0, .int .i64 0, .int .i64 0]).cells (G - (n + 1))).toList, by simp [Builtin.zeroCells, Value.cells], fun ty => ?_⟩
  have h := Lib.run_append_grow_zeros w 94 3 ty 98 i0 _ .i64 .i64 qt3 zcd hi0 ez (some ⟨b, 0, none⟩) i n (fls (L0.take i)) hold (n + 1 - i) (by omega) (by omega) (by omega) (by omega) (by rw [e0.2]; omega) (by rw [e0.2, hik]; exact growslice_fits (by omega) hbig)
  rw [hik, ← hG] at h
  rw [hkk, h]
  congr 3
  simp
 have hb1 : (w.drew.alloc (.cells (fls (L0.take i) ++ Z).toArray 98)).heap[b]? = some (.cells (fls L0 ++ post).toArray E (0, 0)) := q1c (w := w.drew) hb
 have hv1 : (w.drew.alloc (.cells (fls (L0.take i) ++ Z).toArray 98)).heap[vb]? = some (.cells (fl3 x ++ vpost).toArray Ev (0, 0)) := q1c (w := w.drew) hv
 have hn1 : (w.drew.alloc (.cells (fls (L0.take i) ++ Z).toArray 98)).heap[w.heap.size]? = some (.cells (fls (L0.take i) ++ Z).toArray 98 (0, 0)) := jk (w := w.drew) rfl
 obtain ⟨W1, hW1⟩ : ∃ W1, W1 = w.drew.alloc (.cells (fls (L0.take i) ++ Z).toArray 98) := ⟨_, rfl⟩
 have hcpA : ∀ (W : World), W.heap = W1.heap → ∀ ty dc, (Builtin.copy_ #[94, 94] ty #[.slice (some ⟨w.heap.size, i * 3, none⟩) (n + 1 - i) dc, .slice (some ⟨vb, 0, none⟩) 1 vc]).run Try.prog W = .ok (goInt (1 : Nat)) (W.setRow w.heap.size ((fls (L0.take i) ++ Z).toArray.toList.take (i * 3) ++ fl3 x ++ (fls (L0.take i) ++ Z).toArray.toList.drop (i * 3 + (fl3 x).length)).toArray) := fun W hW ty dc =>
  qcl W ty w.heap.size (i * 3) (n + 1 - i) dc ⟨vb, 0, none⟩ 1 vc _ 98 (fl3 x) (by rw [hW, hW1]; exact hn1) (by simp only [Nat.min_def]; split <;> omega) rfl
   (fun j v hj => by
    rw [Addr.add_lit, Nat.zero_add]
    refine q9q (w := W) (T := Ev) (by rw [hW, hW1]; exact hv1) ?_
    exact List.getElem?_append_left (by have := (List.getElem?_eq_some_iff.1 hj).1; omega) ▸ hj)
   (by simp [fl3]; omega) (fun v hv => qkt (l := [x]) v (by simpa [fls] using hv))
 have hcurA : ((fls (L0.take i) ++ Z).toArray.toList.take (i * 3) ++ fl3 x ++ (fls (L0.take i) ++ Z).toArray.toList.drop (i * 3 + (fl3 x).length)) = fls (L0.take i) ++ (fl3 x ++ Z.drop 3) := by
  show (fls (L0.take i) ++ Z).take _ ++ _ ++ (fls (L0.take i) ++ Z).drop _ = _
  rw [show i * 3 = (fls (L0.take i)).length by omega, List.take_left, List.drop_append, List.drop_eq_nil_of_le (by omega), show (fls (L0.take i)).length + (fl3 x).length - (fls (L0.take i)).length = 3 by simp [fl3]]
  simp
 rw [hcurA] at hcpA
 obtain ⟨W2, hW2⟩ : ∃ W2, W2 = W1.setRow w.heap.size (fls (L0.take i) ++ (fl3 x ++ Z.drop 3)).toArray := ⟨_, rfl⟩
 have hn2 : W2.heap[w.heap.size]? = some (.cells (fls (L0.take i) ++ (fl3 x ++ Z.drop 3)).toArray 98 (0, 0)) := by rw [hW2]; exact setRow_heap W1 _ _ _ _ _ (by rw [hW1]; exact hn1)
 have hb2 : W2.heap[b]? = some (.cells (fls L0 ++ post).toArray E (0, 0)) := by rw [hW2, setRow_other W1 _ b _ (by omega), hW1]; exact hb1
 have hcpB : ∀ (W : World), W.heap = W2.heap → ∀ ty dc sc, (Builtin.copy_ #[94, 94] ty #[.slice (some ⟨w.heap.size, (i + 1) * 3, none⟩) (n - i) dc, .slice (some ⟨b, i * 3, none⟩) (n - i) sc]).run Try.prog W = .ok (goInt (n - i : Nat)) (W.setRow w.heap.size ((fls (L0.take i) ++ (fl3 x ++ Z.drop 3)).toArray.toList.take ((i + 1) * 3) ++ fls (L0.drop i) ++ (fls (L0.take i) ++ (fl3 x ++ Z.drop 3)).toArray.toList.drop ((i + 1) * 3 + (fls (L0.drop i)).length)).toArray) := fun W hW ty dc sc =>
  qcl W ty w.heap.size ((i + 1) * 3) (n - i) dc ⟨b, i * 3, none⟩ (n - i) sc _ 98 (fls (L0.drop i)) (by rw [hW]; exact hn2) (by simp only [Nat.min_def]; split <;> omega) (by rw [hld, hdl])
   (fun j v hj => by
    rw [Addr.add_lit]
    refine q9q (w := W) (T := E) (by rw [hW]; exact hb2) ?_
    rw [hsplit, List.append_assoc, List.getElem?_append_right (by omega), show i * 3 + j - (fls (L0.take i)).length = j by omega]
    exact List.getElem?_append_left (by have := (List.getElem?_eq_some_iff.1 hj).1; omega) ▸ hj)
   (by simp [fl3]; omega) qkt
 have hcurB : ((fls (L0.take i) ++ (fl3 x ++ Z.drop 3)).toArray.toList.take ((i + 1) * 3) ++ fls (L0.drop i) ++ (fls (L0.take i) ++ (fl3 x ++ Z.drop 3)).toArray.toList.drop ((i + 1) * 3 + (fls (L0.drop i)).length)) = fls (L0.take i ++ x :: L0.drop i) ++ (Z.drop 3).drop ((n - i) * 3) := by
  show (fls (L0.take i) ++ (fl3 x ++ Z.drop 3)).take _ ++ _ ++ (fls (L0.take i) ++ (fl3 x ++ Z.drop 3)).drop _ = _
  have e3 : (fls (L0.take i) ++ fl3 x).length = (i + 1) * 3 := by rw [List.length_append]; simp [fl3]; omega
  rw [← List.append_assoc, ← e3, List.take_left, z7t, hld, hdl, qkj, qfw]
  simp
 rw [hcurB] at hcpB
 have hrest : ((Z.drop 3).drop ((n - i) * 3)).length = (G - (n + 1)) * 3 := by simp; omega
 generalize (Z.drop 3).drop ((n - i) * 3) = rest at *
 have hw1 : IntKind.i64.wrap ((i : Int) + 1) = (i : Int) + 1 := by rw [IntKind.wrap_i64]; omega
 have hz2 : ¬ ((i : Int) = (n : Int)) := by omega
 have h0i : (0 : Int) ≤ (i : Int) + 1 := by omega
 have hin : i ≤ n := by omega
 have htn : ((i : Int) + 1).toNat = i + 1 := by omega
 have hgi : ¬ (G = i) := by omega
 have hgi1 : ¬ (G = i + 1) := by omega
 have hni : ¬ (n = i) := by omega
 have hlt1 : (n : Int) < (n : Int) + 1 := by omega
 have hii : (i : Int) ≤ (n : Int) := by omega
 clear hcurA hcurB hkk hik hold hG
 go_enter Try.func85, Try.ntmps85
 go_wp2_with (first
  | (at_builtin; refine Lib.wpList_append_run _ rfl _ _ _ _ rfl _ _ rfl rfl _ _ (hrz _) ?_)
  | (at_builtin; refine wpList_copy_runI _ rfl _ _ 94 94 rfl _ _ rfl rfl (hcpA _ (by rw [hW1]) _ _) ?_))
 have hcpC : ∀ ty dc sc, (Builtin.copy_ #[94, 94] ty #[.slice (some ⟨w.heap.size, (i + 1) * 3, none⟩) (n - i) dc, .slice (some ⟨b, i * 3, none⟩) (n - i) sc]).run Try.prog ((w.alloc (.cells (fls (L0.take i) ++ Z).toArray 98)).drew.setRow w.heap.size (fls (L0.take i) ++ (fl3 x ++ Z.drop 3)).toArray).drew = _ := fun ty dc sc => hcpB _ (by subst hW2 hW1; rfl) ty dc sc
 go_region_law (refine step_copy_runI rfl _ _ 94 94 rfl (.slice (some ⟨w.heap.size, (i + 1) * 3, none⟩) (n - i) (G - (i + 1))) (.slice (some ⟨b, i * 3, none⟩) (n - i) (n - i)) (by simp [Act.eval, Act.put]) (by simp [Act.eval, Act.put]) (hcpC _ _ _) ?_)
 go_wp2_with fail
 go_ret
 exact ⟨G, rest, rfl, q50 (S := Nil) (q50 (S := Nil) ((But.refl Nil w).alloc _).drew (.inr (Nat.le_refl _)) _).drew (.inr (Nat.le_refl _)) _, hGn, hGm, hrest, setRow_heap _ _ _ _ _ _ (by subst hW2 hW1; exact hn2)⟩
end Ins
end
section
namespace Ins
def zjb (T : TypeId) : TypeId := match qp T with
 | some (.st S) => S
 | _ => 0
abbrev uS : TypeId := zjb 98
abbrev cS : TypeId := zjb 33
theorem tyU : qp 98 = some (.st uS) := by kernel_rfl
theorem flU : flds uS = some [.int .i64, .st cS] := by kernel_rfl
theorem flC : flds cS = some [.int .i64, .int .i64] := by kernel_rfl
theorem wU : (Ty.st uS).w = 3 := by kernel_rfl
theorem lmU : LM (.st uS) = 5864062014634 := by kernel_rfl
def dE (x : E3) : D := .a [.i x.1, .a [.i x.2.1, .i x.2.2]]
def qyc (x : E3) : Prop := yo .i64 x.1 = true ∧ yo .i64 x.2.1 = true ∧ yo .i64 x.2.2 = true
theorem zif {x : E3} (h : qyc x) (w : World) (F : Nat → Prop) : Rd w F (dE x) (.st uS) (fl3 x) :=
 ⟨_, _, rfl, flU, .int .i64, [.st cS], [.int .i64 x.1], [.int .i64 x.2.1, .int .i64 x.2.2], rfl, rfl, ⟨.i64, rfl, rfl, h.1⟩, .st cS, [], [.int .i64 x.2.1, .int .i64 x.2.2], [], rfl, rfl,
  ⟨_, _, rfl, flC, .int .i64, [.int .i64], [.int .i64 x.2.1], [.int .i64 x.2.2], rfl, rfl, ⟨.i64, rfl, rfl, h.2.1⟩, .int .i64, [], [.int .i64 x.2.2], [], rfl, rfl, ⟨.i64, rfl, rfl, h.2.2⟩, rfl, rfl⟩, rfl, rfl⟩
theorem of_rdI {w : World} {F : Nat → Prop} {d : D} {cs : List Value} (h : Rd w F d (.int .i64) cs) : ∃ n, yo .i64 n = true ∧ d = .i n ∧ cs = [.int .i64 n] := by
 cases d <;> simp only [Rd, reduceCtorEq, false_and, exists_false, and_false] at h
 obtain ⟨k, e, h1, h2⟩ := h
 injection e with e
 subst e
 exact ⟨_, h2, rfl, h1⟩
theorem of_rdS {w : World} {F : Nat → Prop} {d : D} {S : TypeId} {fs : List Ty} (hfs : flds S = some fs) {cs : List Value} (h : Rd w F d (.st S) cs) : ∃ l, d = .a l ∧ RdF w F l fs cs := by
 cases d <;> simp only [Rd, reduceCtorEq, false_and, exists_false, and_false] at h
 obtain ⟨T, fs', e, h1, h2⟩ := h
 injection e with e
 subst e
 obtain rfl := Option.some.inj (h1.symm.trans hfs)
 exact ⟨_, rfl, h2⟩
theorem of_rdF {w : World} {F : Nat → Prop} {l : List D} {t : Ty} {ts : List Ty} {cs : List Value} (h : RdF w F l (t :: ts) cs) : ∃ d l' c1 c2, l = d :: l' ∧ cs = c1 ++ c2 ∧ Rd w F d t c1 ∧ RdF w F l' ts c2 := by
 cases l with
 | nil => obtain ⟨e, -⟩ := h; cases e
 | cons d l =>
  obtain ⟨t', ts', c1, c2, e, e2, h1, h2⟩ := h
  injection e with e e'
  subst e e'
  exact ⟨d, l, c1, c2, rfl, e2, h1, h2⟩
theorem of_rdN {w : World} {F : Nat → Prop} {l : List D} {cs : List Value} (h : RdF w F l [] cs) : l = [] ∧ cs = [] := by
 cases l with
 | nil => exact ⟨rfl, h.2⟩
 | cons d l => obtain ⟨t', ts', c1, c2, e, -⟩ := h; cases e
theorem zfl {w : World} {F : Nat → Prop} {d : D} {cs : List Value} (h : Rd w F d (.st uS) cs) : ∃ x, qyc x ∧ d = dE x ∧ cs = fl3 x := by
 obtain ⟨l, rfl, hF⟩ := of_rdS flU h
 obtain ⟨d1, l1, c1, c2, rfl, rfl, h1, hG⟩ := of_rdF hF
 obtain ⟨d2, l2, c3, c4, rfl, rfl, h2, hH⟩ := of_rdF hG
 obtain ⟨rfl, rfl⟩ := of_rdN hH
 obtain ⟨n1, r1, rfl, rfl⟩ := of_rdI h1
 obtain ⟨l, rfl, hI⟩ := of_rdS flC h2
 obtain ⟨d3, l3, c5, c6, rfl, rfl, h3, hJ⟩ := of_rdF hI
 obtain ⟨d4, l4, c7, c8, rfl, rfl, h4, hK⟩ := of_rdF hJ
 obtain ⟨rfl, rfl⟩ := of_rdN hK
 obtain ⟨n2, r2, rfl, rfl⟩ := of_rdI h3
 obtain ⟨n3, r3, rfl, rfl⟩ := of_rdI h4
 exact ⟨(n1, n2, n3), ⟨r1, r2, r3⟩, rfl, rfl⟩
theorem range_drop3 {w : World} {b q : Nat} {cur : Array Value} {T : TypeId} (hc : w.heap[b]? = some (.cells cur T (0, 0))) {x y z : Value} (h : w.rangeAt b q [x, y, z]) : cur.toList.drop q = x :: y :: z :: cur.toList.drop (q + 3) := by
 have get : ∀ j v, ([x, y, z] : List Value)[j]? = some v → cur.toList[q + j]? = some v := fun j v hj => by
  have := h j v hj
  rw [cell_of_row w b _ cur T (0, 0) hc, ← Array.getElem?_toList] at this
  exact this
 have g0 := get 0 x rfl
 have g1 := get 1 y rfl
 have g2 := get 2 z rfl
 obtain ⟨h0, e0⟩ := List.getElem?_eq_some_iff.1 g0
 obtain ⟨h1, e1⟩ := List.getElem?_eq_some_iff.1 g1
 obtain ⟨h2, e2⟩ := List.getElem?_eq_some_iff.1 g2
 rw [List.drop_eq_getElem_cons (by omega : q < cur.toList.length), List.drop_eq_getElem_cons h1, List.drop_eq_getElem_cons (by omega : q + 1 + 1 < cur.toList.length)]
 simp only [Nat.add_zero] at e0
 rw [e0, e1]
 congr 3
theorem qwr {w : World} {F : Nat → Prop} {b o : Nat} {cur : Array Value} {T : TypeId} (hc : w.heap[b]? = some (.cells cur T (0, 0))) : ∀ {rs : List D} {i : Nat}, RdE w F rs (.st uS) (some ⟨b, o, none⟩) i → ∃ L : List E3, rs = L.map dE ∧ (∀ x ∈ L, qyc x) ∧ cur.toList.drop (o + i * 3) = fls L ++ cur.toList.drop (o + (i + rs.length) * 3)
 | [], i, _ => ⟨[], rfl, fun x hx => (by cases hx), by simp [fls]⟩
 | d :: rs, i, ⟨⟨b', o', cs, e, hF, hr, hd⟩, h⟩ => by
  injection e with e
  injection e with e1 e2
  subst e1 e2
  obtain ⟨x, hx, rfl, rfl⟩ := zfl hd
  obtain ⟨L, rfl, hL, hdr⟩ := qwr hc h
  rw [wU] at hr
  refine ⟨x :: L, rfl, fun y hy => (List.mem_cons.1 hy).elim (fun e => e ▸ hx) (hL y), ?_⟩
  have := range_drop3 hc hr
  rw [this, show o + i * 3 + 3 = o + (i + 1) * 3 by omega, hdr, show i + 1 + (L.map dE).length = i + (dE x :: L.map dE).length by simp; omega]
  rfl
theorem qvn {A : Nat → Prop} {p : ql} {w : World} {dep : List Nat} {pin : Nat} {l : List D} {v : Value} (h : q1l A p w dep pin 98 (.st uS) l v) (h0 : 0 < l.length) :
  ∃ g cap L post, v = .slice (some ⟨g, 0, none⟩) l.length cap ∧ p pin = some g ∧ l = L.map dE ∧ (∀ x ∈ L, qyc x) ∧ w.heap[g]? = some (.cells (fls L ++ post).toArray 98 (0, 0)) ∧ l.length ≤ cap ∧ cap ≤ maxLen ∧ post.length = (cap - l.length) * 3 := by
 rcases h with ⟨-, rfl⟩ | ⟨g, cap, cur, rfl, hg, hh, h1, h2, h3, h4, h5⟩
 ·simp at h0
 ·obtain ⟨L, hL, hok, hdr⟩ := qwr (F := FFD A p (pin :: dep)) (o := 0) hh (rs := l) (i := 0) (q0i.2 fun j hj => by
   obtain ⟨cs, hr, hx⟩ := h5 j hj
   exact ⟨g, 0, cs, rfl, .inr ⟨pin, by simp, hg⟩, by simpa using hr, hx.mono fun b _ hb => hb.mono fun x hx => List.mem_cons_of_mem _ hx⟩)
  have hl := q8r L
  have hll : l.length = L.length := by rw [hL, List.length_map]
  simp only [Nat.zero_mul, Nat.zero_add, List.drop_zero] at hdr
  rw [wU] at h3
  have hcl := congrArg List.length hdr
  rw [List.length_append, List.length_drop, Array.length_toList] at hcl
  refine ⟨g, cap, L, cur.toList.drop (l.length * 3), rfl, hg, hL, hok, ?_, h1, h2, ?_⟩
  ·rw [← hdr]
   exact hh
  ·rw [List.length_drop, Array.length_toList]
   omega
theorem qzl : ∀ {l : List E3} {i : Nat} (h : i < l.length) {j : Nat} {v : Value}, (fl3 l[i])[j]? = some v → (fls l)[i * 3 + j]? = some v
 | x :: l, 0, _, j, v, hj => by
  rw [Nat.zero_mul, Nat.zero_add, qfw]
  exact List.getElem?_append_left (by have := (List.getElem?_eq_some_iff.1 hj).1; exact this) ▸ hj
 | x :: l, i + 1, h, j, v, hj => by
  have := qzl (l := l) (i := i) (by simpa using h) (j := j) (v := v) (by simpa using hj)
  rw [qfw, show (i + 1) * 3 + j = i * 3 + j + 3 by omega]
  exact this
theorem zfe {A : Nat → Prop} {p : ql} {w : World} {pin g cap : Nat} {M : List E3} {post : List Value} (hp : p pin = some g) (hM : ∀ x ∈ M, qyc x) (hh : w.heap[g]? = some (.cells (fls M ++ post).toArray 98 (0, 0))) (h1 : M.length ≤ cap) (h2 : cap ≤ maxLen) (h3 : post.length = (cap - M.length) * 3) (h4 : M.length ≤ 5864062014634) :
  q1l A p w [] pin 98 (.st uS) (M.map dE) (.slice (some ⟨g, 0, none⟩) M.length cap) := by
 have hl := q8r M
 refine .inr ⟨g, cap, _, by rw [List.length_map], hp, hh, by rw [List.length_map]; exact h1, h2, by rw [List.size_toArray, List.length_append, wU]; omega, by rw [List.length_map, lmU]; exact h4, fun i hi => ?_⟩
 have hi' : i < M.length := by simpa using hi
 refine ⟨fl3 M[i], fun j v hj => ?_, by simpa using zif (hM _ (List.getElem_mem hi')) _ _⟩
 rw [wU]
 have := qzl hi' hj
 exact q9q hh (List.getElem?_append_left (by have := (List.getElem?_eq_some_iff.1 this).1; exact this) ▸ this)
end Ins
open Ins
def zdr : List D → Option (List D)
 | [r, i, v] => if v.rs.length = 1 ∧ 0 ≤ i.int ∧ i.int ≤ r.rs.length ∧ r.rs.length + 1 ≤ 5864062014634 then some [.r (r.rs.take i.int.toNat ++ v.rs ++ r.rs.drop i.int.toNat)] else none
 | _ => none
theorem z3n {A : Nat → Prop} {p : ql} {w : World} {d : D} {pin : Nat} {cs : List Value} (h : Con A p w d (.row 98) [(0, pin)] [] cs) : ∃ l v, d = .r l ∧ cs = [v] ∧ q1l A p w [] pin 98 (.st uS) l v := by
 rcases h with ⟨E, te, l, v, e, hte, rfl, rfl, h⟩ | ⟨K, V, kt, vt, l, g, es, clock, e, -⟩
 ·injection e with e
  subst e
  obtain rfl := Option.some.inj (hte.symm.trans tyU)
  exact ⟨l, v, rfl, rfl, h⟩
 ·cases e
set_option maxHeartbeats 1000000 in
theorem q90 : FOk qk zdr := FOk.of_at yh fun ds outs hw hg => by
 obtain ⟨d, r, rfl, hd, e, r', rfl, he, e2, r2, rfl, he2, hw⟩ := hw
 obtain rfl : r2 = [] := hw
 obtain ⟨l, te, rfl, hte, hl, -⟩ := hd.row
 obtain ⟨n, rfl, hn⟩ := wfI he
 obtain ⟨m, te2, rfl, hte2, hm, -⟩ := he2.row
 have hg' : (if m.length = 1 ∧ 0 ≤ n ∧ n ≤ l.length ∧ l.length + 1 ≤ 5864062014634 then some [.r (l.take n.toNat ++ m ++ l.drop n.toNat)] else none) = some outs := hg
 split at hg'
 case isFalse => cases hg'
 rename_i hc
 obtain ⟨h1, h2, h3, h4⟩ := hc
 injection hg' with hg'
 subst hg'
 clear hg
 by_cases hnl : n = l.length
 ·refine zc5 (fun F => [(j5 qk.f qn, fun _ => some [.i (F.mx qn)]), (j5 qk.f j4, fun _ => some [.i (F.mx j4)]), (j5 qk.f q17, fun _ => some [.i (F.mx q17)]), (j5 qk.f zs, fun _ => some [.i (F.mx zs)])]) q2z Try.f85 _ (fun F => .cons (q0n _ yh _ _) (.cons (q0n _ yh _ _) (.cons (q0n _ yh _ _) (.cons (q0n _ yh _ _) .nil)))) rfl rfl (by decide) (fun F => ?_) (fun F => rfl) (fun F hfl te => ?_)
  rotate_left
  ·rcases hfl te with h | ⟨k, j, hm, -⟩
   ·rw [h]; exact Nat.zero_le _
   ·rw [show qk.fl = [(999, 0, qn), (999, 1, j4), (999, 2, q17), (999, 3, zs)] from rfl] at hm
    simp only [List.mem_cons, Prod.mk.injEq, List.not_mem_nil, or_false] at hm
    rcases hm with ⟨-, -, rfl⟩ | ⟨-, -, rfl⟩ | ⟨-, -, rfl⟩ | ⟨-, -, rfl⟩ <;> exact Nat.le_refl _
  rw [q7a _ _ _ _ _ rfl]
  subst hnl
  simp [q2e, Tree.go, qf, X.says, X.ev, X.evs, evl, D.rs, D.int, D.tt, h1]
  omega
 ·intro A F p w vs us hfl hfo hpre hvl hargs
  have hF0 : F.mx (.st uS) = 0 := by
   rcases hfl (.st uS) with h | ⟨k, j, hm, -⟩
   ·exact h
   ·have h1 : (qk.fl.all fun e => !Ty.beq e.2.2 (.st uS)) = true := by kernel_rfl
    have h2 := List.all_eq_true.1 h1 _ hm
    rw [show Ty.beq (.st uS) (.st uS) = true from (Ty.beq_iff _ _).2 rfl] at h2
    cases h2
  obtain ⟨v0, r0, d0, ds0, e0, e00, ⟨cs0, hpk0, hc0⟩, v1, r1, d1, ds1, e1, e11, ⟨cs1, hpk1, hc1⟩, v2, r2, d2, ds2, e2', e22, ⟨cs2, hpk2, hc2⟩, hr⟩ := hargs
  obtain rfl : r2 = [] := hr.1
  subst e1 e2'
  obtain ⟨rfl, rfl⟩ := List.cons.inj e00
  obtain ⟨rfl, rfl⟩ := List.cons.inj e11
  obtain ⟨rfl, -⟩ := List.cons.inj e22
  clear e00 e11 e22 hr
  obtain ⟨rfl, rfl⟩ : vs = [v0, v1, v2] ∧ us = [] := by
   have hl3 : vs.length = 3 := hvl
   have hus : us.length = 0 := by
    have := congrArg List.length e0
    simp at this
    omega
   obtain rfl := List.length_eq_zero_iff.1 hus
   exact ⟨by simpa using e0, rfl⟩
  clear e0
  have hc0 : Con A p w (D.r l) (.row 98) [(0, 1)] [] cs0 := hc0
  have hc2 : Con A p w (D.r m) (.row 98) [(0, 33)] [] cs2 := hc2
  obtain ⟨l', u0, q0, rfl, ho0⟩ := z3n hc0
  obtain ⟨m', u2, q2, rfl, ho2⟩ := z3n hc2
  injection q0 with q0
  injection q2 with q2
  subst q0 q2
  obtain rfl : u0 = v0 := (List.cons.inj hpk0).1
  obtain rfl : u2 = v2 := (List.cons.inj hpk2).1
  obtain ⟨n', -, e, rfl⟩ := of_rdI hc1
  injection e with e
  subst e
  obtain rfl : Value.int .i64 n = v1 := (List.cons.inj hpk1).1
  obtain ⟨g, cap, L, post, rfl, hpg, hL, hLo, hg, hcap, hcm, hpost⟩ := qvn ho0 (by omega)
  obtain ⟨g2, cap2, M, post2, rfl, hpg2, hM, hMo, hg2, hcap2, -, -⟩ := qvn ho2 (by omega)
  have hne : g2 ≠ g := fun e => by
   subst e
   have := hpre.inj _ _ _ hpg2 hpg
   omega
  have hLl : l.length = L.length := by rw [hL, List.length_map]
  obtain ⟨x, rfl⟩ : ∃ x, M = [x] := by
   have : M.length = 1 := by rw [← h1, hM, List.length_map]
   exact List.length_eq_one_iff.1 this
  have hx : qyc x := hMo x (by simp)
  obtain ⟨i, rfl⟩ : ∃ i : Nat, n = i := ⟨n.toNat, by omega⟩
  have hi : i < L.length := by omega
  have hg2 : w.heap[g2]? = some (.cells (fl3 x ++ post2).toArray 98 (0, 0)) := by simpa [fls] using hg2
  have hout : l.take (i : Int).toNat ++ m ++ l.drop (i : Int).toNat = (L.take i ++ x :: L.drop i).map dE := by
   rw [hL, hM, Int.toNat_natCast]
   simp
  have hNo : ∀ y ∈ L.take i ++ x :: L.drop i, qyc y := fun y hy => by
   rcases List.mem_append.1 hy with h | h
   ·exact hLo y (List.mem_of_mem_take h)
   ·rcases List.mem_cons.1 h with rfl | h
    ·exact hx
    ·exact hLo y (List.mem_of_mem_drop h)
  have hNl : (L.take i ++ x :: L.drop i).length = L.length + 1 := by simp; omega
  have hlm : cap ≤ 9223372036854775807 := by unfold maxLen at hcm; omega
  have fin : ∀ (g' cap' : Nat) (post' : List Value) (w' : World), A g' → (pinned p g' ∨ w.heap.size ≤ g') → But (pinned p) w w' → Flo F w w' → w'.heap[g']? = some (.cells (fls (L.take i ++ x :: L.drop i) ++ post').toArray 98 (0, 0)) → L.length + 1 ≤ cap' → cap' ≤ maxLen → post'.length = (cap' - (L.length + 1)) * 3 →
    ∃ rs p', Ending.returned (.slice (some ⟨g', 0, none⟩) (L.length + 1) cap') = .returned (qe5 rs) ∧ Bs A F w (pinned p) p' w' ∧ q88 A p' w' qk.rs qk.ar.length rs (List.take qk.rs.length [D.r (l.take (i : Int).toNat ++ m ++ l.drop (i : Int).toNat)]) ∧ q2a A p p' w' qk.all (List.drop qk.rs.length [D.r (l.take (i : Int).toNat ++ m ++ l.drop (i : Int).toNat)]) := by
   intro g' cap' post' w' hA hgp hb hflo hh a1 a2 a3
   have hp' : ∀ y b, (fun y => if y = 49 then some g' else none : ql) y = some b → y = 49 ∧ b = g' := fun y b h => by
    by_cases hy : y = 49
    ·subst hy
     exact ⟨rfl, (Option.some.inj h).symm⟩
    ·simp [hy] at h
   refine ⟨[.slice (some ⟨g', 0, none⟩) (L.length + 1) cap'], fun y => if y = 49 then some g' else none, rfl, ⟨?_, ?_, hb, ?_, hpre.new, ?_, ?_, hflo⟩, ?_, rfl⟩
   ·intro y z b h1 h2
    rw [(hp' y b h1).1, (hp' z b h2).1]
   ·intro y b h
    rw [(hp' y b h).2]
    exact qt hh
   ·intro y b h
    rw [(hp' y b h).2]
    exact hgp
   ·intro y b h
    rw [(hp' y b h).2]
    exact hA
   ·intro y b h
    rw [(hp' y b h).2]
    exact .inl ⟨_, _, hh⟩
   ·refine ⟨_, _, _, _, rfl, rfl, ⟨[.slice (some ⟨g', 0, none⟩) (L.length + 1) cap'], rfl, ?_⟩, rfl⟩
    refine .inl ⟨98, .st uS, _, _, rfl, tyU, rfl, rfl, ?_⟩
    rw [hout, ← hNl]
    exact zfe rfl hNo hh (by rw [hNl]; exact a1) a2 (by rw [hNl]; exact a3) (by rw [hNl]; omega)
  rw [h1, hLl]
  by_cases hroom : L.length + 1 ≤ cap
  ·refine Calls.mono (z6t w g cap g2 cap2 i L.length L x post post2 98 98 rfl hi hroom hlm hne (by rw [hpost]; omega) hg hg2) ?_
   rintro e w' ⟨rfl, hb, hh⟩
   exact .inr (fin g cap _ w' (hpre.pa _ _ hpg) (.inl ⟨_, hpg⟩) (hb.mono fun k hk _ => hk ▸ ⟨_, hpg⟩) (hfo.same fun k hk h0 => hb.block k hk fun e => by
    subst e
    obtain ⟨cs, cs', T, te, f1, f2, f3, f4, -⟩ := hfo k h0
    rw [hg] at f2
    injection f2 with f2
    injection f2 with f5 f6
    subst f6
    obtain rfl := Option.some.inj (tyU.symm.trans f3)
    rw [hF0] at f4
    omega) hh hroom hcm (by rw [List.length_drop, hpost]; omega))
  ·have hcl : cap = L.length := by omega
   subst hcl
   refine Calls.mono (z6j w g g2 cap2 i L.length L x post post2 98 98 rfl hi (by omega) hne hg hg2) ?_
   rintro e w' ⟨G, rest, rfl, hb, a1, a2, a3, hh⟩
   exact .inr (fin _ G _ w' (hpre.new _ (Nat.le_refl _)).1 (.inr (Nat.le_refl _)) hb.of_nil (hfo.same fun k hk _ => hb.block k hk id) hh a1 a2 a3)
end
def zg5 : List D → Option (List D)
 | [x] => some [.b false]
 | _ => none
theorem qdt : FOk yx zg5 := qd0 fun ds outs hw hg => by
 obtain ⟨d, r, rfl, hd, rfl⟩ := hw
 simp only [zg5, Option.some.injEq] at hg
 subst hg
 simp [q2d, qa, qg, qb, qd, qf, X.says, X.ev, X.evs, evl, qe, gnA, gnT]
def za5 : List D → Option (List D)
 | [x, v] => some [.i (if x.int < v.int then -1 else if v.int < x.int then 1 else 0)]
 | _ => none
theorem q5z : FOk zd za5 := qb0 qdt fun ds outs hw hg => by
 obtain ⟨d, r, rfl, hd, e, r', rfl, he, rfl⟩ := hw
 obtain ⟨x, rfl, hx⟩ := wfI hd
 obtain ⟨v, rfl, hv⟩ := wfI he
 simp only [za5, yz, Option.some.injEq] at hg
 subst hg
 simp only [q1v, qa, qg, qb, qd, qf, X.says, X.ev, X.evs, evl, qe, gnA, gnT, zg5]
 by_cases h1 : x < v <;> by_cases h2 : v < x <;> simp [h1, h2]
def zaw : List D → Option (List D)
 | [x, v] => some [.i (if (dV x).v < v.int then -1 else if v.int < (dV x).v then 1 else 0)]
 | _ => none
theorem qn8 : FOk q09 zaw := qjv q5z fun ds outs hw hg => by
 obtain ⟨d, r, rfl, hd, e, r', rfl, he, rfl⟩ := hw
 obtain ⟨x, rfl, hx, -⟩ := wfV hd
 obtain ⟨v, rfl, hv⟩ := wfI he
 simp only [zaw, qlb, yz, Option.some.injEq] at hg
 subst hg
 simp [q4w, qa, qg, qb, qd, qf, X.says, X.ev, X.evs, evl, qe, gnA, gnT, za5, zec]
 rfl
theorem qos : FOk q0u q8p := qlq fun ds outs hw hg => by
 obtain ⟨d, r, rfl, hd, rfl⟩ := hw
 obtain ⟨c, rfl, hc⟩ := wfC hd
 simp only [q8p, ju, Option.some.injEq] at hg
 subst hg
 simp only [q6b, qa, qg, qb, qd, qf, X.says, X.ev, X.evs, evl, qe, gnA, gnT, q4d]
 by_cases h : c.t = 5 <;> simp [h]
 rfl
def zbc : List D → Option (List D)
 | [l, v] => if SV (dVs l) then some [.i (loV (dVs l) v.int), .b (ofV (dVs l) v.int).isSome] else none
 | _ => none
theorem zgx {n : Int} (h0 : 0 ≤ n) (h1 : n ≤ 9223372036854775807) : yo .u64 n = true := by
 simp [yo]
 omega
theorem qxs (a v : Int) {i1 : Decidable (a < v)} {i2 : Decidable (v < a)} : ((if a < v then (-1 : Int) else if v < a then 1 else 0) < 0) ↔ a < v := by
 split
 ·simp_all
 ·split <;> simp_all
theorem half (i j : Nat) : ((i : Int) + (j : Int)).fdiv (2 ^ (1 : Int).toNat) = ((i + j) / 2 : Nat) := by
 rw [show (2 : Int) ^ (1 : Int).toNat = 2 from rfl, Int.fdiv_eq_ediv_of_nonneg _ (by omega)]
 omega
theorem z0l {l : List Vc} (h : SV l) {i j : Nat} (hij : i ≤ j) (hj : j < l.length) : (l.getD i default).v ≤ (l.getD j default).v := by
 rcases Nat.lt_or_eq_of_le hij with h1 | rfl
 ·have h2 : i < l.length := by omega
  have := List.pairwise_iff_getElem.1 h.1 i j h2 hj h1
  simp only [List.getD_eq_getElem?_getD, List.getElem?_eq_getElem h2, List.getElem?_eq_getElem hj, Option.getD_some]
  omega
 ·exact Int.le_refl _
theorem q0z : FOk qo zbc := q38 qn8 fun ds outs hw hg => by
 obtain ⟨d, r, rfl, hd, e, r', rfl, he, rfl⟩ := hw
 obtain ⟨l, rfl, hl, hok⟩ := z3p hd
 obtain ⟨v, rfl, hv⟩ := wfI he
 simp only [zbc, q3a, yz, Option.ite_none_right_eq_some, Option.some.injEq] at hg
 obtain ⟨hs, rfl⟩ := hg
 rw [j6, jm]
 refine ⟨fun st => ∃ i j : Nat, i ≤ j ∧ j ≤ l.length ∧ st = [.i i, .i j] ∧ (∀ k, k < i → (l.getD k default).v < v) ∧ (∀ k, j ≤ k → k < l.length → v ≤ (l.getD k default).v), fun st => (st.getD 1 .u).int.toNat - (st.getD 0 .u).int.toNat, ⟨0, l.length, Nat.zero_le _, Nat.le_refl _, by simp [X.evs, X.ev, evl, D.rs], fun k hk => absurd hk (Nat.not_lt_zero _), fun k h1 h2 => by omega⟩, ?_⟩
 rintro st - ⟨i, j, hij, hj, rfl, h1, h2⟩
 rw [qg]
 refine ⟨fun hlt => ?_, fun hlt => ?_⟩
 ·simp only [qa, qg, qb, qd, qf, X.says, X.ev, X.evs, evl, qe, gnA, gnT] at hlt
  have hm : (i + j) / 2 < l.length := by omega
  simp only [qa, qg, qb, qd, qf, X.says, X.ev, X.evs, evl, qe, gnA, gnT, fnD, half, qba eV hm, zaw, qlb, qxs]
  have hk : i + j ≤ 2 * 5864062014634 := by omega
  refine ⟨⟨⟨by omega, by omega⟩, zgx (by omega) (by omega), zgx (by omega) (by omega), by omega, by omega⟩, ⟨by omega, by omega⟩, fun hb => ⟨⟨by omega, by omega⟩, ?_⟩, fun hb => ?_⟩
  ·have hlv : (l.getD ((i + j) / 2) default).v < v := by first | exact (qxs _ _).1 hb | exact hb
   rw [q3l, if_pos rfl]
   refine ⟨⟨(i + j) / 2 + 1, j, by omega, hj, by simp, fun k hk => ?_, h2⟩, ?_⟩
   ·have := z0l hs (show k ≤ (i + j) / 2 by omega) hm
    omega
   ·simp [D.int]
    omega
  ·have hlv : v ≤ (l.getD ((i + j) / 2) default).v := Int.not_lt.1 fun q => by first | exact hb ((qxs _ _).2 q) | exact hb q
   rw [q3l, if_pos rfl]
   refine ⟨⟨i, (i + j) / 2, by omega, by omega, by simp, h1, fun k hk hkl => ?_⟩, ?_⟩
   ·have := z0l hs (show (i + j) / 2 ≤ k by omega) hkl
    omega
   ·simp [D.int]
    omega
 ·simp only [qa, qg, qb, qd, qf, X.says, X.ev, X.evs, evl, qe, gnA, gnT] at hlt
  have hl1 : loV l v = i := z5j (by omega) h1 fun k hk hkl => h2 k (by omega) hkl
  rw [qxx hs, hl1]
  by_cases hil : i < l.length
  ·simp only [qa, qg, qb, qd, qf, X.says, X.ev, X.evs, evl, qe, gnA, gnT, qba eV hil, zaw, qlb]
   have e0 : (i : Int) < l.length := by omega
   have e1 : (0 : Int) ≤ i := by omega
   have hx : v ≤ (l.getD i default).v := h2 i (by omega) hil
   generalize l.getD i default = z at hx
   simp only [e0, e1, decide_true, Bool.not_true, Bool.false_or, Bool.true_and, true_and, hil]
   by_cases hz : z.v = v
   ·have h3 : ¬ z.v < v := by omega
    have h4 : ¬ v < z.v := by omega
    simp [hz]
   ·have h3 : ¬ z.v < v := by omega
    have h4 : v < z.v := by omega
    simp [hz, h3, h4]
  ·have e0 : ¬ (i : Int) < l.length := by omega
   simp [qa, qg, qb, qd, qf, X.says, X.ev, X.evs, evl, qe, gnA, gnT, e0, hil]
def eM (ms : List Sy) : List D := ms.map fun y => .a [eY y, .b true]
def dM (d : D) : List Sy := d.ms.map fun p => dY (p.fld 0)
theorem zcw (ms : List Sy) : dM (.mp (eM ms)) = ms := by
 show (ms.map fun y => D.a [eY y, .b true]).map (fun p => dY (p.fld 0)) = ms
 rw [List.map_map]
 exact List.map_id'' (fun x => rfl) ms
theorem qvx (y : Sy) : ∀ ms : List Sy, mfind (eY y) (eM ms) = if y ∈ ms then some (.b true) else none
 | [] => by simp [eM, mfind]
 | z :: ms => by
  have ih := qvx y ms
  show (if eY z = eY y then some (D.b true) else mfind (eY y) (eM ms)) = _
  by_cases h : z = y
  ·subst h
   rw [if_pos rfl]
   simp
  ·have h' : ¬ y = z := fun e => h e.symm
   rw [if_neg (fun e => h (qt0 e)), ih]
   simp [h']
theorem z14 {y : Sy} : ∀ {ms : List Sy}, y ∉ ms → mset (eY y) (.b true) (eM ms) = eM (ms ++ [y])
 | [], _ => by simp [eM, mset]
 | z :: ms, h => by
  have h1 : ¬ z = y := fun e => h (by simp [e])
  have h2 : y ∉ ms := fun e => h (by simp [e])
  have ih := z14 h2
  show (if eY z = eY y then D.a [eY y, .b true] :: eM ms else D.a [eY z, .b true] :: mset (eY y) (.b true) (eM ms)) = _
  rw [if_neg (fun e => h1 (qt0 e)), ih]
  rfl
theorem qr7 (ys : List Sy) : ∀ (l m : List Te) (ms : List Sy), q43 ys ms (l ++ m) = q43 ys (q43 ys ms l) m
 | [], m, ms => rfl
 | t :: l, m, ms => by rw [List.cons_append, q43, q43, qr7 ys l m]
theorem qh9 : ∀ (l m : List Te), q1f (l ++ m) = q1f l + q1f m
 | [], m => by simp [q1f]
 | t :: l, m => by rw [List.cons_append, q1f, q1f, qh9 l m]; omega
theorem zf4 (ys ms : List Sy) (t : Te) : qbz ys ms t = q43 ys (if t.k = 2 ∨ t.k = 3 then qnl ys ms ⟨t.s, (t.l.length : Nat)⟩ else ms) t.l := by
 cases t
 rw [qbz]
 rfl
theorem z38 (t : Te) : q7x t = if t.k = 3 then 1 + t.l.length + q1f t.l else 0 := by
 cases t
 rw [q7x]
 rfl
theorem zeb {t : Te} (h : q41 t = true) (h3 : ¬ t.k = 3) : t.l = [] := by
 obtain ⟨k, n, nm, l⟩ := t
 rcases qdp h with h | h | h | h
 ·exact h.2.1
 ·exact h.2
 ·exact h.2.1
 ·exact (h3 h.1).elim
def qse : List D → Option (List D)
 | [t, m, n, s] => if m = .mp (eM (dM m)) ∧ yd (dT t) = true ∧ 0 ≤ n.int ∧ n.int + q7x (dT t) ≤ 1099511627776 then some [.mp (eM (qbz (dS s).ys (dM m) (dT t))), .i (n.int + q7x (dT t))] else none
 | _ => none
theorem qk4 : FOk z9 qse := q8k (m := mT) q7s fun N ih => qgy ih qde fun ds outs hw hg => by
 obtain ⟨d, r, rfl, hd, e, r', rfl, he, f, r2, rfl, hf, q, r3, rfl, hq, rfl⟩ := hw
 obtain ⟨t, rfl, ht⟩ := wfT hd
 obtain ⟨n, rfl, hn⟩ := wfI hf
 obtain ⟨s, rfl, hs⟩ := wfS hq
 simp only [q3u, mT, qse, List.getD_cons_zero, je, yz, ye, Option.ite_none_right_eq_some, Option.some.injEq] at hg
 obtain ⟨hsz, ⟨hm, hnd, h0, h1⟩, rfl⟩ := hg
 obtain ⟨ms, hms⟩ : ∃ ms, e = .mp (eM ms) := ⟨_, hm⟩
 subst hms
 rw [zcw]
 have hl := ht.l
 have hnl := (q70 t).1 hnd
 have key : ∀ (x1 x2 : X) (ms0 : List Sy) (n0 : Int), x1.ev (evl (qe [(z9, q3u mT N qse), (zq, q9v)]) [eT t, .mp (eM ms), .i n, eS s]) = .mp (eM ms0) → x2.ev (evl (qe [(z9, q3u mT N qse), (zq, q9v)]) [eT t, .mp (eM ms), .i n, eS s]) = .i n0 → 0 ≤ n0 → n0 + q1f t.l = n + q7x t → q43 s.ys ms0 t.l = qbz s.ys ms t → Tree.go (qe [(z9, q3u mT N qse), (zq, q9v)]) (fun o => o = [.mp (eM (qbz s.ys ms t)), .i (n + q7x t)]) (.loop 8 4 [(.lit (.i 0)), x1, x2] (.br (.lt (.tok 4) (.len (.fld (.tok 0) 3))) (.need [(.le (.lit (.i 0)) (.tok 4)), (.lt (.tok 4) (.len (.fld (.tok 0) 3)))] (.need [(.ok 0 [(.get (.fld (.tok 0) 3) (.tok 4)), (.tok 5), (.tok 6), (.tok 3)])] (.need [(.rng .i64 (.add (.tok 4) (.lit (.i 1))))] (.back 8 [(.add (.tok 4) (.lit (.i 1))), (.call 0 0 [(.get (.fld (.tok 0) 3) (.tok 4)), (.tok 5), (.tok 6), (.tok 3)]), (.call 0 1 [(.get (.fld (.tok 0) 3) (.tok 4)), (.tok 5), (.tok 6), (.tok 3)])])))) (.leaf [(.tok 5), (.tok 6)]))) [eT t, .mp (eM ms), .i n, eS s] fun _ _ => False := by
  intro x1 x2 ms0 n0 hx1 hx2 hn0 hc hv
  rw [jm]
  refine ⟨fun st => ∃ k : Nat, k ≤ t.l.length ∧ st = [.i k, .mp (eM (q43 s.ys ms0 (t.l.take k))), .i (n0 + q1f (t.l.take k))], fun st => t.l.length - (st.getD 0 .u).int.toNat, ⟨0, Nat.zero_le _, by simp only [X.evs, hx1, hx2, X.ev]; simp [q43, q1f]⟩, ?_⟩
  rintro st - ⟨k, hk, rfl⟩
  rw [qg]
  refine ⟨fun hlt => ?_, fun hlt => ?_⟩
  ·simp only [qa, qg, qb, qd, qf, X.says, X.ev, X.evs, evl, qe, gnA, gnT] at hlt
   have hkl : k < t.l.length := by omega
   have ha := qb2 hkl
   have hsn : q1f (t.l.take (k + 1)) = q1f (t.l.take k) + q7x (t.l.getD k default) := by
    rw [qca hkl, qh9]
    simp [q1f]
   have hle : q1f (t.l.take (k + 1)) ≤ q1f t.l := by
    have := qh9 (t.l.take (k + 1)) (t.l.drop (k + 1))
    rw [List.take_append_drop] at this
    omega
   have hvs : q43 s.ys ms0 (t.l.take (k + 1)) = qbz s.ys (q43 s.ys ms0 (t.l.take k)) (t.l.getD k default) := by
    rw [qca hkl, qr7]
    rfl
   have hq : (yd (t.l.getD k default) = true ∧ 0 ≤ n0 + (q1f (t.l.take k) : Int) ∧ n0 + (q1f (t.l.take k) : Int) + q7x (t.l.getD k default) ≤ 1099511627776) := ⟨hnl.2 k hkl, by omega, by omega⟩
   simp only [qa, qg, qb, qd, qf, X.says, X.ev, X.evs, evl, qe, gnA, gnT, q8u hkl, q3u, mT, qse, if_pos hq, if_pos (show szT (t.l.getD k default) < N by omega), zcw]
   refine ⟨⟨by omega, by omega⟩, ⟨by omega, by omega⟩, ?_⟩
   rw [q3l, if_pos rfl]
   refine ⟨⟨k + 1, by omega, ?_⟩, ?_⟩
   ·rw [hvs, hsn]
    simp
    omega
   ·simp [D.int]
    omega
  ·simp only [qa, qg, qb, qd, qf, X.says, X.ev, X.evs, evl, qe, gnA, gnT] at hlt ⊢
   have : k = t.l.length := by omega
   subst this
   rw [List.take_length, hv, hc]
 rw [q4f]
 have ey : D.a [.s t.s, .i (t.l.length : Nat)] = eY ⟨t.s, (t.l.length : Nat)⟩ := rfl
 simp only [qa, qg, qb, qd, qf, X.says, X.ev, X.evs, evl, qe, gnA, gnT, q9v, fnD, ey, z5i, qvx]
 have hc3 : t.k = 3 → q7x t = 1 + t.l.length + q1f t.l := fun h => by rw [z38, if_pos h]
 have hc0 : ¬ t.k = 3 → q7x t = 0 ∧ q1f t.l = 0 := fun h => by
  rw [z38, if_neg h, zeb hnl.1 h]
  exact ⟨rfl, rfl⟩
 have hvm := zf4 s.ys ms t
 have hput : ∀ ms0, ms0 = qnl s.ys ms ⟨t.s, (t.l.length : Nat)⟩ → (decide (t.k = 2) || decide (t.k = 3)) = true → q43 s.ys ms0 t.l = qbz s.ys ms t := fun ms0 e h => by
  rw [hvm, e, if_pos (by simpa using h)]
 have hM : (X.fn 2 [.tok 1, .mk [.fld (.tok 0) 2, .len (.fld (.tok 0) 3)], .lit (.b true)]).ev (evl (qe [(z9, q3u mT N qse), (zq, q9v)]) [eT t, .mp (eM ms), .i n, eS s]) = .mp (mset (eY ⟨t.s, (t.l.length : Nat)⟩) (.b true) (eM ms)) := by
  simp only [qa, qg, qb, qd, qf, X.says, X.ev, X.evs, evl, qe, gnA, gnT, fnD, ey, z5i]
 have hN : (X.add (.tok 2) (.add (.len (.fld (.tok 0) 3)) (.lit (.i 1)))).ev (evl (qe [(z9, q3u mT N qse), (zq, q9v)]) [eT t, .mp (eM ms), .i n, eS s]) = .i (n + ((t.l.length : Nat) + 1)) := by
  simp only [qa, qg, qb, qd, qf, X.says, X.ev, X.evs, evl, qe, gnA, gnT]
 have hno : ((!((if (⟨t.s, (t.l.length : Nat)⟩ : Sy) ∈ ms then some (D.b true) else none).getD (D.b false)).tt && decide (qb1 s t.s (t.l.length : Nat) < 0)) = true) ↔ ¬ ((⟨t.s, (t.l.length : Nat)⟩ : Sy) ∈ ms ∨ (⟨t.s, (t.l.length : Nat)⟩ : Sy) ∈ s.ys) := by
  rw [← qcq (s := s) (nm := t.s) (ar := (t.l.length : Nat))]
  by_cases hm : (⟨t.s, (t.l.length : Nat)⟩ : Sy) ∈ ms
  ·simp [hm, D.tt]
  ·simp [hm, D.tt]
 refine ⟨fun h23 => ⟨fun hc => ?_, fun hc => ?_⟩, fun h23 => ?_⟩
 ·have hc' := hno.1 hc
  have e1 : qnl s.ys ms ⟨t.s, (t.l.length : Nat)⟩ = ms ++ [⟨t.s, (t.l.length : Nat)⟩] := by rw [qnl, if_neg hc']
  rw [z14 fun q => hc' (.inl q), ← e1] at hM
  exact ⟨fun h3 => ⟨⟨⟨by omega, by omega⟩, by omega, by have := hc3 h3; omega⟩, key _ _ _ _ hM hN (by omega) (by have := hc3 h3; omega) (hput _ rfl h23)⟩, fun h3 => key _ _ _ _ hM rfl h0 (by have := hc0 h3; omega) (hput _ rfl h23)⟩
 ·have hc' : (⟨t.s, (t.l.length : Nat)⟩ : Sy) ∈ ms ∨ (⟨t.s, (t.l.length : Nat)⟩ : Sy) ∈ s.ys := Classical.byContradiction fun q => by
   rw [hno.2 q] at hc
   cases hc
  have e1 : ms = qnl s.ys ms ⟨t.s, (t.l.length : Nat)⟩ := by rw [qnl, if_pos hc']
  exact ⟨fun h3 => ⟨⟨⟨by omega, by omega⟩, by omega, by have := hc3 h3; omega⟩, key _ _ _ _ rfl hN (by omega) (by have := hc3 h3; omega) (hput _ e1 h23)⟩, fun h3 => key _ _ _ _ rfl rfl h0 (by have := hc0 h3; omega) (hput _ e1 h23)⟩
 ·have h3 : ¬ t.k = 3 := fun q => by simp [q] at h23
  have h4 : ¬ (t.k = 2 ∨ t.k = 3) := fun q => by
   rcases q with q | q <;> simp [q] at h23
  rw [if_neg h4] at hvm
  exact ⟨fun q => (h3 q).elim, fun _ => key _ _ _ _ rfl rfl h0 (by have := hc0 h3; omega) hvm.symm⟩
theorem q9i : FOk zo (gCl 5864062014634) := q8z fun ds outs hw hg => by
 obtain ⟨d, r, rfl, hd, rfl⟩ := hw
 obtain ⟨l, te, rfl, -⟩ := hd.row
 simp only [gCl, qyr, Option.ite_none_right_eq_some, Option.some.injEq] at hg
 obtain ⟨h1, rfl⟩ := hg
 exact z5h h1 rfl
def vAt (s : So) (l : List Vc) (k : Nat) : Bool := decide (0 ≤ (l.getD k default).v) && (decide ((l.getD k default).v ≤ 1099511627776) && (decide (k = 0 ∨ (l.getD (k - 1) default).v < (l.getD k default).v) && vcP s (l.getD k default).c))
def vvP (s : So) (l : List Vc) : Bool := (List.range l.length).all (vAt s l)
theorem qck {l : List Vc} {i : Nat} (h : i < l.length) : l.getD i default = l[i] := by
 rw [List.getD_eq_getElem?_getD, List.getElem?_eq_getElem h]
 rfl
theorem qzj {s : So} {l : List Vc} : vvP s l = true ↔ SV l ∧ ∀ x ∈ l, vcP s x.c = true := by
 unfold vvP
 rw [List.all_eq_true]
 constructor
 ·intro h
  have h' : ∀ k, k < l.length → vAt s l k = true := fun k hk => h k (List.mem_range.2 hk)
  have step : ∀ j i, i < j → j < l.length → (l.getD i default).v < (l.getD j default).v := by
   intro j
   induction j with
   | zero => intro i hi; omega
   | succ j ih =>
    intro i hi hj
    have h1 := h' (j + 1) hj
    simp only [vAt, Bool.and_eq_true, decide_eq_true_eq] at h1
    have h2 : (l.getD j default).v < (l.getD (j + 1) default).v := by
     rcases h1.2.2.1 with h | h
     ·omega
     ·exact h
    rcases Nat.lt_or_eq_of_le (Nat.le_of_lt_succ hi) with h3 | rfl
    ·have := ih i h3 (by omega)
     omega
    ·exact h2
  refine ⟨⟨List.pairwise_iff_getElem.2 fun i j hi hj hij => ?_, fun x hx => ?_⟩, fun x hx => ?_⟩
  ·have := step j i hij hj
   rw [qck hi, qck hj] at this
   exact this
  ·obtain ⟨i, hi, rfl⟩ := List.mem_iff_getElem.1 hx
   have h1 := h' i hi
   simp only [vAt, Bool.and_eq_true, decide_eq_true_eq, qck hi] at h1
   exact ⟨h1.1, h1.2.1⟩
  ·obtain ⟨i, hi, rfl⟩ := List.mem_iff_getElem.1 hx
   have h1 := h' i hi
   simp only [vAt, Bool.and_eq_true, decide_eq_true_eq, qck hi] at h1
   exact h1.2.2.2
 ·rintro ⟨hs, hc⟩ k hk
  have hk := List.mem_range.1 hk
  have hm := q7p hk
  simp only [vAt, Bool.and_eq_true, decide_eq_true_eq]
  refine ⟨(hs.2 _ hm).1, (hs.2 _ hm).2, ?_, hc _ hm⟩
  rcases Nat.eq_zero_or_pos k with h | h
  ·exact .inl h
  ·right
   have h1 : k - 1 < l.length := by omega
   rw [qck h1, qck hk]
   exact List.pairwise_iff_getElem.1 hs.1 (k - 1) k h1 hk (by omega)
def gVV (f : So → List Vc → Bool) : List D → Option (List D)
 | [s, l] => some [.b (f (dS s) (dVs l))]
 | _ => none
theorem qdl : FOk yr (gVV vvP) := qcz ym fun ds outs hw hg => by
 obtain ⟨d, r, rfl, hd, e, r', rfl, he, rfl⟩ := hw
 obtain ⟨s, rfl, hs⟩ := wfS hd
 obtain ⟨l, rfl, hl, hok⟩ := z3p he
 simp only [gVV, ye, q3a, Option.some.injEq] at hg
 subst hg
 rw [q2i, jm]
 refine ⟨fun st => ∃ k : Nat, k ≤ l.length ∧ st = [.b false, .i k] ∧ ∀ j, j < k → vAt s l j = true, fun st => l.length - (st.getD 1 .u).int.toNat, ⟨0, Nat.zero_le _, rfl, fun j hj => absurd hj (Nat.not_lt_zero _)⟩, ?_⟩
 rintro st - ⟨k, hk, rfl, hP⟩
 rw [qg]
 refine ⟨fun hlt => ?_, fun hlt => ?_⟩
 ·simp only [qa, qg, qb, qd, qf, X.says, X.ev, X.evs, evl, qe, gnA, gnT] at hlt
  have hkl : k < l.length := by omega
  have hvb := (hok _ (q7p hkl)).1
  by_cases h0 : k = 0
  ·subst h0
   have e1 : decide ((0 : Int) < ((0 : Nat) : Int)) = false := by decide
   simp only [qa, qg, qb, qd, qf, X.says, X.ev, X.evs, evl, qe, gnA, gnT, qba eV hkl, zec, zfu, qgl, e1, Bool.and_false, Bool.false_and, Bool.not_false, Bool.true_or, Bool.or_false, true_and, and_self]
   refine ⟨⟨by omega, by omega⟩, fun hb => ?_, fun hb => ⟨⟨by omega, by omega⟩, ?_⟩⟩
   ·have hv : vAt s l 0 = false := by
     simp only [vAt, true_or, decide_true, Bool.true_and]
     generalize l.getD 0 default = z at hb ⊢
     cases hvc : vcP s z.c
     ·simp
     ·simp [hvc] at hb ⊢
      omega
    rw [vvP, z0v hkl hv]
   ·have hv : vAt s l 0 = true := by
     simp only [vAt, true_or, decide_true, Bool.true_and]
     generalize l.getD 0 default = z at hb ⊢
     cases hvc : vcP s z.c
     ·simp [hvc] at hb
     ·simp [hvc] at hb ⊢
      omega
    rw [q3l, if_pos rfl]
    exact ⟨⟨1, by omega, by simp, q5l hP hv⟩, by simp [D.int]; omega⟩
  ·have hk1 : ((k : Int) - 1) = ((k - 1 : Nat) : Int) := by omega
   have hkp : k - 1 < l.length := by omega
   have hp : (0 : Int) < k := by omega
   have hr1 : yo .i64 ((k - 1 : Nat) : Int) = true := by simp [yo]; omega
   have hr2 : (0 : Int) ≤ ((k - 1 : Nat) : Int) := by omega
   have hr3 : ((k - 1 : Nat) : Int) < l.length := by omega
   simp only [qa, qg, qb, qd, qf, X.says, X.ev, X.evs, evl, qe, gnA, gnT, hk1, hp, hr1, hr2, hr3, qba eV hkl, qba eV hkp, zec, zfu, qgl, Bool.and_true, Bool.true_and]
   refine ⟨⟨by omega, by omega⟩, fun hb => ?_, fun hb => ⟨⟨by omega, by omega⟩, ?_⟩⟩
   ·have hv : vAt s l k = false := by
     simp only [vAt, h0, false_or]
     generalize l.getD k default = z at hb ⊢
     cases hvc : vcP s z.c
     ·simp
     ·simp [hvc] at hb ⊢
      omega
    rw [vvP, z0v hkl hv]
   ·have hv : vAt s l k = true := by
     simp only [vAt, h0, false_or]
     generalize l.getD k default = z at hb ⊢
     cases hvc : vcP s z.c
     ·simp [hvc] at hb
     ·simp [hvc] at hb ⊢
      omega
    rw [q3l, if_pos rfl]
    exact ⟨⟨k + 1, by omega, by simp, q5l hP hv⟩, by simp [D.int]; omega⟩
 ·simp only [qa, qg, qb, qd, qf, X.says, X.ev, X.evs, evl, qe, gnA, gnT] at hlt ⊢
  have : k = l.length := by omega
  subst this
  simp only [vvP, z9q hP]
def qih (s : So) (t : Te) (l : List Vc) : Bool := decide ((qjr t l : Int) ≤ s.mx - s.cs.length) && decide (((qbz s.ys [] t).length : Int) ≤ 1048576 - s.ys.length)
def z17 : List D → Option (List D)
 | [s, t, l] => if yd (dT t) = true ∧ szT (dT t) ≤ 2000 ∧ SV (dVs l) ∧ 0 ≤ (dS s).mx ∧ (dS s).cs.length ≤ 1048576 ∧ (dS s).ys.length ≤ 1048576 then some [.b (qih (dS s) (dT t) (dVs l))] else none
 | _ => none
theorem qp9 : FOk q0t z17 := qm9 qk4 q0z fun ds outs hw hg => by
 obtain ⟨d, r, rfl, hd, e, r', rfl, he, f, r2, rfl, hf, rfl⟩ := hw
 obtain ⟨s, rfl, hs⟩ := wfS hd
 obtain ⟨t, rfl, ht⟩ := wfT he
 obtain ⟨l, rfl, hl, hok⟩ := z3p hf
 simp only [z17, ye, je, q3a, Option.ite_none_right_eq_some, Option.some.injEq] at hg
 obtain ⟨⟨hnd, hsz, hsv, hmx, hcl, hyl⟩, rfl⟩ := hg
 have hc := z08 t
 have hv := qv9 t s.ys []
 have hc0 : yd t = true ∧ (0 : Int) ≤ 0 ∧ 0 + (q7x t : Int) ≤ 1099511627776 := ⟨hnd, by omega, by omega⟩
 have hc1 : yd t = true ∧ (0 : Int) ≤ 1 ∧ 1 + (q7x t : Int) ≤ 1099511627776 := ⟨hnd, by omega, by omega⟩
 have hme : (D.mp [] = D.mp (eM [])) = True := eq_true rfl
 have hmd : dM (D.mp []) = [] := rfl
 simp only [q65, qa, qg, qb, qd, qf, X.says, X.ev, X.evs, evl, qe, gnA, gnT, qse, zbc, q3a, if_pos hsv, fnD, z5i, hmd, hme, if_pos hc0, if_pos hc1, qih]
 have hlen : (eM (qbz s.ys [] t)).length = (qbz s.ys [] t).length := List.length_map _
 have hr1 : yo .i64 ((qbz s.ys [] t).length : Int) = true := by simp [yo] at hv ⊢; omega
 have hr2 : yo .i64 (1048576 - (s.ys.length : Int)) = true := by simp [yo]; omega
 have hx := hs.mx
 simp only [hlen, hr1, hr2, Bool.or_true, true_and]
 refine ⟨fun h0 => ⟨fun hn => ⟨⟨by omega, by omega⟩, ⟨by omega, by omega⟩, ?_⟩, fun hn => ⟨⟨by omega, by omega⟩, ?_⟩⟩, fun h0 => ⟨⟨by omega, by omega⟩, ?_⟩⟩
 ·have e : ofV l t.n = none := by simpa using hn
  rw [qjr, if_pos ⟨h0, e⟩, Nat.add_comm]
  rfl
 ·have e : ¬ ofV l t.n = none := fun q => by rw [q] at hn; cases hn
  rw [qjr, if_neg fun q => e q.2]
  simp
 ·rw [qjr, if_neg fun q => h0 q.1]
  simp
def qvv (s : So) (all : List Vc) (t : Te) (a : Int) : Bool := yd t && (decide (SV all) && (decide ((s.cs.length : Int) + ((if a < 0 then qjr t all else q7x t : Nat) : Int) ≤ s.mx) && (decide (s.mx ≤ 1048576) && (decide ((q8n s.ys t).length ≤ 1048576) && decide (a ≤ 1048576)))))
def zbu : List D → Option (List D)
 | [t, a, all, s] => if qvv (dS s) (dVs all) (dT t) a.int then some [eC (q5p (dS s, dVs all) (dT t) a.int).1, .r ((q5p (dS s, dVs all) (dT t) a.int).2.2.map eV), eS (q5p (dS s, dVs all) (dT t) a.int).2.1] else none
 | _ => none
theorem zcq {s : So} {nm : ByteArray} {ar : Int} (h : qdw nm ar = false) (hl : (qhf s.ys ⟨nm, ar⟩).length ≤ 1048576) : z9x [eS s, .s nm, .i ar] = some [.i (q6t s nm ar).1, .i 0, eS (q6t s nm ar).2] := by
 simp only [z9x, ye, q4p, yz, h, q6t]
 by_cases h0 : 0 ≤ qb1 s nm ar
 ·simp [h0]
 ·have h1 : ¬ (⟨nm, ar⟩ : Sy) ∈ s.ys := fun q => h0 (qcq.2 q)
  rw [qhf, if_neg h1] at hl
  have h2 : ¬ 1048576 ≤ s.ys.length := by simp at hl; omega
  simp [h0, h2]
theorem zfo (s : So) (i : Nat) (c : Ce) : D.a ((eS s).fs.set 0 (.r ((s.cs.map eC).set i (eC c)))) = eS (z2d s i c) := by
 rw [← List.map_set]
 rfl
theorem zb4 (s : So) (l : List Ce) : D.a ((eS s).fs.set 0 (.r (s.cs.map eC ++ l.map eC))) = eS { s with cs := s.cs ++ l } := by
 rw [← List.map_append]
 rfl
theorem qmt : FOk z3 zbu := q8k (m := mT) q0f fun N ih => qiw ih qj4 q0z qos qbl q90 fun ds outs hw hg => by
 obtain ⟨d, r, rfl, hd, e, r', rfl, he, f, r2, rfl, hf, q, r3, rfl, hq, rfl⟩ := hw
 obtain ⟨t, rfl, ht⟩ := wfT hd
 obtain ⟨a, rfl, ha⟩ := wfI he
 obtain ⟨all, rfl, hal, hok⟩ := z3p hf
 obtain ⟨s, rfl, hs⟩ := wfS hq
 simp only [q3u, mT, zbu, List.getD_cons_zero, je, yz, ye, q3a, Option.ite_none_right_eq_some, Option.some.injEq] at hg
 obtain ⟨hsz, hA, rfl⟩ := hg
 simp only [qvv, Bool.and_eq_true, decide_eq_true_eq] at hA
 obtain ⟨hnd, hsv, hcs, hmx, hys, hamx⟩ := hA
 have hnl := (q70 t).1 hnd
 obtain ⟨k, n, nm, l⟩ := t
 have hlo := qzd n all
 have hlen := SV.len hsv
 rcases qdp hnl.1 with ⟨rfl, rfl, h1, h2⟩ | ⟨rfl, rfl⟩ | ⟨rfl, rfl, h1⟩ | ⟨rfl, h1, h2, h3⟩
 ·have hins : ∀ c : Ce, zdr [.r (all.map eV), .i (loV all n), .r [eV ⟨n, c⟩]] = some [.r ((qk6 all n c).map eV)] := fun c => by
   simp only [zdr, q6i, yz, List.length_map, List.length_singleton, Int.toNat_natCast]
   rw [if_pos ⟨trivial, by omega, by omega, by omega⟩, qtk]
   simp [List.map_take, List.map_drop]
  have hof := qxx (v := n) hsv
  rw [z53]
  simp only [q0x, qa, qg, qb, qd, qf, X.says, X.ev, X.evs, evl, qe, gnA, gnT, Te.k, Te.n, Te.s, Te.l, q8p, q82, zdk, zbc, q3a, if_pos hsv, hins]
  refine ⟨fun h => absurd h (by decide), fun _ => ⟨fun h => absurd h (by decide), fun _ => ⟨fun _ => ⟨fun ho => ?_, fun ho => ⟨fun ha0 => ?_, fun ha0 => ?_⟩⟩, fun h => (by cases h)⟩⟩⟩
  ·split at hof
   ·rename_i hq
    simp only [qba eV hq.1, zfu, hof, ju]
    exact ⟨⟨by omega, by omega⟩, trivial⟩
   ·rw [hof] at ho
    cases ho
  ·have e : ofV all n = none := by simpa using ho
   have hn : qjr (.mk 0 n nm []) all = 1 := by
    rw [qjr, qna (by decide), if_pos ⟨rfl, e⟩]
   rw [if_pos ha0, hn] at hcs
   have h4 : ¬ s.mx ≤ s.cs.length := by omega
   have h5 : s.cs.length < 8796093021952 := by omega
   simp only [qsk, ye, h4, h5, decide_false, decide_true, Bool.false_eq_true, if_false, if_true, Option.getD_some, Option.isSome_some, List.getD_cons_zero, List.getD_cons_succ, zdk, hins, e, ha0, true_and]
   exact ⟨⟨by omega, by omega, by omega, by omega⟩, trivial⟩
  ·have e : ofV all n = none := by simpa using ho
   simp only [e, if_neg ha0]
   done
 ·rw [z7n]
  simp [q0x, qa, qg, qb, qd, qf, X.says, X.ev, X.evs, evl, qe, gnA, gnT, Te.k, Te.n, Te.s, Te.l, q82]
  done
 ·rw [z5m] at hys
  have hb : qdw nm 0 = false := by simp [qdw]; omega
  rw [z56]
  simp [q0x, qa, qg, qb, qd, qf, X.says, X.ev, X.evs, evl, qe, gnA, gnT, Te.k, Te.n, Te.s, Te.l, q82, zcq hb hys]
  done
 ·rw [z81] at hys
  have hb : qdw nm (l.length : Nat) = false := by simp [qdw]; omega
  have hys0 : (qhf s.ys ⟨nm, (l.length : Nat)⟩).length ≤ 1048576 := Nat.le_trans (qaa l _) hys
  have hl8 : (l.length : Int) ≤ 16777216 := by omega
  obtain ⟨y1, y2, y3, y4, y5, y6⟩ := qtm s nm (l.length : Nat)
  have hcn : (s.cs.length : Int) + ((1 + l.length + q1f l : Nat) : Int) ≤ s.mx := by
   rw [qt6 (by decide), zd8] at hcs
   split at hcs <;> exact hcs
  rw [z6i, ← y1]
  rw [← y1] at hcn
  rw [← y3] at hys
  have hS := zcq (s := s) hb hys0
  have yl : s.ys.length ≤ (q6t s nm (l.length : Nat)).2.ys.length := by
   rw [y3]
   unfold qhf
   split <;> simp
  have yc : s.cs.length = (q6t s nm (l.length : Nat)).2.cs.length := by rw [y1]
  generalize q6t s nm (l.length : Nat) = S at hS hys hcn y2 y4 y5 yl yc ⊢
  have hz : List.replicate l.length (eC ⟨0, 0⟩) = (List.replicate l.length (⟨0, 0⟩ : Ce)).map eC := by rw [List.map_replicate]
  simp only [q0x, qa, qg, qb, qd, qf, X.says, X.ev, X.evs, evl, qe, gnA, gnT, Te.k, Te.n, Te.s, Te.l, q82, hS, qyh, Int.toNat_natCast]
  refine ⟨fun h => absurd h (by decide), fun _ => ⟨fun h => absurd h (by decide), fun _ => ⟨fun h => absurd h (by decide), fun _ => ?_⟩⟩⟩
  refine ⟨⟨by omega, by omega, by omega, by omega⟩, ⟨by omega, by omega⟩, ⟨by omega, by omega, by simp; omega, by simp; omega⟩, ?_⟩
  rw [jm]
  refine ⟨fun st => ∃ (k : Nat) (al : List Vc) (s' : So), k ≤ l.length ∧ st = [.i k, .r (al.map eV), eS s'] ∧ SV al ∧ s'.mx = s.mx ∧ (s'.cs.length : Int) + (q1f (l.drop k) : Int) ≤ s.mx ∧ S.2.cs.length + 1 + l.length ≤ s'.cs.length ∧ (q34 s'.ys (l.drop k)).length ≤ 1048576 ∧ (s.ys.length ≤ s'.ys.length ∧ s'.tr = s.tr ∧ s'.wk = s.wk) ∧ qal (s', al) (l.drop k) (S.2.cs.length + 1 + k) = qal ({ S.2 with cs := S.2.cs ++ (⟨4, S.1⟩ :: List.replicate l.length ⟨0, 0⟩) }, all) l (S.2.cs.length + 1), fun st => l.length - (st.getD 0 .u).int.toNat, ⟨0, all, { S.2 with cs := S.2.cs ++ (⟨4, S.1⟩ :: List.replicate l.length ⟨0, 0⟩) }, Nat.zero_le _, ?_, hsv, y2, by simp; omega, by simp; omega, hys, ⟨yl, y4, y5⟩, rfl⟩, ?_⟩
  ·simp only [X.evs, qa, qg, qb, qd, qf, X.says, X.ev, X.evs, evl, qe, gnA, gnT, Te.k, Te.n, Te.s, Te.l, q82, hS, qyh, Int.toNat_natCast, hz, zb4]
   simp [eS, D.fs]
  rintro st - ⟨k, al, s', hk, rfl, hsv', hmx', hc', hb', hy', ⟨hyl, htr', hwk'⟩, hP⟩
  rw [qg]
  refine ⟨fun hlt => ?_, fun hlt => ?_⟩
  ·simp only [qa, qg, qb, qd, qf, X.says, X.ev, X.evs, evl, qe, gnA, gnT, Te.l] at hlt
   have hkl : k < l.length := by omega
   have ha := qb2 (t := .mk 3 n nm l) hkl
   simp only [Te.l] at ha
   have hto : ((S.2.cs.length : Int) + 1 + (k : Int)) = ((S.2.cs.length + 1 + k : Nat) : Int) := by omega
   have hdr := qqv hkl
   rw [hdr, q1f] at hc'
   rw [hdr, q34] at hy'
   rw [hdr, qal] at hP
   have hsy := Nat.le_trans (qaa (l.drop (k + 1)) (q8n s'.ys (l.getD k default))) hy'
   have hnk := hnl.2 k hkl
   simp only [Te.l] at hnk
   have hQ : qvv s' al (l.getD k default) ((S.2.cs.length + 1 + k : Nat) : Int) = true := by
    have h0 : ¬ (((S.2.cs.length + 1 + k : Nat) : Int) < 0) := by omega
    simp only [qvv, if_neg h0, Bool.and_eq_true, decide_eq_true_eq]
    exact ⟨hnk, hsv', by omega, by omega, hsy, by omega⟩
   obtain ⟨g1, g2, g3, g4⟩ := qlf (l.getD k default) (s', al) ((S.2.cs.length + 1 + k : Nat) : Int) hnk hsv'
   rw [if_neg (by omega)] at g1
   simp only [qa, qg, qb, qd, qf, X.says, X.ev, X.evs, evl, qe, gnA, gnT, Te.k, Te.n, Te.s, Te.l, hS, q8u hkl, hto, q3u, mT, zbu, q3a, if_pos hQ, if_pos (show szT (l.getD k default) < N by omega)]
   generalize q5p (s', al) (l.getD k default) ((S.2.cs.length + 1 + k : Nat) : Int) = R at g1 g2 g3 g4 hP ⊢
   simp only at g1
   simp only [qa, qg, qb, qd, qf, X.says, X.ev, X.evs, evl, qe, gnA, gnT, Int.toNat_natCast, zfo]
   refine ⟨⟨by omega, by omega⟩, ⟨⟨by omega, by omega⟩, by omega, by omega⟩, ⟨by omega, by omega, by rw [htr']; exact Int.le_refl _, by rw [hwk']; exact Int.le_refl _⟩, ⟨by omega, by omega, by omega⟩, ⟨by omega, by omega⟩, ?_⟩
   rw [q3l, if_pos rfl]
   refine ⟨⟨k + 1, R.2.2, z2d R.2.1 (S.2.cs.length + 1 + k) R.1, by omega, by simp, g4, g3.1.trans hmx', ?_, ?_, ?_, ?_, hP⟩, ?_⟩
   ·rw [qmw, g1]
    omega
   ·rw [qmw, g1]
    omega
   ·show (q34 R.2.1.ys _).length ≤ _
    rw [g2]
    exact hy'
   ·refine ⟨?_, g3.2.1.trans htr', g3.2.2.1.trans hwk'⟩
    show s.ys.length ≤ R.2.1.ys.length
    rw [g2]
    exact Nat.le_trans hyl (qgi _ _)
   ·simp [D.int]
    omega
  ·simp only [qa, qg, qb, qd, qf, X.says, X.ev, X.evs, evl, qe, gnA, gnT, Te.l] at hlt
   have : k = l.length := by omega
   subst this
   rw [List.drop_length, qal] at hP
   simp only [qa, qg, qb, qd, qf, X.says, X.ev, X.evs, evl, qe, gnA, gnT, Te.k, Te.n, Te.s, Te.l, q82, hS, ← hP]
def qnc (s : So) (t : Te) (l : List Vc) : Ce × List Vc × Int × So :=
 if q0b t && vvP s l then (if qih s t l then ((q5p (s, l) t (-1)).1, (q5p (s, l) t (-1)).2.2, 0, (q5p (s, l) t (-1)).2.1) else (⟨0, 0⟩, [], 13, s)) else (⟨0, 0⟩, [], 1, s)
def qxf : List D → Option (List D)
 | [s, t, l] => if jh (dS s) then some [eC (qnc (dS s) (dT t) (dVs l)).1, .r ((qnc (dS s) (dT t) (dVs l)).2.1.map eV), .i (qnc (dS s) (dT t) (dVs l)).2.2.1, eS (qnc (dS s) (dT t) (dVs l)).2.2.2] else none
 | _ => none
theorem z4t {s : So} (h : jh s = true) : 1 ≤ s.mx ∧ s.mx ≤ 1048576 ∧ (s.cs.length : Int) ≤ s.mx ∧ s.ys.length ≤ 1048576 := by
 have h := qs5 h
 simp only [qvu, qqy, Bool.and_eq_true, decide_eq_true_eq] at h
 omega
theorem qvh {s : So} {t : Te} {l : List Vc} (hs : jh s = true) (ht : q0b t = true) (hl : vvP s l = true) (hr : qih s t l = true) : qvv s l t (-1) = true := by
 obtain ⟨h1, h2, h3, h4⟩ := z4t hs
 simp only [q0b, Bool.and_eq_true, decide_eq_true_eq] at ht
 simp only [qih, Bool.and_eq_true, decide_eq_true_eq] at hr
 have hv := z42 t s.ys []
 rw [List.append_nil] at hv
 have hv' := congrArg List.length hv
 rw [List.length_append] at hv'
 simp only [qvv, Bool.and_eq_true, decide_eq_true_eq]
 exact ⟨ht.2, (qzj.1 hl).1, by rw [if_pos (by decide)]; omega, h2, by omega, by decide⟩
theorem qfg : FOk zl qxf := qpj qmt q8y qdl qp9 q9i fun ds outs hw hg => by
 obtain ⟨d, r, rfl, hd, e, r', rfl, he, f, r2, rfl, hf, rfl⟩ := hw
 obtain ⟨s, rfl, hs⟩ := wfS hd
 obtain ⟨t, rfl, ht⟩ := wfT he
 obtain ⟨l, rfl, hl, hok⟩ := z3p hf
 simp only [qxf, ye, je, q3a, Option.ite_none_right_eq_some, Option.some.injEq] at hg
 obtain ⟨hv, rfl⟩ := hg
 obtain ⟨h1, h2, h3, h4⟩ := z4t hv
 have hz : D.a [.i 0, .i 0] = eC ⟨0, 0⟩ := rfl
 have hR : qih s t l = true → q0b t = true → vvP s l = true → qvv s l t (-1) = true := fun a b c => qvh hv b c a
 have hgr : q0b t = true → vvP s l = true → z17 [eS s, eT t, .r (l.map eV)] = some [.b (qih s t l)] := fun a b => by
  simp only [q0b, Bool.and_eq_true, decide_eq_true_eq] at a
  simp only [z17, ye, je, q3a]
  rw [if_pos ⟨a.2, a.1, (qzj.1 b).1, by omega, by omega, h4⟩]
 simp only [q79, qa, qg, qb, qd, qf, X.says, X.ev, X.evs, evl, qe, gnA, gnT, gTb, gVV, gCl, qyr, hl, hz, q3a, qnc]
 cases hvt : q0b t
 ·simp
 cases hvl : vvP s l
 ·simp
 simp only [hgr hvt hvl]
 cases hrm : qih s t l
 ·simp [D.tt]
 simp [zbu, ye, je, q3a, D.int, D.tt, hR hrm hvt hvl]
end Go.Proofs.Ytdaadonfbnedaaa
