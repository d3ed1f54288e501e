/-
 Lemmas of the walk and plain laws, put together. No condition.
-/
import Derived.Deep.MidRow
import Derived.Laws.BytesArg
import Derived.Laws.Concat
import Derived.Laws.Slices
import Derived.Laws.StructEq
import Derived.Lib.Hide
import Derived.Maps.Keyed
import Derived.WalkKit
import Derived.WalkLawsBesides
import Derived.WalkSpells
import Derived.Test.YtdaadonfbnedaaaProg
namespace Go.Proofs.Ytdaadonfbnedaaa
open Go.RowKit
set_option linter.unusedVariables false
set_option linter.unusedSimpArgs false
set_option maxRecDepth 100000
open _root_.Go.Proofs.Try renaming prog→uA
open Result renaming andThen_ok→uB,andThen→kE
open _root_.List renaming mem_append_right→uC,mem_append_left→uD,mem_cons_of_mem→uF,all_eq_true→uH,mem_cons_self→uL,length_append→uM,filter_cons→kB,mem_cons→kG,all_cons→kH,append_assoc→kK,append_inj→kP,getElem?_append_right→kT,getD_eq_getElem?_getD→kU,getElem?_eq_some_iff→kW,getElem?_append_left→kX,getElem?_eq_getElem→kY,take_append_drop→vB,mem_of_getElem?→vC,not_mem_nil→vH,any_eq_true→vI,take_left→vM,replicate→vN,drop_left→vO,map_cons→vP
open Sem renaming run_bind→uE,run_pure→uK,run→vU
open _root_.Nat renaming beq→uG,le_refl→uU,zero_add→uZ,le_trans→kC,blt_eq→kD,add_assoc→kI,lt_of_lt_of_le→kJ,sub_zero→kL,add_comm→kM,blt→kS,zero_le→vE,lt_or_ge→vR,add_mul→vT
open _root_.Bool renaming eq_iff_iff→uI,not_eq_true'→uW,or_eq_true→kQ,false_and→kV,false_eq_true→vF,and_eq_true→vJ
open _root_.Option renaming map_eq_some_iff→uJ,isSome_iff_exists→uN,bind_eq_some_iff→uR,map_none→kN,isNone_iff_eq_none→kR
open _root_.Prod.mk renaming injEq→uO
open _root_.Array renaming getElem?_eq_some_iff→uP,getElem?_eq_getElem→uQ,getD_eq_getD_getElem?→uY,getElem?_eq_none→kZ,getElem?_toList→vA,length_toList→vD,ext'→vS
open _root_.Option.some renaming injEq→uT,inj→vG
open _root_.Int renaming eq_ofNat_of_zero_le→uV
open Builtin renaming len_→uX,cap_→vK
open _root_.And renaming intro→kA
open World renaming cell?_of_block→kF,setCell→vL,cell?→vQ
variable{T:TypeId}{j:Nat}{u:Value}
section
theorem gnS:type_of% (kA @uT.{0} @uO.{0,0}):=kA @uT.{0} @uO.{0,0}
theorem gnM:type_of% (kA @kG.{0} (kA @uO.{0,0} (kA @vH.{0} @or_false))):=kA @kG.{0} (kA @uO.{0,0} (kA @vH.{0} @or_false))
theorem gnN{n m:Nat}(h:uG n m=true):n=m:=Nat.eq_of_beq_eq_true h
theorem gnB:type_of% @vJ:=@vJ
theorem gnI:type_of% @vG.{0}:=@vG.{0}
theorem gnF:type_of% @vF:=@vF
theorem gnD:type_of% @decide_eq_true_eq:=@decide_eq_true_eq
theorem gnG:type_of% @kU.{0}:=@kU.{0}
theorem gnH:type_of% @kW.{0}:=@kW.{0}
theorem gnK:type_of% @kY.{0}:=@kY.{0}
theorem str_inj{a b:ByteArray}(h:a.toList=b.toList):a=b:=by
 rw[ByteArray.toList_eq,ByteArray.toList_eq] at h;cases a;cases b;simpa using h
theorem qtz{w:World}{p:Addr}{v:Value}(h:w.cell? p=some v):p.block<w.heap.size:=by
 rcases vR p.block w.heap.size with hlt|hge
 ·exact hlt
 ·unfold vQ at h;rw[kZ hge] at h;cases h
theorem qt{w:World}{k:Nat}{o:Obj}(h:w.heap[k]? =some o):k<w.heap.size:=by
 rcases vR k w.heap.size with hlt|hge
 ·exact hlt
 ·rw[kZ hge] at h;cases h
structure But(S:Nat→Prop)(w w':World):Prop where
 os:w'.os=w.os
 tape:w'.tape=w.tape
 output:w'.output=w.output
 size:w.heap.size≤w'.heap.size
 block:∀k,k<w.heap.size→¬S k→w'.heap[k]? =w.heap[k]?
def Nil:Nat→Prop:=fun _=>False
section
variable{S S':Nat→Prop}{a b c w w':World}
theorem But.refl(S:Nat→Prop)(w:World):But S w w:=⟨rfl,rfl,rfl,uU _,fun _ _ _=>rfl⟩
theorem But.trans(h:But S a b)(k:But S' b c)(hs:∀i,S' i→i<b.heap.size→S i∨a.heap.size≤i):But S a c:=
 ⟨k.os.trans h.os,k.tape.trans h.tape,k.output.trans h.output,kC h.size k.size,fun i hi hn=>
  (k.block i (kJ hi h.size) (fun hs'=>(hs i hs' (kJ hi h.size)).elim hn (fun hge=>by omega))).trans (h.block i hi hn)⟩
theorem But.trans_nil(h:But S a b)(k:But Nil b c):But S a c:=h.trans k fun _ hs _=>hs.elim
theorem But.mono(h:But S a b)(hs:∀i,S i→i<a.heap.size→S' i):But S' a b:=
 ⟨h.os,h.tape,h.output,h.size,fun i hi hn=>h.block i hi fun hS=>hn (hs i hS hi)⟩
theorem But.of_nil(h:But Nil a b):But S a b:=h.mono fun _ hs _=>hs.elim
theorem But.drew(h:But S a w):But S a w.drew:=⟨h.os,h.tape,h.output,h.size,h.block⟩
theorem But.alloc(h:But S a w)(o:Obj):But S a (w.alloc o):=
 ⟨h.os,h.tape,h.output,kC h.size (by simp),fun k hk hn=>(Below.heap_alloc _ _ _ (kJ hk h.size)).trans (h.block k hk hn)⟩
theorem But.setCell(h:But S a w){p:Addr}(hp:S p.block∨a.heap.size≤p.block)(u:Value):But S a (w.setCell p u):=
 ⟨h.os,h.tape,h.output,kC h.size (by simp[vL]),fun k hk hn=>
  (Below.heap_setCell _ _ _ _ (fun e=>hp.elim (fun hS=>hn (by rw[e];exact hS)) (fun hge=>by omega))).trans (h.block k hk hn)⟩
theorem But.below(h:But Nil w w'):Below w.heap.size w w':=⟨h.os,h.tape,h.output,h.size,fun k hk=>h.block k hk id⟩
theorem But.cell(h:But S w w'){p:Addr}(hs:¬S p.block){v:Value}(hc:w.cell? p=some v):w'.cell? p=some v:=
 (kF (w:=w) (h.block p.block (qtz hc) hs)).trans hc
end
theorem hget{w:World}{o:Obj}{k:Nat}:(w.alloc o).heap[k]? =if k=w.heap.size then some o else w.heap[k]? :=by
 show(w.heap.push o)[k]? =_
 rw[Array.getElem?_push]
theorem hsize{w:World}{o:Obj}:(w.alloc o).heap.size=w.heap.size+1:=by simp
theorem q0h{w:World}{o:Obj}{k:Nat}(h:k=w.heap.size):(w.alloc o).heap[k]? =some o:=by rw[hget,if_pos h]
theorem q2t{w:World}{o x:Obj}{k:Nat}(h:w.heap[k]? =some x):(w.alloc o).heap[k]? =some x:=by
 have:=qt h;rw[hget,if_neg (by omega),h]
theorem frz{w:World}{k:Nat}{cs:Array Value}(h:w.heap[k]? =some (.cells cs T (0,0)))(i:Nat):w.frozen? ⟨k,i,none⟩=false:=by simp[World.frozen?,h]
theorem qru{w:World}{k i:Nat}{cs:Array Value}{f:Nat×Nat}(h:w.heap[k]? =some (.cells cs T f))(u:Value):(w.setCell ⟨k,i,none⟩ u).heap[k]? =some (.cells (cs.setIfInBounds i u) T f):=by
 simp[vL,Array.getElem?_modify,h]
theorem zkf{w:World}{k i:Nat}{o:Obj}(h:w.heap[k]? =some o)(hne:k≠j):(w.setCell ⟨j,i,none⟩ u).heap[k]? =some o:=
 (Below.heap_setCell _ _ _ _ hne).trans h
end
inductive D where
 |u
 |i(n:Int)
 |b(x:Bool)
 |s(x:ByteArray)
 |a(l:List D)
 |r(l:List D)
 |mp(l:List D)
namespace D
def int:D→Int|.i n=>n|_=>0
def tt:D→Bool|.b x=>x|_=>false
def str:D→ByteArray|.s x=>x|_=>⟨#[]⟩
def fs:D→List D|.a l=>l|_=>[]
def rs:D→List D|.r l=>l|_=>[]
def ms:D→List D|.mp l=>l|_=>[]
def fld(d:D)(j:Nat):D:=d.fs.getD j .u
def get(d:D)(i:Int):D:=d.rs.getD i.toNat .u
theorem ind{P:D→Prop}(hu:P .u)(hi:∀n,P (.i n))(hb:∀x,P (.b x))(hs:∀x,P (.s x))(ha:∀l,(∀d∈l,P d)→P (.a l))(hr:∀l,(∀d∈l,P d)→P (.r l))(hm:∀l,(∀d∈l,P d)→P (.mp l))(d:D):P d:=
 D.rec (motive_1:=P) (motive_2:=fun l=>∀d∈l,P d) hu hi hb hs (fun l h=>ha l h) (fun l h=>hr l h) (fun l h=>hm l h) (by simp)
  (fun d l hd hl x hx=>by
   rcases kG.1 hx with rfl|h'
   ·exact hd
   ·exact hl x h') d
mutual
def beq:D→D→Bool
 |.u,.u=>true
 |.i m,.i n=>decide (m=n)
 |.b x,.b y=>x==y
 |.s x,.s y=>decide (x=y)
 |.a l,.a m=>beqs l m
 |.r l,.r m=>beqs l m
 |.mp l,.mp m=>beqs l m
 |_,_=>false
def beqs:List D→List D→Bool
 |[],[]=>true
 |x::l,y::m=>beq x y&&beqs l m
 |_,_=>false
end
theorem beq_iff(d:D):∀e,beq d e=true↔d=e:=by
 have key:∀l:List D,(∀d∈l,∀e,beq d e=true↔d=e)→∀m,beqs l m=true↔l=m:=by
  intro l
  induction l with
  |nil=>intro _ m;cases m<;>simp[beqs]
  | cons x l ih =>
   intro h m;cases m with
   |nil=>simp[beqs]
   |cons y m=>
    unfold beqs;rw[gnB,h x (uL),ih (fun d hd=>h d (uF _ hd))];simp
 induction d using D.ind with
 |hu=>intro e;cases e<;>simp[beq]
 |hi n=>intro e;cases e<;>simp[beq]
 |hb x=>intro e;cases e<;>simp[beq]
 |hs x=>intro e;cases e<;>simp[beq]
 |ha l ih=>intro e;cases e<;>simp[beq,key l ih]
 |hr l ih=>intro e;cases e<;>simp[beq,key l ih]
 |hm l ih=>intro e;cases e<;>simp[beq,key l ih]
instance:DecidableEq D:=fun d e=>if h:beq d e=true then .isTrue ((beq_iff d e).1 h) else .isFalse fun he=>h ((beq_iff d e).2 he)
end D
inductive Ty where
 |int(k:IntKind)
 |bool
 |str
 |st(T:TypeId)
 |row(E:TypeId)
 |map(K V:TypeId)
def Ty.beq:Ty→Ty→Bool
 |.int j,.int k=>decide (j=k)
 |.bool,.bool=>true
 |.str,.str=>true
 |.st S,.st T=>uG S T
 |.row S,.row T=>uG S T
 |.map K V,.map K' V'=>uG K K'&&uG V V'
 |_,_=>false
theorem Ty.beq_iff(s:Ty):∀t,Ty.beq s t=true↔s=t:=by
 intro t;cases s<;>cases t<;>simp[Ty.beq]
instance:DecidableEq Ty:=fun d e=>if h:Ty.beq d e=true then .isTrue ((Ty.beq_iff d e).1 h) else .isFalse fun he=>h ((Ty.beq_iff d e).2 he)
def lkA{α:Type}:List (Nat×α)→Nat→Option α
  |[],_=>none
  |(k,x)::l,n=>if uG k n then some x else lkA l n
variable{α:Type}
theorem qx{l:List (Nat×α)}{n:Nat}{x:α}(h:lkA l n=some x):(n,x)∈l:=by
 induction l with
 |nil=>cases h
 | cons e l ih =>
  unfold lkA at h;split at h
  ·rename_i hk;injection h with h;have:=gnN hk;subst h this;exact uL
  ·exact uF _ (ih h)
inductive X where
 |tok(n:Nat)
 |lit(d:D)
 |fld(x:X)(j:Nat)
 |get(x i:X)
 |len(x:X)
 |slen(x:X)
 |sget(x i:X)
 |add(x y:X)
 |sub(x y:X)
 |mul(x y:X)
 |lt(x y:X)
 |le(x y:X)
 |eq(x y:X)
 |not(x:X)
 |and(x y:X)
 |or(x y:X)
 |imp(x y:X)
 |ite(c x y:X)
 |mk(l:List X)
 |row(l:List X)
 |app(x y:X)
 |cut(x lo hi:X)
 |set(x:X)(j:Nat)(y:X)
 |put(x i y:X)
 |rep(n x:X)
 |rng(k:IntKind)(x:X)
 |call(f j:Nat)(l:List X)
 |ok(f:Nat)(l:List X)
 |fn(o:Nat)(l:List X)
namespace X
mutual
def beq:X→X→Bool
 |.tok a,.tok b=>uG a b
 |.lit a,.lit b=>D.beq a b
 |.fld x j,.fld y k=>uG j k&&beq x y
 |.get x i,.get y j=>beq i j&&beq x y
 |.len x,.len y=>beq x y
 |.slen x,.slen y=>beq x y
 |.sget x i,.sget y j=>beq x y&&beq i j
 |.add x y,.add z t=>beq x z&&beq y t
 |.sub x y,.sub z t=>beq x z&&beq y t
 |.mul x y,.mul z t=>beq x z&&beq y t
 |.lt x y,.lt z t=>beq x z&&beq y t
 |.le x y,.le z t=>beq x z&&beq y t
 |.eq x y,.eq z t=>beq x z&&beq y t
 |.not x,.not y=>beq x y
 |.and x y,.and z t=>beq x z&&beq y t
 |.or x y,.or z t=>beq x z&&beq y t
 |.imp x y,.imp z t=>beq x z&&beq y t
 |.ite c x y,.ite d z t=>beq c d&&(beq x z&&beq y t)
 |.mk l,.mk m=>beqs l m
 |.row l,.row m=>beqs l m
 |.app x y,.app z t=>beq x z&&beq y t
 |.cut x y z,.cut t u v=>beq x t&&(beq y u&&beq z v)
 |.set x j y,.set z k t=>uG j k&&(beq x z&&beq y t)
 |.put x y z,.put t u v=>beq x t&&(beq y u&&beq z v)
 |.rep x y,.rep z t=>beq x z&&beq y t
 |.rng k x,.rng l y=>decide (k=l)&&beq x y
 |.call f j l,.call g k m=>uG f g&&(uG j k&&beqs l m)
 |.ok f l,.ok g m=>uG f g&&beqs l m
 |.fn f l,.fn g m=>uG f g&&beqs l m
 |_,_=>false
def beqs:List X→List X→Bool
 |[],[]=>true
 |x::l,y::m=>beq x y&&beqs l m
 |_,_=>false
end
mutual
theorem beq_ok:∀(x y:X),beq x y=true→x=y
 |.tok a,y,h=>by cases y<;>simp_all [beq]
 |.lit a,y,h=>by
  cases y<;>simp only[beq,gnF] at h;rw[(D.beq_iff _ _).1 h]
 |.fld x j,y,h=>by
  cases y<;>simp only[beq,gnF,gnB] at h;rw[gnN h.1,beq_ok x _ h.2]
 |.get x i,y,h=>by
  cases y<;>simp only[beq,gnF,gnB] at h;rw[beq_ok i _ h.1,beq_ok x _ h.2]
 |.len x,y,h=>by
  cases y<;>simp only[beq,gnF] at h;rw[beq_ok x _ h]
 |.slen x,y,h=>by
  cases y<;>simp only[beq,gnF] at h;rw[beq_ok x _ h]
 |.sget x i,y,h=>by
  cases y<;>simp only[beq,gnF,gnB] at h;rw[beq_ok x _ h.1,beq_ok i _ h.2]
 |.add x i,y,h=>by
  cases y<;>simp only[beq,gnF,gnB] at h;rw[beq_ok x _ h.1,beq_ok i _ h.2]
 |.sub x i,y,h=>by
  cases y<;>simp only[beq,gnF,gnB] at h;rw[beq_ok x _ h.1,beq_ok i _ h.2]
 |.mul x i,y,h=>by
  cases y<;>simp only[beq,gnF,gnB] at h;rw[beq_ok x _ h.1,beq_ok i _ h.2]
 |.lt x i,y,h=>by
  cases y<;>simp only[beq,gnF,gnB] at h;rw[beq_ok x _ h.1,beq_ok i _ h.2]
 |.le x i,y,h=>by
  cases y<;>simp only[beq,gnF,gnB] at h;rw[beq_ok x _ h.1,beq_ok i _ h.2]
 |.eq x i,y,h=>by
  cases y<;>simp only[beq,gnF,gnB] at h;rw[beq_ok x _ h.1,beq_ok i _ h.2]
 |.not x,y,h=>by
  cases y<;>simp only[beq,gnF] at h;rw[beq_ok x _ h]
 |.and x i,y,h=>by
  cases y<;>simp only[beq,gnF,gnB] at h;rw[beq_ok x _ h.1,beq_ok i _ h.2]
 |.or x i,y,h=>by
  cases y<;>simp only[beq,gnF,gnB] at h;rw[beq_ok x _ h.1,beq_ok i _ h.2]
 |.imp x i,y,h=>by
  cases y<;>simp only[beq,gnF,gnB] at h;rw[beq_ok x _ h.1,beq_ok i _ h.2]
 |.ite c x i,y,h=>by
  cases y<;>simp only[beq,gnF,gnB] at h;rw[beq_ok c _ h.1,beq_ok x _ h.2.1,beq_ok i _ h.2.2]
 |.mk l,y,h=>by
  cases y<;>simp only[beq,gnF] at h;rw[beqs_ok l _ h]
 |.row l,y,h=>by
  cases y<;>simp only[beq,gnF] at h;rw[beqs_ok l _ h]
 |.app x i,y,h=>by
  cases y<;>simp only[beq,gnF,gnB] at h;rw[beq_ok x _ h.1,beq_ok i _ h.2]
 |.cut c x i,y,h=>by
  cases y<;>simp only[beq,gnF,gnB] at h;rw[beq_ok c _ h.1,beq_ok x _ h.2.1,beq_ok i _ h.2.2]
 |.set x j i,y,h=>by
  cases y<;>simp only[beq,gnF,gnB] at h;rw[gnN h.1,beq_ok x _ h.2.1,beq_ok i _ h.2.2]
 |.put c x i,y,h=>by
  cases y<;>simp only[beq,gnF,gnB] at h;rw[beq_ok c _ h.1,beq_ok x _ h.2.1,beq_ok i _ h.2.2]
 |.rep x i,y,h=>by
  cases y<;>simp only[beq,gnF,gnB] at h;rw[beq_ok x _ h.1,beq_ok i _ h.2]
 |.rng k x,y,h=>by
  cases y<;>simp only[beq,gnF,gnB,gnD] at h;rw[h.1,beq_ok x _ h.2]
 |.call f j l,y,h=>by
  cases y<;>simp only[beq,gnF,gnB] at h;rw[gnN h.1,gnN h.2.1,beqs_ok l _ h.2.2]
 |.ok f l,y,h=>by
  cases y<;>simp only[beq,gnF,gnB] at h;rw[gnN h.1,beqs_ok l _ h.2]
 |.fn f l,y,h=>by
  cases y<;>simp only[beq,gnF,gnB] at h;rw[gnN h.1,beqs_ok l _ h.2]
theorem beqs_ok:∀(l m:List X),beqs l m=true→l=m
 |[],m,h=>by cases m<;>simp_all [beqs]
 | x :: l, m, h => by
  cases m with
  |nil=>simp[beqs] at h
  |cons y m=>
   simp only[beqs,gnB] at h;rw[beq_ok x _ h.1,beqs_ok l _ h.2]
end
end X
def ji(k:IntKind)(n:Int):Bool:=match k with
 |.i64=>decide (-9223372036854775808≤n)&&decide (n≤9223372036854775807)
 |.u8=>decide (0≤n)&&decide (n≤255)
 |.u64=>decide (0≤n)&&decide (n≤18446744073709551615)
 |.i32=>decide (-2147483648≤n)&&decide (n≤2147483647)
 |_=>false
def mfind(k:D):List D→Option D
 |[]=>none
 |p::l=>if p.fld 0=k then some (p.fld 1) else mfind k l
def mset(k v:D):List D→List D
 |[]=>[.a [k,v]]
 |p::l=>if p.fld 0=k then .a [k,v]::l else p::mset k v l
def zw9:Nat→List D→D→D
 |_,[],d=>d
 |lo,e::es,d=>zw9 (lo+1) es (.r (d.rs.set lo e))
def zw5(j:Nat):Nat→List D→D→D
 |_,[],d=>d
 |lo,e::es,d=>zw5 j (lo+1) es (.a (d.fs.set j (.r ((d.fld j).rs.set lo e))))
def zfx(top:Int)(l:List D):List D:=l.filter fun y=>decide ((y.fld 0).int<top)
def zU:D:=.a [.i 0,.a [.i 0,.i 0]]
def qnv(l:List D):ByteArray:=⟨(l.map fun d=>UInt8.ofNat d.int.toNat).toArray⟩
def zwn(k x:D):List D→List D
 |[]=>[.a [k,.r [x]]]
 |p::l=>if p.fld 0=k then .a [k,.r ((p.fld 1).rs++[x])]::l else p::zwn k x l
def zx9(l:List D):List D:=l.foldl (fun m y=>zwn (y.fld 0) (y.fld 1) m) []
def fnD:Nat→List D→D
 |0,[m,k,z]=>(mfind k m.ms).getD z
 |1,[m,k]=>.b (mfind k m.ms).isSome
 |2,[m,k,v]=>.mp (mset k v m.ms)
 |3,[m]=>.i (m.ms.length:Nat)
 |4,[x,i,es]=>zw9 i.int.toNat es.rs x
 |5,[l,top]=>.r (zfx top.int l.rs++vN (l.rs.length - (zfx top.int l.rs).length) zU)
 |6,[x,j,i,es]=>zw5 j.int.toNat i.int.toNat es.rs x
 |7,[l,top]=>.r (zfx top.int l.rs)
 |8,[x,m]=>.i (x.int.fdiv (2^m.int.toNat))
 |9,[x,y]=>.i (IntKind.wrap .i64 (x.int+y.int))
 |10,[x]=>.s (qnv x.rs)
 |11,[x,y]=>.s (x.str++y.str)
 |12,[x,hi]=>.s (x.str.extract 0 hi.int.toNat)
 |13,[x,y]=>.i ((x.int.toNat &&& y.int.toNat:Nat):Int)
 |14,[x,y]=>.i ((x.int.toNat ||| y.int.toNat:Nat):Int)
 |15,[x,y]=>.i ((x.int * 2^y.int.toNat) % 18446744073709551616)
 |16,[l]=>.mp (zx9 l.rs)
 |17,[x,y]=>.i (x.int / y.int)
 |18,[x,y]=>.i (IntKind.wrap .i64 (x.int - y.int))
 |_,_=>.u
structure Ev where
 E:Nat→D
 S:Nat→List D→Option (List D)
namespace X
mutual
def ev(e:Ev):X→D
 |.tok n=>e.E n
 |.lit d=>d
 |.fld x j=>(ev e x).fld j
 |.get x i=>(ev e x).get (ev e i).int
 |.len x=>.i ((ev e x).rs.length:Nat)
 |.slen x=>.i ((ev e x).str.size:Nat)
 |.sget x i=>.i (((ev e x).str.data.getD (ev e i).int.toNat 0).toNat:Nat)
 |.add x y=>.i ((ev e x).int+(ev e y).int)
 |.sub x y=>.i ((ev e x).int - (ev e y).int)
 |.mul x y=>.i ((ev e x).int * (ev e y).int)
 |.lt x y=>.b (decide ((ev e x).int<(ev e y).int))
 |.le x y=>.b (decide ((ev e x).int≤(ev e y).int))
 |.eq x y=>.b (decide (ev e x=ev e y))
 |.not x=>.b (!(ev e x).tt)
 |.and x y=>.b ((ev e x).tt&&(ev e y).tt)
 |.or x y=>.b ((ev e x).tt||(ev e y).tt)
 |.imp x y=>.b (!(ev e x).tt||(ev e y).tt)
 |.ite c x y=>if(ev e c).tt then ev e x else ev e y
 |.mk l=>.a (evs e l)
 |.row l=>.r (evs e l)
 |.app x y=>.r ((ev e x).rs++(ev e y).rs)
 |.cut x lo hi=>.r (((ev e x).rs.take (ev e hi).int.toNat).drop (ev e lo).int.toNat)
 |.set x j y=>.a ((ev e x).fs.set j (ev e y))
 |.put x i y=>.r ((ev e x).rs.set (ev e i).int.toNat (ev e y))
 |.rep n x=>.r (vN (ev e n).int.toNat (ev e x))
 |.rng k x=>.b (ji k (ev e x).int)
 |.call f j l=>((e.S f (evs e l)).getD []).getD j .u
 |.ok f l=>.b (e.S f (evs e l)).isSome
 |.fn o l=>fnD o (evs e l)
def evs(e:Ev):List X→List D
 |[]=>[]
 |x::l=>ev e x::evs e l
end
end X
def X.says(e:Ev)(x:X):Prop:=(x.ev e).tt=true
def zie:List (Nat×Ty):=[(2,.int .i64),(3,.int .i64),(4,.bool),(5,.int .u8),(6,.int .u8),(7,.st 7),(8,.st 7),(9,.str),(10,.str),(11,.str),(21,.int .i32),(22,.row 33),(23,.row 58),(24,.row 69),(25,.row 65),(26,.st 26),(27,.st 26),(28,.row 9),(32,.st 32),(33,.st 32),(34,.int .i64),(38,.row 2),(44,.row 46),(45,.st 45),(46,.st 45),(57,.st 57),(58,.st 57),(64,.st 64),(65,.st 64),(68,.st 68),(69,.st 68),(77,.row 81),(80,.st 80),(81,.st 80),(94,.row 98),(97,.st 97),(98,.st 97),(106,.map 58 4),(107,.row 3),(118,.map 9 4),(139,.int .u64),(152,.int .u8),(153,.int .u8),(156,.int .i32),(157,.int .i32)]
def z7e:List (Nat×List Ty):=[(7,[.int .i64,.int .i64,.bool,.int .u8]),(26,[.row 33,.row 58,.row 69,.row 65,.int .i64,.int .i64]),(32,[.int .i64,.int .i64]),(45,[.int .i64,.int .i64,.str,.row 46]),(57,[.str,.int .i64]),(64,[.int .i64,.st 32,.st 32]),(68,[.int .i64,.st 32]),(80,[.str,.st 32]),(97,[.int .i64,.st 32])]
def zwh:List (Nat×Nat):=[(7,4),(26,6),(32,2),(45,4),(57,2),(64,5),(68,3),(80,3),(97,3)]
def zw2:List (Nat×Nat):=[(7,24),(26,112),(32,16),(45,56),(57,24),(64,40),(68,24),(80,32),(97,24)]
def nvL:List Nat:=[64,68]
def qm(T:TypeId):Option Ty:=lkA zie T
def flds(T:TypeId):Option (List Ty):=lkA z7e T
def Ty.w:Ty→Nat
 |.st T=>(lkA zwh T).getD 0
 |_=>1
def nvB:Ty→Bool
 |.st T=>nvL.any (uG T)
 |_=>false
theorem zur{t:Ty}(h:nvB t=true):1<t.w:=by
 unfold nvB at h;split at h
 ·rename_i T;have key:nvL.all (fun T=>kS 1 (Ty.st T).w)=true:=by kernel_rfl
  obtain⟨T',h1,h2⟩:=vI.1 h;obtain rfl:=gnN h2;have:=uH.1 key _ h1;simpa[kD] using this
 ·cases h
def Ty.by:Ty→Nat
 |.int .i64=>8
 |.int .u64=>8
 |.int .i32=>4
 |.int _=>1
 |.bool=>1
 |.str=>16
 |.row _=>24
 |.map _ _=>8
 |.st T=>(lkA zw2 T).getD 1
def widths(fs:List Ty):Nat:=(fs.map Ty.w).sum
def offs(fs:List Ty)(j:Nat):Nat:=widths (fs.take j)
def q6c:Nat→Ty→D
 |0,_=>.u
 |_+1,.int _=>.i 0
 |_+1,.bool=>.b false
 |_+1,.str=>.s ⟨#[]⟩
 |_+1,.row _=>.r []
 |n+1,.st T=>.a (((flds T).getD []).map (q6c n))
 |_+1,.map _ _=>.u
def qbn(f:Ty→List Value→Option (D×List Value)):List Ty→List Value→Option (List D×List Value)
 |[],cs=>some ([],cs)
 | t :: ts, cs => match f t cs with
  |some (d,cs')=>match qbn f ts cs' with
   |some (l,r)=>some (d::l,r)
   |none=>none
  |none=>none
def q4c:Nat→Ty→List Value→Option (D×List Value)
 |0,_,_=>none
 | n + 1, t, cs => match t, cs with
  |.int k,.int j m::cs=>if decide (j=k)&&ji k m then some (.i m,cs) else none
  |.bool,.bool x::cs=>some (.b x,cs)
  |.str,.string x::cs=>if decide (x.size≤1000000) then some (.s x,cs) else none
  |.row E,.slice none 0 0::cs=>if(qm E).isSome then some (.r [],cs) else none
  | .st T, cs => match flds T with
   |some fs=>match qbn (q4c n) fs cs with
    |some (l,r)=>some (.a l,r)
    |none=>none
   |none=>none
  |_,_=>none
def q40:List Field→List Ty→Nat→Bool
 |[],[],_=>true
 |f::l,t::ts,o=>uG f.offset o&&(f.name != "_")&&(match qm f.type with|some t'=>Ty.beq t' t|none=>false)&&q40 l ts (o+t.w)
 |_,_,_=>false
def quc(P:Program)(T:TypeId)(t:Ty):Bool:=match P.info? T with
 |none=>false
 | some i => uG i.size t.w && kS 0 t.w && (Nat.ble i.bytes 4096 && (uG i.bytes t.by && kS 0 t.by)) && (match t, P.underlying T, i.zero with
  |.int k,some (.int k'),some (.int k2 n)=>decide (k=k')&&decide (k2=k)&&decide (n=0)&&ji k 0
  |.bool,some .bool,some (.bool b)=> !b
  |.str,some .string,some (.string s)=>uG s.size 0
  |.row E,some (.slice E'),some (.slice none 0 0)=>uG E E'&&(qm E).isSome
  | .st S, some (.struct fields), some (.agg zc) => (match flds S with
   |some fs=>q40 fields.toList fs 0&&(match q4c 8 t zc.toList with
    |some (d,[])=>D.beq d (q6c 8 t)
    |_=>false)&& !(P.stoodInHeld T)&& !(P.eqGuardType P.depth T)
   |none=>false)
  |.map K V,some (.map K' V'),some (.map none)=>uG K K'&&(uG V V'&&((qm K).isSome&&(qm V).isSome))
  |_,_,_=>false)
def zse(P:Program):Bool:=zie.all (fun e=>quc P e.1 e.2)&&z7e.all (fun e=>uG (Ty.st e.1).w (widths e.2)&&e.2.all fun t=>kS 0 t.w)
theorem zjs:zse uA=true:=by kernel_rfl
def qbm:Ty→Bool
 |.map _ _=>true
 |_=>false
def zss:Bool:=zie.all (fun e=>match e.2 with
 |.row E=>(match qm E with|some te=> !qbm te|none=>true)
 |_=>true)&&z7e.all (fun e=>e.2.all fun t=> !qbm t)
theorem zkj:zss=true:=by kernel_rfl
variable{E:TypeId}{te:Ty}
theorem zo8(h:qm T=some (.row E))(h2:qm E=some te):qbm te=false:=by
 have:=zkj;simp only[zss,gnB] at this;have:=uH.1 this.1 _ (qx h);simpa[h2] using this
variable{S:TypeId}
theorem zkq{fs:List Ty}(h:flds S=some fs){t:Ty}(ht:t∈fs):qbm t=false:=by
 have:=zkj;simp only[zss,gnB] at this;have:=uH.1 (uH.1 this.2 _ (qx h)) _ ht;simpa using this
theorem qeb{t:Ty}(h:qm T=some t):quc uA T t=true:=by
 have:=zjs;simp only[zse,gnB] at this;exact uH.1 this.1 _ (qx h)
theorem qrq{fs:List Ty}(h:flds T=some fs):(Ty.st T).w=widths fs∧∀t∈fs,0<t.w:=by
 have:=zjs;simp only[zse,gnB] at this;have h1:=uH.1 this.2 _ (qx h);simp only[gnB] at h1;refine⟨gnN h1.1,fun t ht=>?_⟩;have:=uH.1 h1.2 t ht;simpa[kD] using this
theorem q47{t:Ty}(h:qm T=some t):∃i,uA.info? T=some i∧i.size=t.w∧0<t.w∧i.bytes≤4096:=by
 have h1:=qeb h;unfold quc at h1;split at h1
 ·cases h1
 ·rename_i i hi;simp only[gnB] at h1;exact⟨i,hi,gnN h1.1.1.1,by simpa[kD] using h1.1.1.2,by simpa using h1.1.2.1⟩
theorem qof{t:Ty}(h:qm T=some t){i:TypeInfo}(hi:uA.info? T=some i):i.bytes=t.by:=by
 have h1:=qeb h;unfold quc at h1;rw[hi] at h1;simp only[gnB] at h1;exact gnN h1.1.2.2.1
theorem zi9{t:Ty}(h:qm T=some t):0<t.by∧t.by≤4096:=by
 have h1:=qeb h;unfold quc at h1;split at h1
 ·cases h1
 ·rename_i i hi;simp only[gnB] at h1;have h2:=gnN h1.1.2.2.1;have h3:i.bytes≤4096:=by simpa using h1.1.2.1
  exact⟨by simpa[kD] using h1.1.2.2.2,by omega⟩
theorem q4q{k:IntKind}(h:qm T=some (.int k)):uA.underlying T=some (.int k)∧ji k 0=true∧∃i,uA.info? T=some i∧i.size=1∧i.zero=some (.int k 0):=by
  have h1:=qeb h;unfold quc at h1;split at h1
  · cases h1
  · rename_i i hi;simp only[gnB] at h1;have h3:=gnN h1.1.1.1;have h2:=h1.2;split at h2<;>first|(rename_i he;cases he;done)|skip
    · rename_i k0 k' k2 n he hu hz;injection he with he;subst he;simp only[gnB,gnD] at h2;obtain⟨⟨⟨rfl,rfl⟩,rfl⟩,hr0⟩:=h2;exact⟨hu,hr0,i,hi,h3,hz⟩
    all_goals first|(rename_i he _ _;cases he;done)|(rename_i he _;cases he;done)|(rename_i he;cases he;done)|(cases h2;done)
theorem q5e(h:qm T=some .bool):uA.underlying T=some .bool∧∃i,uA.info? T=some i∧i.size=1∧i.zero=some (.bool false):=by
 have h1:=qeb h;unfold quc at h1;split at h1
 ·cases h1
 ·rename_i i hi;simp only[gnB] at h1;have h3:=gnN h1.1.1.1;have h2:=h1.2;split at h2
  ·rename_i he _ _;cases he
  ·rename_i b _ hu hz;have:b=false:=by simpa using h2
   subst this;exact⟨hu,i,hi,h3,hz⟩
  all_goals first|(rename_i he _ _;cases he;done)|(rename_i he _;cases he;done)|(rename_i he;cases he;done)|(cases h2;done)
theorem q4m(h:qm T=some .str):uA.underlying T=some .string∧∃i,uA.info? T=some i∧i.size=1∧i.zero=some (.string ⟨#[]⟩):=by
 have h1:=qeb h;unfold quc at h1;split at h1
 ·cases h1
 ·rename_i i hi;simp only[gnB] at h1;have h3:=gnN h1.1.1.1;have h2:=h1.2;split at h2
  ·rename_i he _ _;cases he
  ·rename_i he _ _;cases he
  ·rename_i s _ hu hz;have h0:=gnN h2;have:s=⟨#[]⟩:=by
    cases s with
    |mk data=>simp[ByteArray.size] at h0;rw[h0]
   subst this;exact⟨hu,i,hi,h3,hz⟩
  all_goals first|(rename_i he _ _;cases he;done)|(rename_i he _;cases he;done)|(rename_i he;cases he;done)|(cases h2;done)
theorem q23(h:qm T=some (.row E)):uA.underlying T=some (.slice E)∧(∃te,qm E=some te)∧∃i,uA.info? T=some i∧i.size=1∧i.zero=some (.slice none 0 0):=by
 have h1:=qeb h;unfold quc at h1;split at h1
 ·cases h1
 ·rename_i i hi;simp only[gnB] at h1;have h3:=gnN h1.1.1.1;have h2:=h1.2;split at h2
  ·rename_i he _ _;cases he
  ·rename_i he _ _;cases he
  ·rename_i he _ _;cases he
  ·rename_i E0 E' he hu hz;injection he with he;subst he;simp only[gnB] at h2;have:=gnN h2.1;subst this;exact⟨hu,uN.1 h2.2,i,hi,h3,hz⟩
  all_goals first|(rename_i he _ _;cases he;done)|(rename_i he _;cases he;done)|(rename_i he;cases he;done)|(cases h2;done)
theorem q5z(h:qm T=some (.st S)):∃fields fs zc i,uA.underlying T=some (.struct fields)∧flds S=some fs∧q40 fields.toList fs 0=true∧uA.info? T=some i∧i.size=(Ty.st S).w∧
  i.zero=some (.agg zc)∧q4c 8 (.st S) zc.toList=some (q6c 8 (.st S),[])∧uA.stoodInHeld T=false∧uA.eqGuardType uA.depth T=false:=by
 have h1:=qeb h;unfold quc at h1;split at h1
 ·cases h1
 ·rename_i i hi;simp only[gnB] at h1;have h3:=gnN h1.1.1.1;have h2:=h1.2;split at h2
  ·rename_i he _ _;cases he
  ·rename_i he _ _;cases he
  ·rename_i he _ _;cases he
  ·rename_i he _ _;cases he
  ·rename_i S0 fields zc he hu hz;injection he with he;subst he;split at h2
   ·rename_i fs hf;simp only[gnB,uW] at h2;obtain⟨⟨⟨ha,hb⟩,hc⟩,hg⟩:=h2;split at hb
    ·rename_i d hd;rw[(D.beq_iff _ _).1 hb] at hd;exact⟨fields,fs,zc,i,hu,hf,ha,hi,h3,hz,hd,hc,hg⟩
    ·cases hb
   ·cases h2
  all_goals first|(rename_i he _ _;cases he;done)|(rename_i he _;cases he;done)|(rename_i he;cases he;done)|(cases h2;done)
variable{K:TypeId}
theorem qby{V:TypeId}(h:qm T=some (.map K V)):uA.underlying T=some (.map K V)∧(∃kt,qm K=some kt)∧(∃vt,qm V=some vt)∧∃i,uA.info? T=some i∧i.size=1∧i.zero=some (.map none):=by
 have h1:=qeb h;unfold quc at h1;split at h1
 ·cases h1
 ·rename_i i hi;simp only[gnB] at h1;have h3:=gnN h1.1.1.1;have h2:=h1.2;split at h2
  ·rename_i he _ _;cases he
  ·rename_i he _ _;cases he
  ·rename_i he _ _;cases he
  ·rename_i he _ _;cases he
  ·rename_i he _ _;cases he
  ·rename_i K0 V0 K' V' he hu hz;injection he with e1 e2;subst e1 e2;simp only[gnB] at h2;have e3:=gnN h2.1;have e4:=gnN h2.2.1;subst e3 e4;exact⟨hu,uN.1 h2.2.2.1,uN.1 h2.2.2.2,i,hi,h3,hz⟩
  ·cases h2
theorem q90:∀{l:List Field}{fs:List Ty}{o j:Nat}{t:Ty},q40 l fs o=true→fs[j]? =some t→∃f,l[j]? =some f∧f.offset=o+offs fs j∧qm f.type=some t∧f.name≠ "_"
 |[],[],o,j,t,h,hj=>by simp at hj
 | f :: l, u :: ts, o, j, t, h, hj => by
  simp only[q40,gnB] at h;obtain⟨⟨⟨h1,h4⟩,h2⟩,h3⟩:=h;cases j with
  | zero =>
   simp at hj;subst hj;split at h2
   ·rename_i t' ht';rw[(Ty.beq_iff _ _).1 h2] at ht';exact⟨f,rfl,by rw[gnN h1];simp[offs,widths],ht',by simpa using h4⟩
   ·cases h2
  |succ j=>
   obtain⟨f',hf,ho,ht,hn⟩:=q90 h3 (by simpa using hj);refine⟨f',by simpa using hf,?_,ht,hn⟩;rw[ho];simp[offs,widths];omega
 |[],_::_,o,j,t,h,hj=>by cases h
 |_::_,[],o,j,t,h,hj=>by cases h
variable{F:Nat→Prop}{A:Option Addr}{b:Nat}{cs:List Value}{w':World}{d:D}{kt vt:Ty}
section
def LIM:Nat:=140737488351232
def LM(te:Ty):Nat:=LIM / te.by
theorem za3(te:Ty):LM te≤LIM:=Nat.div_le_self _ _
def qgq(f:Ty→D→Option (List Value)):List Ty→List D→Option (List Value)
 |[],[]=>some []
 |t::ts,d::ds=>match f t d,qgq f ts ds with
  |some a,some b=>some (a++b)
  |_,_=>none
 |_,_=>none
def qnq:Nat→Ty→D→Option (List Value)
 |0,_,_=>none
 |_+1,.int k,.i n=>if ji k n then some [.int k n] else none
 |_+1,.bool,.b x=>some [.bool x]
 |_+1,.str,.s x=>if decide (x.size≤LIM) then some [.string x] else none
 |n+1,.st T,.a l=>match flds T with
  |some fs=>qgq (qnq n) fs l
  |none=>none
 |_,_,_=>none
def z9n(t:Ty)(cs:List Value):Option Value:=match t with
 |.st _=>some (.agg cs.toArray)
 |_=>match cs with
  |[v]=>some v
  |_=>none
def qj0(t:Ty)(d:D):Option Value:=(qnq 8 t d).bind (z9n t)
def q8a(kt vt:Ty):List D→List MapEntry→Prop
 |[],[]=>True
 |p::l,e::es=>(∃k v,p=.a [k,v]∧qj0 kt k=some e.key∧qj0 vt v=some e.val)∧q8a kt vt l es
 |_,_=>False
def jj(t:Ty)(cs:List Value)(v:Value):Prop:=match t with
 |.st _=>v=.agg cs.toArray
 |_=>cs=[v]
mutual
/-- The cells read as the data, of the type; every slice lies in a block of F. -/
def Rd(w:World)(F:Nat→Prop):D→Ty→List Value→Prop
 |.u,_,_=>False
 |.i n,t,cs=>∃k,t=.int k∧cs=[.int k n]∧ji k n=true
 |.b x,t,cs=>t=.bool∧cs=[.bool x]
 |.s x,t,cs=>t=.str∧cs=[.string x]∧x.size≤LIM
 |.a l,t,cs=>∃T fs,t=.st T∧flds T=some fs∧RdF w F l fs cs
 |.r l,t,cs=>∃E te A cap,t=.row E∧qm E=some te∧cs=[.slice A l.length cap]∧l.length≤cap∧l.length≤LM te∧cap≤maxLen∧RdE w F l te A 0
 |.mp l,t,cs=>∃K V kt vt g es clock,t=.map K V∧qm K=some kt∧qm V=some vt∧cs=[.map (some g)]∧F g∧w.heap[g]? =some (.map es clock)∧RdM w F l kt vt es.toList
def RdF(w:World)(F:Nat→Prop):List D→List Ty→List Value→Prop
 |[],fs,cs=>fs=[]∧cs=[]
 |d::l,fs,cs=>∃t ts c1 c2,fs=t::ts∧cs=c1++c2∧Rd w F d t c1∧RdF w F l ts c2
def RdE(w:World)(F:Nat→Prop):List D→Ty→Option Addr→Nat→Prop
 |[],_,_,_=>True
 |d::l,te,A,i=>(∃b o cs,A=some ⟨b,o,none⟩∧F b∧w.rangeAt b (o+i * te.w) cs∧Rd w F d te cs)∧RdE w F l te A (i+1)
def RdM(w:World)(F:Nat→Prop):List D→Ty→Ty→List MapEntry→Prop
 |[],_,_,es=>es=[]
 |d::l,kt,vt,es=>∃e r,es=e::r∧RdK w F d kt vt e∧RdM w F l kt vt r
def RdK(w:World)(F:Nat→Prop):D→Ty→Ty→MapEntry→Prop
 |.a l,kt,vt,e=>∃ck cv,ck.length=kt.w∧jj kt ck e.key∧jj vt cv e.val∧RdF w F l [kt,vt] (ck++cv)
 |_,_,_,_=>False
end
def ztl(w:World)(F:Nat→Prop)(d:D)(te:Ty)(A:Option Addr)(i:Nat):Prop:=
 ∃b o cs,A=some ⟨b,o,none⟩∧F b∧w.rangeAt b (o+i * te.w) cs∧Rd w F d te cs
theorem q1r{w:World}:∀{l:List D}{i:Nat},RdE w F l te A i↔∀j(h:j<l.length),ztl w F l[j] te A (i+j)
 |[],i=>by simp[RdE]
 | d :: l, i => by
  simp only[RdE];constructor
  ·rintro⟨h0,h1⟩j hj;rcases j with _|j
   ·exact h0
   ·have:=(q1r (l:=l) (i:=i+1)).1 h1 j (by simpa using hj);simpa[kI,kM 1 j] using this
  ·intro h;refine⟨h 0 (by simp),(q1r (l:=l) (i:=i+1)).2 fun j hj=>?_⟩;have:=h (j+1) (by simpa using hj);simpa[kI,kM 1 j] using this
theorem q9f(t:Ty)(ts:List Ty):widths (t::ts)=t.w+widths ts:=by simp[widths]
def One(cs:List Value):Prop:=∀c∈cs,c.oneCell'=true
theorem Rd.len{w:World}(d:D):∀{t:Ty}{cs:List Value},Rd w F d t cs→cs.length=t.w∧One cs:=by
 have one:∀v:Value,v.oneCell'=true→One [v]:=fun v hv c hc=>by
  obtain rfl:c=v:=by simpa using hc
  exact hv
 induction d using D.ind with
 |hu=>intro t cs h;exact h.elim
 |hi n=>rintro t cs⟨k,rfl,rfl,-⟩;exact⟨rfl,one _ rfl⟩
 |hb x=>rintro t cs⟨rfl,rfl⟩;exact⟨rfl,one _ rfl⟩
 |hs x=>rintro t cs⟨rfl,rfl,-⟩;exact⟨rfl,one _ rfl⟩
 |hr l ih=>rintro t cs⟨E,te,A,cap,rfl,-,rfl,-⟩;exact⟨rfl,one _ rfl⟩
 |hm l ih=>rintro t cs⟨K,V,kt,vt,g,es,clock,rfl,-,-,rfl,-⟩;exact⟨rfl,one _ rfl⟩
 | ha l ih =>
  rintro t cs⟨T,fs,rfl,hf,h⟩;have key:∀(l:List D),(∀d∈l,∀{t:Ty}{cs:List Value},Rd w F d t cs→cs.length=t.w∧One cs)→∀{fs:List Ty}{cs:List Value},RdF w F l fs cs→cs.length=widths fs∧One cs:=by
   intro l
   induction l with
   |nil=>
    rintro - fs cs ⟨rfl,rfl⟩;exact⟨rfl,fun c hc=>by cases hc⟩
   |cons d l ihl=>
    rintro hd fs cs⟨t,ts,c1,c2,rfl,rfl,h1,h2⟩;obtain⟨e1,o1⟩:=hd d uL h1;obtain⟨e2,o2⟩:=ihl (fun x hx=>hd x (uF _ hx)) h2;refine⟨by rw[uM,e1,e2,q9f],fun c hc=>?_⟩;rcases List.mem_append.1 hc with h|h
    ·exact o1 c h
    ·exact o2 c h
  have:=key l ih h;rw[(qrq hf).1];exact this
theorem RdF.len{w:World}:∀{l:List D}{fs:List Ty}{cs:List Value},RdF w F l fs cs→cs.length=widths fs∧l.length=fs.length
 |[],fs,cs,⟨h1,h2⟩=>by subst h1 h2;exact⟨rfl,rfl⟩
 |d::l,fs,cs,⟨t,ts,c1,c2,h1,h2,h3,h4⟩=>by
  subst h1 h2;obtain⟨e1,e2⟩:=RdF.len h4;exact⟨by rw[uM,(Rd.len d h3).1,e1,q9f],by simp[e2]⟩
def Kp(F F':Nat→Prop)(w w':World):Prop:=∀b o,F b→w.heap[b]? =some o→w'.heap[b]? =some o∧F' b
theorem qe7{w:World}{o:Nat}(h:w.rangeAt b o cs)(hp:0<cs.length):b<w.heap.size:=by
 have:=h 0 _ (gnK hp);exact qtz this
theorem Kp.range{F':Nat→Prop}{w:World}(h:Kp F F' w w'){o:Nat}(hF:F b)(hr:w.rangeAt b o cs)(hp:0<cs.length):w'.rangeAt b o cs∧F' b:=by
 have hlt:=qe7 hr hp;obtain⟨h1,h2⟩:=h b _ hF (uQ hlt);refine⟨fun j v hj=>?_,h2⟩;have:=hr j v hj;exact(kF (w:=w) (by rw[h1,uQ hlt])).trans this
theorem q3g(h:qm E=some te):0<te.w:=by
 obtain⟨i,-,-,hp,-⟩:=q47 h;exact hp
theorem Rd.keeps0{F':Nat→Prop}{w:World}(hk:Kp F F' w w')(d:D):(∀{t:Ty}{cs:List Value},Rd w F d t cs→Rd w' F' d t cs)∧∀l,d=.a l→∀{fs:List Ty}{cs:List Value},RdF w F l fs cs→RdF w' F' l fs cs:=by
 induction d using D.ind with
 |hu=>exact⟨fun h=>h.elim,fun l e=>by cases e⟩
 |hi n=>exact⟨fun h=>h,fun l e=>by cases e⟩
 |hb x=>exact⟨fun h=>h,fun l e=>by cases e⟩
 |hs x=>exact⟨fun h=>h,fun l e=>by cases e⟩
 |hr l ih=>
  refine⟨?_,fun l e=>by cases e⟩;rintro t cs⟨E,te,A,cap,rfl,hte,rfl,h1,h2,h3,h4⟩;refine⟨E,te,A,cap,rfl,hte,rfl,h1,h2,h3,?_⟩;rw[q1r] at h4⊢;intro j hj;obtain⟨b,o,cs,e,hF,hr,hd⟩:=h4 j hj;have hp:0<cs.length:=by rw[(Rd.len _ hd).1];exact q3g hte
  exact⟨b,o,cs,e,(hk.range hF hr hp).2,(hk.range hF hr hp).1,(ih _ (List.getElem_mem hj)).1 hd⟩
 | hm l ih =>
  refine⟨?_,fun l e=>by cases e⟩;rintro t cs⟨K,V,kt,vt,g,es,clock,rfl,hK,hV,rfl,hF,hh,hl⟩;obtain⟨h1,h2⟩:=hk g _ hF hh;refine⟨K,V,kt,vt,g,es,clock,rfl,hK,hV,rfl,h2,h1,?_⟩;clear hh h1;generalize es.toList=ms at *
  induction l generalizing ms with
  |nil=>exact hl
  | cons d l ihl =>
   obtain⟨e,r,e1,hk1,hl1⟩:=hl;refine⟨e,r,e1,?_,ihl (fun x hx=>ih x (uF _ hx)) _ hl1⟩;cases d with
   |a m=>
    obtain⟨ck,cv,q1,q2,q3,q4⟩:=hk1;exact⟨ck,cv,q1,q2,q3,(ih _ uL).2 m rfl q4⟩
   |_=>exact hk1.elim
 | ha l ih =>
  have key:∀{fs:List Ty}{cs:List Value},RdF w F l fs cs→RdF w' F' l fs cs:=by
   intro fs cs h
   induction l generalizing fs cs with
   |nil=>exact h
   |cons d l ihl=>
    obtain⟨t,ts,c1,c2,rfl,rfl,h1,h2⟩:=h;exact⟨t,ts,c1,c2,rfl,rfl,(ih d uL).1 h1,ihl (fun x hx=>ih x (uF _ hx)) h2⟩
  refine⟨?_,fun m e=>by cases e;exact key⟩;rintro t cs⟨T,fs,rfl,hf,h⟩;exact⟨T,fs,rfl,hf,key h⟩
theorem Rd.keeps{F':Nat→Prop}{w:World}(hk:Kp F F' w w')(d:D){t:Ty}(h:Rd w F d t cs):Rd w' F' d t cs:=(Rd.keeps0 hk d).1 h
theorem Rd.mono{F':Nat→Prop}{w:World}(hF:∀b,b<w.heap.size→F b→F' b){t:Ty}(h:Rd w F d t cs):Rd w F' d t cs:=
 Rd.keeps (fun b o hb ho=>⟨ho,hF b (qt ho) hb⟩) d h
theorem qak(fs:List Ty):offs fs 0=0:=by simp[offs,widths]
theorem qaf(t:Ty)(ts:List Ty)(j:Nat):offs (t::ts) (j+1)=t.w+offs ts j:=by simp[offs,widths]
theorem RdF.get{w:World}:∀{l:List D}{fs:List Ty}{cs:List Value}{j:Nat}{t:Ty},RdF w F l fs cs→fs[j]? =some t→∃d c0 c1 c2,l[j]? =some d∧cs=c0++(c1++c2)∧c0.length=offs fs j∧Rd w F d t c1
 |[],fs,cs,j,t,⟨h1,h2⟩,hj=>by subst h1;simp at hj
 | d :: l, fs, cs, j, t, ⟨t0, ts, c1, c2, h1, h2, h3, h4⟩, hj => by
  subst h1 h2;cases j with
  |zero=>
   simp at hj;subst hj;exact⟨d,[],c1,c2,rfl,rfl,by simp[qak],h3⟩
  |succ j=>
   obtain⟨d',a0,a1,a2,e1,e2,e3,e4⟩:=RdF.get h4 (by simpa using hj);exact⟨d',c1++a0,a1,a2,by simpa using e1,by rw[e2];simp,by rw[uM,e3,(Rd.len d h3).1,qaf],e4⟩
theorem z65(w:World)(F:Nat→Prop):∀(n:Nat){t:Ty}{cs r:List Value}{d:D},q4c n t cs=some (d,r)→∃c1,cs=c1++r∧Rd w F d t c1:=by
 intro n
 induction n with
 |zero=>intro t cs r d h;simp[q4c] at h
 | succ n ih =>
  intro t cs r d h;unfold q4c at h;split at h
  ·rename_i k j m cs';split at h
   ·rename_i hok;simp only[gnB,gnD] at hok;injection h with h;injection h with h1 h2;subst h1 h2;obtain⟨rfl,hr⟩:=hok;exact⟨[.int j m],rfl,j,rfl,rfl,hr⟩
   ·cases h
  ·injection h with h;injection h with h1 h2;subst h1 h2;exact⟨[_],rfl,rfl,rfl⟩
  ·rename_i x cs';split at h
   ·rename_i hx;injection h with h;injection h with h1 h2;subst h1 h2;have hx':x.size≤1000000:=by simpa using hx
    exact⟨[_],rfl,rfl,rfl,by unfold LIM;omega⟩
   ·cases h
  ·rename_i E cs';split at h
   ·rename_i hx;injection h with h;injection h with h1 h2;subst h1 h2;obtain⟨te,hte⟩:=uN.1 hx;exact⟨[_],rfl,E,te,none,0,rfl,hte,rfl,by simp,by simp,by simp[maxLen],by simp[RdE]⟩
   ·cases h
  ·rename_i cs' T;split at h
   ·rename_i fs hf;split at h
    ·rename_i l r' hp;injection h with h;injection h with h1 h2;subst h1 h2;have key:∀(fs:List Ty){cs r:List Value}{l:List D},qbn (q4c n) fs cs=some (l,r)→∃c1,cs=c1++r∧RdF w F l fs c1:=by
      intro fs
      induction fs with
      |nil=>
       intro cs r l h;simp only[qbn,gnS] at h;obtain⟨rfl,rfl⟩:=h;exact⟨[],rfl,rfl,rfl⟩
      | cons t ts ihf =>
       intro cs r l h;unfold qbn at h;split at h
       ·rename_i d cs' hd;split at h
        ·rename_i l' r' hl;simp only[gnS] at h;obtain⟨rfl,rfl⟩:=h;obtain⟨c1,e1,h1⟩:=ih hd;obtain⟨c2,e2,h2⟩:=ihf hl;exact⟨c1++c2,by rw[e1,e2];simp,t,ts,c1,c2,rfl,rfl,h1,h2⟩
        ·cases h
       ·cases h
     obtain⟨c1,e1,h1⟩:=key fs hp;exact⟨c1,e1,T,fs,rfl,hf,h1⟩
    ·cases h
   ·cases h
  ·cases h
def Wf(d:D)(t:Ty):Prop:=∃w F cs,Rd w F d t cs
theorem jj.cells{t:Ty}{v:Value}(h:jj t cs v)(hn:∀c∈cs,c.oneCell'=true):v.cells=cs.toArray:=by
 unfold jj at h;split at h
 ·subst h;rfl
 ·subst h;have:=hn v (by simp);cases v<;>first|rfl|(simp[Value.oneCell'] at this)
def zt:Nat→Ty→Bool
 |0,_=>false
 |_+1,.row _=>false
 |_+1,.map _ _=>false
 |n+1,.st T=>match flds T with
  |some fs=>fs.all (zt n)
  |none=>false
 |_+1,_=>true
theorem Rd.flat{w:World}{F':Nat→Prop}:∀(n:Nat)(d:D){t:Ty}{cs:List Value},zt n t=true→Rd w F d t cs→Rd w' F' d t cs:=by
 intro n
 induction n with
 |zero=>intro d t cs h;simp[zt] at h
 | succ n ih =>
  intro d t cs hb h;cases d with
  |u=>exact h.elim
  |i m=>exact h
  |b x=>exact h
  |s x=>exact h
  |r l=>obtain⟨E,te,A,cap,rfl,-⟩:=h;simp[zt] at hb
  |mp l=>obtain⟨K,V,kt,vt,g,es,clock,rfl,-⟩:=h;simp[zt] at hb
  | a l =>
   obtain⟨T,fs,rfl,hf,h⟩:=h;simp only[zt,hf] at hb;refine⟨T,fs,rfl,hf,?_⟩;clear hf
   induction l generalizing fs cs with
   |nil=>exact h
   |cons d l ihl=>
    obtain⟨t,ts,c1,c2,rfl,rfl,h1,h2⟩:=h;simp only[kH,gnB] at hb;exact⟨t,ts,c1,c2,rfl,rfl,ih d hb.1 h1,ihl _ h2 hb.2⟩
section
variable{w:World}{F:Nat→Prop}
theorem zng:∀(n:Nat){t:Ty}{d:D}{cs:List Value},qnq n t d=some cs→Rd w F d t cs:=by
 intro n
 induction n with
 |zero=>intro t d cs h;simp[qnq] at h
 | succ n ih =>
  intro t d cs h;unfold qnq at h;split at h
  ·cases h
  ·rename_i k m _;split at h
   ·rename_i hr;injection h with h;subst h;exact⟨_,rfl,rfl,hr⟩
   ·cases h
  ·injection h with h;subst h;exact⟨rfl,rfl⟩
  ·split at h
   ·rename_i hr;injection h with h;subst h;exact⟨rfl,rfl,of_decide_eq_true hr⟩
   ·cases h
  ·rename_i n' T l heq;obtain rfl:n=n':=by injection heq
   split at h
   ·rename_i fs hf;refine⟨T,fs,rfl,hf,?_⟩;clear hf
    induction l generalizing fs cs with
    | nil =>
     cases fs with
     |nil=>
      simp only[qgq,uT] at h;subst h;exact⟨rfl,rfl⟩
     |cons t ts=>simp[qgq] at h
    | cons d l ihl =>
     cases fs with
     |nil=>simp[qgq] at h
     | cons t ts =>
      unfold qgq at h;split at h
      ·rename_i a b ha hb;injection h with h;subst h;exact⟨t,ts,a,b,rfl,rfl,ih ha,ihl _ hb⟩
      ·cases h
   ·cases h
  ·cases h
theorem qy3{t:Ty}{v:Value}:z9n t cs=some v↔jj t cs v:=by
 unfold z9n jj;split
 ·simp[eq_comm]
 ·match cs with
  |[]=>simp
  |[x]=>simp
  |x::y::l=>simp
theorem z1k{t:Ty}{v:Value}(h:qj0 t d=some v):∃cs,Rd w F d t cs∧jj t cs v:=by
 unfold qj0 at h;obtain⟨cs,h1,h2⟩:=uR.1 h;exact⟨cs,zng 8 h1,qy3.1 h2⟩
theorem z0f{e:MapEntry}:RdK w F d kt vt e↔∃k v ck cv,d=.a [k,v]∧Rd w F k kt ck∧jj kt ck e.key∧Rd w F v vt cv∧jj vt cv e.val:=by
 constructor
 ·intro h;cases d with
  | a l =>
   obtain⟨ck,cv,h1,h2,h3,h4⟩:=h;cases l with
   |nil=>obtain⟨h,-⟩:=h4;cases h
   | cons k l =>
    obtain⟨t,ts,c1,c2,e1,e2,h5,h6⟩:=h4;injection e1 with e1 e3;subst e1 e3;cases l with
    |nil=>obtain⟨h,-⟩:=h6;cases h
    | cons v l =>
     obtain⟨t',ts',c3,c4,e4,e5,h7,h8⟩:=h6;injection e4 with e4 e6;subst e4 e6;cases l with
     |nil=>
      obtain⟨-,rfl⟩:=h8;rw[List.append_nil] at e5;subst e5;obtain⟨e7,e8⟩:=kP e2 (by rw[h1,(Rd.len _ h5).1]);subst e7 e8;exact⟨k,v,ck,cv,rfl,h5,h2,h7,h3⟩
     |cons x l=>obtain⟨t,ts,c1,c2,e1,-⟩:=h8;cases e1
  |_=>exact h.elim
 ·rintro⟨k,v,ck,cv,rfl,h1,h2,h3,h4⟩;exact⟨ck,cv,(Rd.len _ h1).1,h2,h4,kt,[vt],ck,cv,rfl,rfl,h1,vt,[],cv,[],rfl,by simp,h3,rfl,rfl⟩
theorem q8a.rdM:∀{l:List D}{es:List MapEntry},q8a kt vt l es→RdM w F l kt vt es
 |[],[],_=>rfl
 |p::l,e::es,⟨⟨k,v,hp,hk,hv⟩,h⟩=>by
  obtain⟨ck,h1,h2⟩:=z1k (w:=w) (F:=F) hk;obtain⟨cv,h3,h4⟩:=z1k (w:=w) (F:=F) hv;exact⟨e,es,rfl,z0f.2 ⟨k,v,ck,cv,hp,h1,h2,h3,h4⟩,q8a.rdM h⟩
 |[],_::_,h=>h.elim
 |_::_,[],h=>h.elim
theorem z9b:∀{l:List D}{es:List MapEntry},RdM w F l kt vt es→l.length=es.length
 |[],es,h=>by rw[show es=[] from h];rfl
 |p::l,es,⟨e,r,h1,_,h2⟩=>by rw[h1];simp[z9b h2]
end
end
variable{dep dep':List Nat}{pin:Nat}{o:Option Nat}
section
abbrev qj:=Nat→Option Nat
def q7h(p:qj)(b:Nat):Prop:=∀x,p x≠some b
def FFD(A:Nat→Prop)(p:qj)(dep:List Nat)(b:Nat):Prop:=(A b∧q7h p b)∨∃x,x∈dep∧p x=some b
theorem zq3{t:Ty}(h:qm T=some t){n:Nat}(hn:n≤34359738367):n≤LM t:=by
 obtain⟨h1,h2⟩:=zi9 h;refine(Nat.le_div_iff_mul_le h1).2 ?_;have:n * t.by≤34359738367 * 4096:=Nat.mul_le_mul hn h2;unfold LIM;omega
def q32(A:Nat→Prop)(p:qj)(w:World)(dep:List Nat)(pin:Nat)(E:TypeId)(te:Ty)(l:List D)(v:Value):Prop:=
 (v=.slice none 0 0∧l=[])∨
 ∃g cap cur,v=.slice (some ⟨g,0,none⟩) l.length cap∧p pin=some g∧w.heap[g]? =some (.cells cur E (0,0))∧l.length≤cap∧cap≤maxLen∧cur.size=cap * te.w∧l.length≤LM te∧
  ∀i(h:i<l.length),∃cs,w.rangeAt g (i * te.w) cs∧Rd w (FFD A p dep) l[i] te cs
def zxn(p:qj)(w:World)(pin:Nat)(d:D)(t:Ty)(cs:List Value):Prop:=∃K V kt vt l g es clock,t=.map K V∧qm K=some kt∧qm V=some vt∧d=.mp l∧cs=[.map (some g)]∧p pin=some g∧w.heap[g]? =some (.map es clock)∧q8a kt vt l es.toList
def Fl(A:Nat→Prop)(p:qj)(w:World)(dep:List Nat)(o:Option Nat)(d:D)(t:Ty)(cs:List Value):Prop:=match o with
 |none=>Rd w (FFD A p dep) d t cs
 |some pin=>(∃E te l v,t=.row E∧qm E=some te∧d=.r l∧cs=[v]∧q32 A p w dep pin E te l v)∨zxn p w pin d t cs
def Fls(A:Nat→Prop)(p:qj)(w:World)(dep:List Nat)(own:List (Nat×Nat)):Nat→List D→List Ty→List Value→Prop
 |_,[],fs,cs=>fs=[]∧cs=[]
 |j,d::ds,fs,cs=>∃t ts c1 c2,fs=t::ts∧cs=c1++c2∧Fl A p w dep (lkA own j) d t c1∧Fls A p w dep own (j+1) ds ts c2
def qi1:Ty→Bool
 |.st _=>true
 |_=>false
def Con(A:Nat→Prop)(p:qj)(w:World)(d:D)(t:Ty)(own:List (Nat×Nat))(dep:List Nat)(cs:List Value):Prop:=match t with
 |.st T=>∃fs ds,flds T=some fs∧d=.a ds∧Fls A p w dep own 0 ds fs cs
 |t=>Fl A p w dep (lkA own 0) d t cs
section
variable{A:Nat→Prop}{p p':qj}{w w':World}{dep:List Nat}
theorem FFD.mono(h:∀x∈dep,x∈dep')(hb:FFD A p dep b):FFD A p dep' b:=hb.imp id fun⟨x,hx,e⟩=>⟨x,h x hx,e⟩
theorem q32.rd{l:List D}{v:Value}(hte:qm E=some te)(h:q32 A p w dep pin E te l v)(hd:∀x∈dep,x∈dep')(hp:pin∈dep'):Rd w (FFD A p dep') (.r l) (.row E) [v]:=by
 rcases h with⟨rfl,rfl⟩|⟨g,cap,cur,rfl,hg,hh,h1,h2,h3,h4,h5⟩
 ·exact⟨E,te,none,0,rfl,hte,rfl,by simp,by simp,by simp[maxLen],by simp[RdE]⟩
 ·refine⟨E,te,some ⟨g,0,none⟩,cap,rfl,hte,rfl,h1,h4,h2,q1r.2 fun j hj=>?_⟩;obtain⟨cs,hr,hx⟩:=h5 j hj;exact⟨g,0,cs,rfl,.inr ⟨pin,hp,hg⟩,by simpa using hr,hx.mono fun b _ hb=>hb.mono hd⟩
theorem Fl.rd{t:Ty}(h:Fl A p w dep o d t cs)(hd:∀x∈dep,x∈dep')(hp:∀x,o=some x→x∈dep'):Rd w (FFD A p dep') d t cs:=by
 cases o with
 |none=>exact Rd.mono (fun b _ hb=>hb.mono hd) h
 |some pin=>
  rcases h with⟨E,te,l,v,rfl,hte,rfl,rfl,hv⟩|⟨K,V,kt,vt,l,g,es,clock,rfl,hK,hV,rfl,rfl,hg,hh,hl⟩
  ·exact hv.rd hte hd (hp pin rfl)
  ·exact⟨K,V,kt,vt,g,es,clock,rfl,hK,hV,rfl,.inr ⟨pin,hp pin rfl,hg⟩,hh,hl.rdM⟩
theorem qab{own:List (Nat×Nat)}{x:Nat}(h:lkA own j=some x):x∈own.map (·.2):=List.mem_map.2 ⟨_,qx h,rfl⟩
theorem Fls.rd{own:List (Nat×Nat)}(hd:∀x∈dep,x∈dep')(hp:∀x∈own.map (·.2),x∈dep'):∀{ds:List D}{j:Nat}{fs:List Ty}{cs:List Value},Fls A p w dep own j ds fs cs→RdF w (FFD A p dep') ds fs cs
 |[],_,_,_,h=>h
 |d::ds,j,fs,cs,⟨t,ts,c1,c2,e1,e2,h1,h2⟩=>⟨t,ts,c1,c2,e1,e2,h1.rd hd fun x hx=>hp x (qab hx),Fls.rd hd hp h2⟩
theorem Con.rd{own:List (Nat×Nat)}{t:Ty}(h:Con A p w d t own dep cs)(hd:∀x∈dep,x∈dep')(hp:∀x∈own.map (·.2),x∈dep'):Rd w (FFD A p dep') d t cs:=by
 unfold Con at h;split at h
 ·rename_i T;obtain⟨fs,ds,hf,rfl,h⟩:=h;exact⟨T,fs,rfl,hf,h.rd hd hp⟩
 ·exact h.rd hd fun x hx=>hp x (qab hx)
theorem Fls.of_rd:∀{ds:List D}{j:Nat}{fs:List Ty}{cs:List Value},RdF w (FFD A p dep) ds fs cs→Fls A p w dep [] j ds fs cs
 |[],_,_,_,h=>h
 |d::ds,j,fs,cs,⟨t,ts,c1,c2,e1,e2,h1,h2⟩=>⟨t,ts,c1,c2,e1,e2,h1,Fls.of_rd h2⟩
theorem Con.of_rd{t:Ty}(h:Rd w (FFD A p dep) d t cs):Con A p w d t [] dep cs:=by
 unfold Con;split
 ·rename_i T;cases d with
  |a l=>
   obtain⟨T',fs,e,hf,h⟩:=h;injection e with e;subst e;exact⟨fs,l,hf,rfl,Fls.of_rd h⟩
  |u=>exact h.elim
  |i n=>obtain⟨k,e,-⟩:=h;cases e
  |b x=>cases h.1
  |s x=>cases h.1
  |r l=>obtain⟨E,te,A,cap,e,-⟩:=h;cases e
  |mp l=>obtain⟨K,V,kt,vt,g,es,clock,e,-⟩:=h;cases e
 ·exact h
theorem Con.len{own:List (Nat×Nat)}{t:Ty}(h:Con A p w d t own dep cs):cs.length=t.w∧One cs:=
 Rd.len d (h.rd (dep':=dep++own.map (·.2)) (fun x hx=>uD _ hx) (fun x hx=>uC _ hx))
def qiw(w:World)(b:Nat):Prop:=(∃cs T,w.heap[b]? =some (.cells cs T (0,0)))∨∃es clock,w.heap[b]? =some (.map es clock)
theorem qiw.cells{w:World}{o:Nat}{v:Value}(h:qiw w b)(hc:w.cell? ⟨b,o,none⟩=some v):∃cs T,w.heap[b]? =some (.cells cs T (0,0)):=by
 rcases h with h|⟨es,clock,h⟩
 ·exact h
 ·unfold vQ at hc;simp[h] at hc
theorem qiw.same{w:World}(h:qiw w b)(he:w'.heap[b]? =w.heap[b]?):qiw w' b:=by
 rcases h with⟨cs,T,h⟩|⟨es,clock,h⟩
 ·exact .inl ⟨cs,T,he.trans h⟩
 ·exact .inr ⟨es,clock,he.trans h⟩
structure Stab(A:Nat→Prop)(Z L:Nat→Bool)(p:qj)(w:World)(p':qj)(w':World):Prop where
 size:w.heap.size≤w'.heap.size
 free:∀b,b<w.heap.size→A b→q7h p b→w'.heap[b]? =w.heap[b]?∧q7h p' b
 loc:∀x b,L x=false→p x=some b→p' x=some b
 con:∀x b,Z x=false→p x=some b→w'.heap[b]? =w.heap[b]?
def no:Nat→Bool:=fun _=>false
theorem Stab.refl(A:Nat→Prop)(Z L:Nat→Bool)(p:qj)(w:World):Stab A Z L p w p w:=⟨uU _,fun _ _ _ h=>⟨rfl,h⟩,fun _ _ _ h=>h,fun _ _ _ _=>rfl⟩
theorem Stab.kp{Z L:Nat→Bool}(h:Stab A Z L p w p' w')(hz:∀x∈dep,Z x=false∧L x=false):Kp (FFD A p dep) (FFD A p' dep) w w':=fun b o hb ho=>by
 rcases hb with⟨ha,hf⟩|⟨x,hx,e⟩
 ·obtain⟨h1,h2⟩:=h.free b (qt ho) ha hf;exact⟨h1.trans ho,.inl ⟨ha,h2⟩⟩
 ·exact⟨(h.con x b (hz x hx).1 e).trans ho,.inr ⟨x,hx,h.loc x b (hz x hx).2 e⟩⟩
theorem qg6{o:Nat}(h:w.rangeAt b o cs)(he:w'.heap[b]? =w.heap[b]?):w'.rangeAt b o cs:=fun j v hj=>(kF (w:=w) he).trans (h j v hj)
theorem q32.kept{Z L:Nat→Bool}{l:List D}{v:Value}(h:q32 A p w dep pin E te l v)(hs:Stab A Z L p w p' w')(hz:∀x∈dep,Z x=false∧L x=false)(hp:Z pin=false∧L pin=false):q32 A p' w' dep pin E te l v:=by
 rcases h with h|⟨g,cap,cur,rfl,hg,hh,h1,h2,h3,h4,h5⟩
 ·exact .inl h
 ·have he:=hs.con pin g hp.1 hg;refine .inr ⟨g,cap,cur,rfl,hs.loc pin g hp.2 hg,he.trans hh,h1,h2,h3,h4,fun i hi=>?_⟩;obtain⟨cs,hr,hx⟩:=h5 i hi;exact⟨cs,qg6 hr he,Rd.keeps (hs.kp hz) _ hx⟩
theorem Fl.kept{Z L:Nat→Bool}{t:Ty}(h:Fl A p w dep o d t cs)(hs:Stab A Z L p w p' w')(hz:∀x∈dep,Z x=false∧L x=false)(hp:∀x,o=some x→Z x=false∧L x=false):Fl A p' w' dep o d t cs:=by
 cases o with
 |none=>exact Rd.keeps (hs.kp hz) _ h
 |some pin=>
  rcases h with⟨E,te,l,v,e1,e2,e3,e4,hv⟩|⟨K,V,kt,vt,l,g,es,clock,e1,hK,hV,e2,e3,hg,hh,hl⟩
  ·exact .inl ⟨E,te,l,v,e1,e2,e3,e4,hv.kept hs hz (hp pin rfl)⟩
  ·exact .inr ⟨K,V,kt,vt,l,g,es,clock,e1,hK,hV,e2,e3,hs.loc pin g (hp pin rfl).2 hg,(hs.con pin g (hp pin rfl).1 hg).trans hh,hl⟩
theorem Fls.kept{Z L:Nat→Bool}{own:List (Nat×Nat)}(hs:Stab A Z L p w p' w')(hz:∀x∈dep,Z x=false∧L x=false)(hp:∀x∈own.map (·.2),Z x=false∧L x=false):∀{ds:List D}{j:Nat}{fs:List Ty}{cs:List Value},Fls A p w dep own j ds fs cs→Fls A p' w' dep own j ds fs cs
 |[],_,_,_,h=>h
 |d::ds,j,fs,cs,⟨t,ts,c1,c2,e1,e2,h1,h2⟩=>⟨t,ts,c1,c2,e1,e2,h1.kept hs hz fun x hx=>hp x (qab hx),Fls.kept hs hz hp h2⟩
theorem Con.kept{Z L:Nat→Bool}{own:List (Nat×Nat)}{t:Ty}(h:Con A p w d t own dep cs)(hs:Stab A Z L p w p' w')(hz:∀x∈dep,Z x=false∧L x=false)(hp:∀x∈own.map (·.2),Z x=false∧L x=false):Con A p' w' d t own dep cs:=by
 unfold Con at h⊢;split
 ·obtain⟨fs,ds,hf,e,h⟩:=h;exact⟨fs,ds,hf,e,h.kept hs hz hp⟩
 ·rename_i hn;split at h
  ·rename_i T;exact absurd rfl (hn T)
  ·exact h.kept hs hz fun x hx=>hp x (qab hx)
end
section
variable{A:Nat→Prop}{p:qj}{w:World}{dep:List Nat}
theorem Fl.flat1{t:Ty}(h:Fl A p w dep o d t cs)(hf:zt 8 t=true∨(o≠none∧∃E te,t=.row E∧qm E=some te∧zt 8 te=true)):Fl A p w [] o d t cs:=by
 cases o with
 |none=>
  rcases hf with hf|⟨h0,-⟩
  ·exact Rd.flat 8 _ hf h
  ·exact absurd rfl h0
 | some pin =>
  rcases h.symm with h|⟨E,te,l,v,rfl,hte,e2,e3,hv⟩
  ·exact .inr h
  have hfl:zt 8 te=true:=by
   rcases hf with hf|⟨-,E',te',e,hte',hfl⟩
   ·simp[zt] at hf
   ·injection e with e;subst e;obtain rfl:=gnI (hte'.symm.trans hte);exact hfl
  refine .inl ⟨E,te,l,v,rfl,hte,e2,e3,?_⟩;rcases hv with hv|⟨g,cap,cur,e4,hg,hh,q1,q2,q3,q4,q5⟩
  ·exact .inl hv
  ·refine .inr ⟨g,cap,cur,e4,hg,hh,q1,q2,q3,q4,fun i hi=>?_⟩;obtain⟨vs,hr1,hd⟩:=q5 i hi;exact⟨vs,hr1,Rd.flat 8 _ hfl hd⟩
theorem Con.flatT{t:Ty}{own:List (Nat×Nat)}(h:Con A p w d t own dep cs)(hf:zt 8 t=true):Con A p w d t own [] cs:=by
 unfold Con at h⊢;split
 ·rename_i S;obtain⟨fs,ds,hfs,e,h⟩:=h;refine⟨fs,ds,hfs,e,?_⟩;simp only[zt,hfs] at hf;clear hfs e;have key:∀{ds:List D}{n:Nat}{fs:List Ty}{cs:List Value},(fs.all (zt 7))=true→Fls A p w dep own n ds fs cs→Fls A p w [] own n ds fs cs:=by
   intro ds
   induction ds with
   |nil=>intro n fs cs _ h;exact h
   | cons d ds ih =>
    rintro n fs cs hall⟨t,ts,c1,c2,rfl,rfl,h1,h2⟩;simp only[kH,gnB] at hall;refine⟨t,ts,c1,c2,rfl,rfl,?_,ih hall.2 h2⟩;cases ho:lkA own n with
    |none=>
     rw[ho] at h1;exact Rd.flat 7 _ hall.1 h1
    |some pin=>
     rw[ho] at h1;rcases h1 with⟨E,te,l,v,rfl,-⟩|⟨K,V,kt,vt,l,g,es,clock,rfl,-⟩<;>simp[zt] at hall
  exact key hf h
 ·rename_i hne;split at h
  ·rename_i T;exact absurd rfl (hne T)
  ·exact h.flat1 (.inl hf)
def depF(t:Ty)(l:List Nat):List Nat:=if zt 8 t then[] else l
theorem Con.depF{t:Ty}{own:List (Nat×Nat)}(h:Con A p w d t own dep cs):Con A p w d t own (depF t dep) cs:=by
 unfold Proofs.Ytdaadonfbnedaaa.depF;split
 ·rename_i hf;exact h.flatT hf
 ·exact h
end
inductive AV where
 |any
 |undef
 |v(x:X)(t:Ty)(own:List (Nat×Nat))(dep:List Nat)
 |nilS
 |nilP
 |ref(k:Nat)(path:List Nat)(o:Nat)(t:Ty)
 |rd(x:X)(t:Ty)(dep:List Nat)(wr:Option (Nat×X×List Nat×Nat×Ty))
 |tup(l:List AV)
 |gd(c:List (X×Bool))(a:AV)
 |fn(f:FuncId)(l:List AV)
 |nb(x:X)(neg:Bool)
 |bx(k:Nat)(T:TypeId)(a:AV)
 |fr(T:TypeId)(a:AV)
 |ff(f:FuncId)(T1:TypeId)(x1:X)(t1:Ty)(T2:TypeId)(x2:X)(t2:Ty)(dep:List Nat)
 |sn(t:Nat)(a:AV)
 |pt(pin:Nat)(i:X)(E:TypeId)(a:AV)
 |ar(E:TypeId)(xs:List X)(dep:List Nat)
 |lv(k:Nat)(t:Ty)
 |ax(k:Nat)(T:TypeId)(n:Nat)(a:AV)
structure Ent where
 x:X
 t:Ty
 own:List (Nat×Nat)
 dep:List Nat
structure St where
 t:List (Nat×AV)
 m:List (Nat×Ent)
abbrev VB:Nat:=100000
structure Flr where
 fl:Nat→Nat
 mx:Ty→Nat
 fr:Nat→Prop
def Flr.no:Flr:=⟨fun _=>0,fun _=>0,fun _=>True⟩
def FlT(te:Ty)(n:Nat):Prop:=te.w<n∨(nvB te=true∧te.w≤n)
def Flo(F:Flr)(w0 w:World):Prop:=∀k,0<F.fl k→∃cs cs' T te,k<w0.heap.size∧w0.heap[k]? =some (.cells cs T (0,0))∧qm T=some te∧F.fl k≤F.mx te * te.w∧FlT te cs.size∧
 w.heap[k]? =some (.cells cs' T (0,0))∧cs'.size=cs.size∧∀j,j<F.fl k→cs'[j]? =cs[j]?
theorem Flo.no{w0 w:World}:Flo .no w0 w:=fun k h=>absurd h (Nat.lt_irrefl 0)
structure Cx where
 v:Ev
 A:Nat→Prop
 F:Flr
 lo:Nat
 At:Nat→Nat→Prop
 new:∀k g,lo≤k→k<VB→At k g
 snap:Nat→Value:=fun _=>undef
def hold(e:Ev)(c:List (X×Bool)):Bool:=c.all fun y=>(y.1.ev e).tt==y.2
def zww(c:Cx)(p:qj)(w:World)(b o:Nat):Option (Nat×X×List Nat×Nat×Ty)→Prop
 |none=>True
 |some (pin,i,_,q,te)=>p pin=some b∧o=(i.ev c.v).int.toNat * te.w+q∧∃cur E,w.heap[b]? =some (.cells cur E (0,0))∧qm E=some te
def zxa(c:Cx)(p:qj)(pin:Nat)(i:X)(E:TypeId)(v:Value):Prop:=∃te A n cap,qm E=some te∧v=.slice A n cap∧(0<n→∃g,p pin=some g∧A=some ⟨g,(i.ev c.v).int.toNat * te.w,none⟩)
def z8p(c:Cx)(p:qj)(w:World)(E:TypeId)(xs:List X)(dep:List Nat)(v:Value):Prop:=∃(te:Ty)(cs:List Value),qm E=some te∧v=.agg cs.toArray∧cs.length=xs.length * te.w∧∀(j:Nat)(d:D),(X.evs c.v xs)[j]? =some d→Rd w (FFD c.A p dep) d te ((cs.drop (j * te.w)).take te.w)
def zjw(c:Cx)(p:qj)(w:World)(f:FuncId)(T1:TypeId)(x1:X)(t1:Ty)(T2:TypeId)(x2:X)(t2:Ty)(dep:List Nat)(v:Value):Prop:=∃(g:Nat)(cs1 cs2:List Value),v=.func (.func f) #[] #[.pointer (some ⟨g,0,none⟩),.pointer (some ⟨g+1,0,none⟩)]∧(c.A g∧q7h p g)∧(c.A (g+1)∧q7h p (g+1))∧(c.F.fr g∧c.F.fr (g+1))∧w.heap[g]? =some (.cells cs1.toArray T1 (0,0))∧w.heap[g+1]? =some (.cells cs2.toArray T2 (0,0))∧Rd w (fun b=>FFD c.A p dep b∧b<g) (x1.ev c.v) t1 cs1∧Rd w (fun b=>FFD c.A p dep b∧b<g) (x2.ev c.v) t2 cs2
theorem Kp.and{F' P:Nat→Prop}{w:World}(h:Kp F F' w w'):Kp (fun b=>F b∧P b) (fun b=>F' b∧P b) w w':=fun b o hb ho=>⟨(h b o hb.1 ho).1,(h b o hb.1 ho).2,hb.2⟩
theorem zjw.kept{c:Cx}{p p':qj}{w:World}{Z L:Nat→Bool}(hs:Stab c.A Z L p w p' w'){f:FuncId}{T1:TypeId}{x1:X}{t1:Ty}{T2:TypeId}{x2:X}{t2:Ty}{v:Value}(h1:∀x∈dep,Z x=false∧L x=false)(h:zjw c p w f T1 x1 t1 T2 x2 t2 dep v):zjw c p' w' f T1 x1 t1 T2 x2 t2 dep v:=by
 obtain⟨g,cs1,cs2,e,ha,hb,hfr,hg,hg2,r1,r2⟩:=h;obtain⟨k1,k2⟩:=hs.free g (qt hg) ha.1 ha.2;obtain⟨k3,k4⟩:=hs.free (g+1) (qt hg2) hb.1 hb.2;exact⟨g,cs1,cs2,e,⟨ha.1,k2⟩,⟨hb.1,k4⟩,hfr,k1.trans hg,k3.trans hg2,Rd.keeps (hs.kp h1).and _ r1,Rd.keeps (hs.kp h1).and _ r2⟩
mutual
def AV.pd(c:Cx)(p:qj)(w:World):AV→Value→Prop
 |.any,_=>True
 |.undef,v=>v=Go.undef
 |.v x t own dep,v=>∃cs,jj t cs v∧Con c.A p w (x.ev c.v) t own dep cs
 |.nilS,v=>v=.slice none 0 0
 |.nb x neg,v=>∃b,v=.bool b∧(b= !neg→(x.ev c.v).rs=[])
 |.nilP,v=>v=.pointer none
 |.ref k _ o _,v=>∃g,p (k * 16)=some g∧v=.pointer (some ⟨g,o,none⟩)∧c.At k g
 |.rd x t dep wr,v=>∃b o cs,v=.pointer (some ⟨b,o,none⟩)∧FFD c.A p dep b∧w.rangeAt b o cs∧0<cs.length∧Rd w (FFD c.A p dep) (x.ev c.v) t cs∧zww c p w b o wr
 |.tup l,v=>∃vs,v=.tuple vs.toArray∧pds c p w l vs
 |.gd cs a,v=>(hold c.v cs=true→AV.pd c p w a v)∧(hold c.v cs=false→v=Go.undef)
 |.fn f l,v=>∃vs,v=.func (.func f) #[] vs.toArray∧pds c p w l vs
 |.bx k T a,v=>∃g u,(p (k * 16)=some g∧c.At k g)∧v=.pointer (some ⟨g,0,none⟩)∧w.heap[g]? =some (.cells #[u] T (0,0))∧AV.pd c p w a u
 |.sn t a,v=>v=c.snap t∧AV.pd c p w a v
 |.pt pin i E a,v=>zxa c p pin i E v∧AV.pd c p w a v
 |.ar E xs dep,v=>z8p c p w E xs dep v
 |.lv k t,v=>∃g cs T,(p (k * 16)=some g∧c.At k g)∧v=.pointer (some ⟨g,0,none⟩)∧w.heap[g]? =some (.cells cs T (0,0))∧qm T=some t∧cs.size=t.w
 |.ax k T n a,v=>∃g cs,(p (k * 16)=some g∧c.At k g)∧v=.pointer (some ⟨g,0,none⟩)∧w.heap[g]? =some (.cells cs T (0,0))∧cs.size=n∧AV.pd c p w a (.agg cs)
 |.fr T a,v=>∃g u,c.A g∧q7h p g∧v=.pointer (some ⟨g,0,none⟩)∧w.heap[g]? =some (.cells #[u] T (0,0))∧AV.pd c p w a u
 |.ff f T1 x1 t1 T2 x2 t2 dep,v=>zjw c p w f T1 x1 t1 T2 x2 t2 dep v
def pds(c:Cx)(p:qj)(w:World):List AV→List Value→Prop
 |[],vs=>vs=[]
 |a::l,vs=>∃v r,vs=v::r∧AV.pd c p w a v∧pds c p w l r
end
mutual
/-- The slices and variables that a fact hangs on. -/
def AV.pins:AV→List Nat
 |.v _ _ own dep=>own.map (·.2)++dep
 |.rd _ _ dep wr=>(match wr with|some (pin,_)=>[pin]|none=>[])++dep
 |.tup l=>z3g l
 |.gd _ a=>AV.pins a
 |.fn _ l=>z3g l
 |.bx k _ a=>k * 16::AV.pins a
 |.ax k _ _ a=>k * 16::AV.pins a
 |.fr _ a=>AV.pins a
 |.ff _ _ _ _ _ _ _ dep=>dep
 |.sn _ a=>AV.pins a
 |.pt pin _ _ a=>pin::AV.pins a
 |.ar _ _ dep=>dep
 |.lv k _=>[k * 16]
 |_=>[]
def z3g:List AV→List Nat
 |[]=>[]
 |a::l=>AV.pins a++z3g l
end
mutual
/-- The variables that a fact points to. -/
def AV.keys:AV→List Nat
 |.ref k _ _ _=>[k * 16]
 |.tup l=>z0l l
 |.gd _ a=>AV.keys a
 |.fn _ l=>z0l l
 |.bx k _ a=>k * 16::AV.keys a
 |.ax k _ _ a=>k * 16::AV.keys a
 |.fr _ a=>AV.keys a
 |.sn _ a=>AV.keys a
 |.pt _ _ _ a=>AV.keys a
 |.lv k _=>[k * 16]
 |_=>[]
def z0l:List AV→List Nat
 |[]=>[]
 |a::l=>AV.keys a++z0l l
end
mutual
theorem AV.kept{c:Cx}{p p':qj}{w:World}{Z L:Nat→Bool}(hs:Stab c.A Z L p w p' w'):∀(a:AV)(v:Value),(∀x∈a.pins,Z x=false∧L x=false)→(∀x∈a.keys,L x=false)→a.pd c p w v→a.pd c p' w' v
 |.any,v,_,_,h=>h
 |.undef,v,_,_,h=>h
 |.nilS,v,_,_,h=>h
 |.nb x neg,v,_,_,h=>h
 |.nilP,v,_,_,h=>h
 |.v x t own dep,v,h1,h2,⟨cs,hp,hc⟩=>⟨cs,hp,hc.kept hs (fun x hx=>h1 x (uC _ hx)) (fun x hx=>h1 x (uD _ hx))⟩
 |.ref k pt o t,v,h1,h2,⟨g,hg,e⟩=>⟨g,hs.loc _ _ (h2 (k * 16) (by simp[AV.keys])) hg,e⟩
 |.rd x t dep wr,v,h1,h2,⟨b,o,cs,e,hb,hr,h0,hd,hw⟩=>by
  have hk:=hs.kp (dep:=dep) fun x hx=>h1 x (uC _ hx);obtain⟨hr',hb'⟩:=hk.range hb hr h0;refine⟨b,o,cs,e,hb',hr',h0,Rd.keeps hk _ hd,?_⟩
  match wr,hw with
  |none,hw=>exact hw
  |some (pin,i,pt,q,te),hw=>exact⟨hs.loc _ _ (h1 pin (by simp[AV.pins])).2 hw.1,hw.2.1,hw.2.2.imp fun cur h=>h.imp fun E h=>⟨(hs.con _ _ (h1 pin (by simp[AV.pins])).1 hw.1).trans h.1,h.2⟩⟩
 |.tup l,v,h1,h2,⟨vs,e,h⟩=>⟨vs,e,qvd hs l vs h1 h2 h⟩
 |.gd cs a,v,h1,h2,h=>⟨fun hc=>AV.kept hs a v h1 h2 (h.1 hc),h.2⟩
 |.fn f l,v,h1,h2,⟨vs,e,h⟩=>⟨vs,e,qvd hs l vs h1 h2 h⟩
 |.bx k T a,v,h1,h2,⟨g,u,hg,e,hh,h⟩=>⟨g,u,⟨hs.loc _ _ (h2 (k * 16) (by simp[AV.keys])) hg.1,hg.2⟩,e,(hs.con _ _ (h1 (k * 16) (by simp[AV.pins])).1 hg.1).trans hh,AV.kept hs a u (fun x hx=>h1 x (uF _ hx)) (fun x hx=>h2 x (uF _ hx)) h⟩
 |.ax k T n a,v,h1,h2,⟨g,u,hg,e,hh,hn,h⟩=>⟨g,u,⟨hs.loc _ _ (h2 (k * 16) (by simp[AV.keys])) hg.1,hg.2⟩,e,(hs.con _ _ (h1 (k * 16) (by simp[AV.pins])).1 hg.1).trans hh,hn,AV.kept hs a (.agg u) (fun x hx=>h1 x (uF _ hx)) (fun x hx=>h2 x (uF _ hx)) h⟩
 |.sn t a,v,h1,h2,⟨e,h⟩=>⟨e,AV.kept hs a v h1 h2 h⟩
 |.lv k t,v,h1,h2,⟨g,cs,T,hg,e,hh,hs'⟩=>⟨g,cs,T,⟨hs.loc _ _ (h2 (k * 16) (by simp[AV.keys])) hg.1,hg.2⟩,e,(hs.con _ _ (h1 (k * 16) (by simp[AV.pins])).1 hg.1).trans hh,hs'⟩
 |.ar E xs dep,v,h1,h2,⟨te,cs,e1,e2,h3,h⟩=>⟨te,cs,e1,e2,h3,fun j d hj=>Rd.keeps (hs.kp (dep:=dep) fun x hx=>h1 x hx) _ (h j d hj)⟩
 | .pt pin i E a, v, h1, h2, ⟨⟨te, A, n, cap, e1, e2, h3⟩, h⟩ => ⟨⟨te, A, n, cap, e1, e2, fun hn => by
   obtain⟨g,hg,e⟩:=h3 hn;exact⟨g,hs.loc _ _ (h1 pin uL).2 hg,e⟩⟩,AV.kept hs a v (fun x hx=>h1 x (uF _ hx)) h2 h⟩
 |.fr T a,v,h1,h2,⟨g,u,ha,hf,e,hh,h⟩=>⟨g,u,ha,(hs.free g (uP.1 hh).1 ha hf).2,e,(hs.free g (uP.1 hh).1 ha hf).1.trans hh,AV.kept hs a u h1 h2 h⟩
 |.ff f T1 x1 t1 T2 x2 t2 dep,v,h1,h2,h=>zjw.kept hs (fun x hx=>h1 x hx) h
theorem qvd{c:Cx}{p p':qj}{w:World}{Z L:Nat→Bool}(hs:Stab c.A Z L p w p' w'):∀(l:List AV)(vs:List Value),(∀x∈z3g l,Z x=false∧L x=false)→(∀x∈z0l l,L x=false)→pds c p w l vs→pds c p' w' l vs
 |[],vs,_,_,h=>h
 | a :: l, vs, h1, h2, ⟨v, r, e, ha, hl⟩ => ⟨v, r, e, AV.kept hs a v (fun x hx => h1 x (uD _ hx)) (fun x hx => h2 x (uD _ hx)) ha,
   qvd hs l r (fun x hx=>h1 x (uC _ hx)) (fun x hx=>h2 x (uC _ hx)) hl⟩
end
def q1v(c:Cx)(p:qj)(w:World)(k:Nat)(e:Ent):Prop:=∃g cs T,p (k * 16)=some g∧w.heap[g]? =some (.cells cs T (0,0))∧qm T=some e.t∧Con c.A p w (e.x.ev c.v) e.t e.own e.dep cs.toList
def Ent.pins(e:Ent):List Nat:=e.own.map (·.2)++e.dep
theorem q1v.kept{c:Cx}{p p':qj}{w:World}{Z L:Nat→Bool}{k:Nat}{e:Ent}(hs:Stab c.A Z L p w p' w')(h1:∀x∈e.pins,Z x=false∧L x=false)(h2:Z (k * 16)=false∧L (k * 16)=false)(h:q1v c p w k e):q1v c p' w' k e:=by
 obtain⟨g,cs,T,hg,hh,hty,hc⟩:=h;exact⟨g,cs,T,hs.loc _ _ h2.2 hg,(hs.con _ _ h2.1 hg).trans hh,hty,hc.kept hs (fun x hx=>h1 x (uC _ hx)) (fun x hx=>h1 x (uD _ hx))⟩
structure SF(c:Cx)(σ:St)(p:qj)(w:World)(a:Act):Prop where
 t:∀t x,lkA σ.t t=some x→∃v,a.tmps[t]? =some v∧x.pd c p w v
 m:∀k e,lkA σ.m k=some e→q1v c p w k e
theorem Flo.same{F:Flr}{w0 w:World}(h:Flo F w0 w)(hs:∀k,k<w.heap.size→0<F.fl k→w'.heap[k]? =w.heap[k]?):Flo F w0 w':=fun k hk=>by
 obtain⟨cs,cs',T,te,h1,h2,h3,h4,h5,h6,h7,h8⟩:=h k hk;exact⟨cs,cs',T,te,h1,h2,h3,h4,h5,(hs k (qt h6) hk).trans h6,h7,h8⟩
structure Bs(A:Nat→Prop)(F:Flr)(w0:World)(S0:Nat→Prop)(p:qj)(w:World):Prop where
 inj:∀x y b,p x=some b→p y=some b→x=y
 bd:∀x b,p x=some b→b<w.heap.size
 but:But S0 w0 w
 pin:∀x b,p x=some b→S0 b∨w0.heap.size≤b
 new:∀b,w0.heap.size≤b→A b∧F.fr b
 pa:∀x b,p x=some b→A b
 obj:∀x b,p x=some b→qiw w b
 flo:Flo F w0 w
end
section
section
variable{w:World}{F:Nat→Prop}
theorem zis{t:Ty}{v:Value}(ht:qi1 t=false)(h:jj t cs v):cs=[v]:=by
 cases t<;>first|exact h|(cases ht;done)
theorem qtc{t:Ty}{v:Value}(ht:qi1 t=false):jj t [v] v:=by
 cases t<;>first|rfl|(cases ht;done)
theorem qsj{t:Ty}(h:qm T=some t):(isAgg T).run uA w=.ok (qi1 t) w:=by
 cases t with
 |int k=>simp[isAgg,run_underlying (q4q h).1,qi1]
 |bool=>simp[isAgg,run_underlying (q5e h).1,qi1]
 |str=>simp[isAgg,run_underlying (q4m h).1,qi1]
 |row E=>simp[isAgg,run_underlying (q23 h).1,qi1]
 |map K V=>simp[isAgg,run_underlying (qby h).1,qi1]
 |st S=>
  obtain⟨fields,fs,zc,i,hu,-⟩:=q5z h;simp[isAgg,run_underlying hu,qi1]
theorem q0x{t:Ty}(h:qm T=some t):(sizeOf T).run uA w=.ok t.w w:=by
 obtain⟨i,hi,hs,-⟩:=q47 h;simp[sizeOf,typeInfo,hi,hs]
theorem Rd.single{t:Ty}(h:Rd w F d t cs)(ht:qi1 t=false):∃v,cs=[v]:=by
 have hl:=(Rd.len d h).1;have:t.w=1:=by cases t<;>first|rfl|(cases ht;done)
 rw[this] at hl;exact List.length_eq_one_iff.1 hl
theorem q93{t:Ty}(h:qm T=some t){c0 c1 c2:List Value}{o:Nat}(ho:c0.length=o)(hd:Rd w F d t c1):∃v,(part T (c0++(c1++c2)).toArray o).run uA w=.ok v w∧jj t c1 v:=by
 have hl:=(Rd.len d hd).1;cases hs:qi1 t with
 |true=>
  obtain⟨S,rfl⟩:∃S,t=.st S:=by cases t<;>first|exact⟨_,rfl⟩|(cases hs;done)
  refine⟨.agg c1.toArray,?_,rfl⟩;simp only[part,uE,qsj h,hs,uB,if_true,q0x h,uK]
  congr 2
  apply vS;subst ho;simp only[Array.toList_extract,List.extract_eq_take_drop];rw[show c0.length+(Ty.st S).w - c0.length=c1.length by omega,vO,vM]
 |false=>
  obtain⟨v,rfl⟩:=hd.single hs;refine⟨v,?_,qtc hs⟩;have:(c0++([v]++c2)).toArray[o]? =some v:=by subst ho;simp
  simp only[part,uE,qsj h,hs,uB,this];simp
theorem q8t{t:Ty}(h:qm T=some t){o:Nat}(hr:w.rangeAt b o cs)(hd:Rd w F d t cs):∃v,(Instr.loadAt T (.pointer (some ⟨b,o,none⟩))).run uA w=.ok v w∧jj t cs v:=by
 have hl:=(Rd.len d hd).1;obtain⟨i,hi,hsz,-⟩:=q47 h;cases hs:qi1 t with
 |true=>
  obtain⟨S,rfl⟩:∃S,t=.st S:=by cases t<;>first|exact⟨_,rfl⟩|(cases hs;done)
  obtain⟨fields,fs,zc,i',hu,-⟩:=q5z h;exact⟨_,run_loadAt_mid w b o T cs (.struct fields) hr hu rfl (by rw[hi];simp[hsz,hl]),rfl⟩
 |false=>
  obtain⟨v,rfl⟩:=hd.single hs;refine⟨v,?_,qtc hs⟩;have hc:w.cell? ⟨b,o,none⟩=some v:=by simpa using hr 0 v rfl
  simp only[Instr.loadAt,Instr.sureAddr,loadVar,uE,uK,uB,qsj h,hs];simp[load,vU,hc]
theorem Addr.mid_eq(b o j:Nat):(⟨b,o,none⟩:Addr).add j=⟨b,o+j,none⟩:=Addr.add_mid b o j
theorem qar(h:qm T=some (.st S)){fs:List Ty}(hf:flds S=some fs){t:Ty}(hj:fs[j]? =some t)(b o:Nat):(Instr.fieldAt T (.pointer (some ⟨b,o,none⟩)) j).run uA w=.ok (.pointer (some ⟨b,o+offs fs j,none⟩)) w:=by
 obtain⟨fields,fs',zc,i,hu,hf',hb,-⟩:=q5z h;obtain rfl:fs'=fs:=gnI (hf'.symm.trans hf);obtain⟨f,hfl,hoff,hty,-⟩:=q90 hb hj;have hfl':fields[j]? =some f:=by simpa using hfl
 have hpos:=q3g hty;have hoff':f.offset=offs fs' j:=by omega
 have hne:t.w≠0:=by omega
 simp only[Instr.fieldAt,uE,run_underlying hu,uB,hfl',Instr.sureAddr,uK,fieldPlace,q0x hty,hne,if_false,hoff',Addr.mid_eq]
theorem z0k(h:qm T=some (.st S)){fs:List Ty}(hf:flds S=some fs){t:Ty}(hj:fs[j]? =some t){c0 c1 c2:List Value}(ho:c0.length=offs fs j)(hd:Rd w F d t c1):
  ∃v,(Instr.field T (.agg (c0++(c1++c2)).toArray) j).run uA w=.ok v w∧jj t c1 v:=by
 obtain⟨fields,fs',zc,i,hu,hf',hb,-⟩:=q5z h;obtain rfl:fs'=fs:=gnI (hf'.symm.trans hf);obtain⟨f,hfl,hoff,hty,-⟩:=q90 hb hj;have hfl':fields[j]? =some f:=by simpa using hfl
 obtain⟨v,hv,hp⟩:=q93 (c0:=c0) (c2:=c2) (o:=f.offset) hty (by omega) hd;refine⟨v,?_,hp⟩;simp only[Instr.field,uE,run_underlying hu,uB,hfl',asAgg,uK,hv]
theorem ql0:∀(n:Nat){T:TypeId}{t:Ty}{d d':D}{c c':List Value}{v v':Value}(dep:Nat),qm T=some t→zt n t=true→Rd w F d t c→Rd w F d' t c'→jj t c v→jj t c' v'→
  (Op.equalIn (dep+n) T v v').run uA w=.ok (decide (d=d')) w:=by
 intro n
 induction n with
 |zero=>intro T t d d' c c' v v' dep h hb;simp[zt] at hb
 | succ n ih =>
  intro T t d d' c c' v v' dep h hb hd hd' hp hp';cases t with
  |row E=>simp[zt] at hb
  |map K V=>simp[zt] at hb
  |int k=>
   cases d<;>simp only[Rd,reduceCtorEq,false_and,exists_false,and_false] at hd;cases d'<;>simp only[Rd,reduceCtorEq,false_and,exists_false,and_false] at hd';obtain⟨k1,e1,rfl,-⟩:=hd;obtain⟨k2,e2,rfl,-⟩:=hd';injection e1 with e1;injection e2 with e2;subst e1 e2;obtain rfl:_=v:=by simpa[jj] using hp
   obtain rfl:_=v':=by simpa[jj] using hp'
   rw[show dep+(n+1)=(dep+n)+1 from rfl,run_equalIn_int w _ T _ _ _ _ (q4q h).1]
   congr 1
   rw[uI];simp
  |bool=>
   cases d<;>simp only[Rd,reduceCtorEq,false_and,exists_false,and_false] at hd;cases d'<;>simp only[Rd,reduceCtorEq,false_and,exists_false,and_false] at hd';obtain⟨e1,rfl⟩:=hd;obtain⟨e2,rfl⟩:=hd';obtain rfl:_=v:=by simpa[jj] using hp
   obtain rfl:_=v':=by simpa[jj] using hp'
   rw[show dep+(n+1)=(dep+n)+1 from rfl,run_equalIn_bool' w _ T _ _ (q5e h).1]
   congr 1
   rw[uI];simp
  |str=>
   cases d<;>simp only[Rd,reduceCtorEq,false_and,exists_false,and_false] at hd;cases d'<;>simp only[Rd,reduceCtorEq,false_and,exists_false,and_false] at hd';obtain⟨e1,rfl,-⟩:=hd;obtain⟨e2,rfl,-⟩:=hd';obtain rfl:_=v:=by simpa[jj] using hp
   obtain rfl:_=v':=by simpa[jj] using hp'
   rw[show dep+(n+1)=(dep+n)+1 from rfl,run_equalIn_string w _ T _ _ (q4m h).1]
   congr 1
   rw[uI];simp only[beq_iff_eq,gnD,D.s.injEq];exact⟨str_inj,fun e=>by rw[e]⟩
  | st S =>
   obtain⟨fields,fs,zc,i,hu,hf,hfb,hi,hs,hz,hpz,hst,-⟩:=q5z h;cases d<;>simp only[Rd,reduceCtorEq,false_and,exists_false,and_false] at hd;cases d'<;>simp only[Rd,reduceCtorEq,false_and,exists_false,and_false] at hd';rename_i l l';obtain⟨S1,fs1,e1,hf1,hl⟩:=hd;obtain⟨S2,fs2,e2,hf2,hl'⟩:=hd';injection e1 with e1;injection e2 with e2;subst e1 e2;obtain rfl:=gnI (hf1.symm.trans hf);obtain rfl:=gnI (hf2.symm.trans hf);obtain rfl:v=.agg c.toArray:=hp;obtain rfl:v'=.agg c'.toArray:=hp';have hfs:uA.fieldsOf T=fields:=by simp[Program.fieldsOf,hu]
   rw[show dep+(n+1)=(dep+n)+1 from rfl,run_equalIn_agg w _ T _ _ (by rw[hfs];exact hu) hst,hfs];simp only[zt,hf] at hb
   have key:∀(fl:List Field)(fs:List Ty)(l l':List D)(c c' p p':List Value),q40 fl fs p.length=true→p'.length=p.length→(fs.all (zt n))=true→RdF w F l fs c→RdF w F l' fs c'→
     (Op.eqFields (dep+n) (p++c).toArray (p'++c').toArray fl).run uA w=.ok (decide (l=l')) w:=by
    intro fl
    induction fl with
    | nil =>
     intro fs l l' c c' p p' hb hpp hall hl hl';cases fs with
     |cons t ts=>cases hb
     | nil =>
      cases l with
      |cons d l=>obtain⟨t,ts,c1,c2,e,-⟩:=hl;cases e
      |nil=>
       cases l' with
       |cons d l=>obtain⟨t,ts,c1,c2,e,-⟩:=hl';cases e
       |nil=>simp[Op.eqFields]
    | cons f fl ihf =>
     intro fs l l' c c' p p' hb hpp hall hl hl';cases fs with
     |nil=>cases hb
     | cons t ts =>
      cases l with
      |nil=>cases hl.1
      | cons d l =>
       cases l' with
       |nil=>cases hl'.1
       | cons d' l' =>
        obtain⟨t1,ts1,c1,c2,e1,rfl,h1,h2⟩:=hl;obtain⟨t2,ts2,c1',c2',e2,rfl,h1',h2'⟩:=hl';injection e1 with e1 e1';injection e2 with e2 e2';subst e1 e1' e2 e2';simp only[q40,gnB] at hb;obtain⟨⟨⟨hb1,hb2⟩,hb3⟩,hb4⟩:=hb;simp only[kH,gnB] at hall;have hoff:=gnN hb1;have hty:qm f.type=some t:=by
         split at hb3
         ·rename_i t' ht';rw[ht',(Ty.beq_iff _ _).1 hb3]
         ·cases hb3
        obtain⟨v1,hv1,hp1⟩:=q93 (c0:=p) (c2:=c2) (o:=f.offset) hty (by omega) h1;obtain⟨v2,hv2,hp2⟩:=q93 (c0:=p') (c2:=c2') (o:=f.offset) hty (by omega) h1';have hq:=ih dep hty hall.1 h1 h1' hp1 hp2
        have hn:f.name≠ "_" :=by simpa using hb2
        unfold Op.eqFields;rw[if_pos hn];simp only[uE,hv1,hv2,hq,uB];by_cases he:d=d'
        ·subst he;have l1:=(Rd.len d h1).1;have l2:=(Rd.len d h1').1;have:=ihf ts l l' c2 c2' (p++c1) (p'++c1') (by rw[uM,l1,←hoff,kM];rw[hoff] at *;rw[kM];exact hb4) (by simp[hpp,l1,l2]) hall.2 h2 h2';simp only[kK] at this;simp[this]
        ·simp[he]
   have:=key fields.toList _ l l' c c' [] [] hfb rfl hb hl hl';simpa using this
theorem qs8(h:qm T=some (.row E))(hte:qm E=some te){o len cap:Nat}{k:IntKind}{i:Int}(h0:0≤i)(h1:i<len):
  (Instr.indexAt T (.slice (some ⟨b,o,none⟩) len cap) (.int k i)).run uA w=.ok (.pointer (some ⟨b,o+i.toNat * te.w,none⟩)) w:=by
 simp only[Instr.indexAt,asIntOf,uE,uK,run_underlying (q23 h).1,uB];rw[if_pos ⟨h0,h1⟩];simp[q0x hte,Addr.mid_eq]
theorem z92(h:qm T=some (.row E))(A:Option Addr)(n c:Nat)(ty:TypeId):(uX #[T] ty #[.slice A n c]).run uA w=.ok (.int .i64 n) w:=by
 simp[uX,run_underlying (q23 h).1,goInt]
theorem z7y(h:qm T=some (.row E))(A:Option Addr)(n c:Nat)(ty:TypeId):(vK #[T] ty #[.slice A n c]).run uA w=.ok (.int .i64 c) w:=by
 obtain⟨hu,-⟩:=q23 h;simp[vK,run_underlying hu,goInt]
theorem z5n(h:qm T=some .str)(s:ByteArray)(ty:TypeId):(uX #[T] ty #[.string s]).run uA w=.ok (.int .i64 s.size) w:=by
 simp[uX,run_underlying (q4m h).1,goInt]
end
end
def zwj(cs:List (X×Bool))(e:X×Bool):Bool:=cs.any fun f=>X.beq f.1 e.1&&(f.2==e.2)
def zsw:AV→AV
 |.sn _ a=>a
 |a=>a
def strip(cs:List (X×Bool)):AV→AV
 |.gd c a=>if c.all (zwj cs) then zsw a else .any
 |.sn _ a=>a
 |a=>a
def cAV:Value→Option AV
 |.int k n=>if ji k n then some (.v (.lit (.i n)) (.int k) [] []) else none
 |.bool b=>some (.v (.lit (.b b)) .bool [] [])
 |.string s=>if decide (s.size≤1000000) then some (.v (.lit (.s s)) .str [] []) else none
 |.slice none 0 0=>some .nilS
 |.pointer none=>some .nilP
 |_=>none
def opd(σ:St)(cs:List (X×Bool)):Operand→Option AV
 |.tmp t=>(lkA σ.t t).map (strip cs)
 |.const v=>cAV v
 |.func f=>some (.fn f [])
 |.global _=>none
def z6r:X→X
 |.lit (.b x)=>.lit (.b !x)
 |x=>.not x
def zac(c a b:X):X:=match c with
 |.lit (.b true)=>a
 |.lit (.b false)=>b
 |_=>match a,b with
  |.lit (.b true),.lit (.b false)=>c
  |.lit (.b false),.lit (.b true)=>z6r c
  |.lit (.b true),_=>.or c b
  |_,.lit (.b false)=>.and c a
  |_,_=>.ite c a b
def ltX:X→X→X
 |.lit (.i a),.lit (.i b)=>.lit (.b (decide (a<b)))
 |x,y=>.lt x y
def leX:X→X→X
 |.lit (.i a),.lit (.i b)=>.lit (.b (decide (a≤b)))
 |x,y=>.le x y
def eqX:X→X→X
 |.lit a,.lit b=>.lit (.b (D.beq a b))
 |x,y=>.eq x y
def z4r:X→X→X
 |.lit (.i a),.lit (.i b)=>.lit (.i (a+b))
 |x,y=>.add x y
def zl3:X→X→X
 |.lit (.i a),.lit (.i b)=>.lit (.i (a - b))
 |x,y=>.sub x y
def zlo:X→X→X
 |.lit (.i a),.lit (.i b)=>.lit (.i (a * b))
 |x,y=>.mul x y
def qa8:X→X
 |.row l=>.lit (.i l.length)
 |.lit (.r l)=>.lit (.i l.length)
 |.put x _ _=>qa8 x
 |x=>.len x
def qsi:Option Nat→List (Nat×Nat)
 |some pin=>[(0,pin)]
 |none=>[]
def q53(x:X)(t:Ty)(own:List (Nat×Nat)):List Nat→Option (X×Ty×List (Nat×Nat)×Nat)
 |[]=>some (x,t,own,0)
 | j :: path => match t with
  | .st S => match flds S with
   | some fs => match fs[j]? with
    |some t'=>match q53 (.fld x j) t' (qsi (lkA own j)) path with
     |some (x',t'',own',o)=>some (x',t'',own',offs fs j+o)
     |none=>none
    |none=>none
   |none=>none
  |_=>none
def qia(T:TypeId)(t:Ty):Bool:=match qm T with
 |some t'=>Ty.beq t' t
 |none=>false
def qit(E:TypeId):AV→Option (X×List (Nat×Nat)×List Nat)
 |.v x (.row E') own dep=>if uG E' E then some (x,own,dep) else none
 |.nilS=>some (.lit (.r []),[],[])
 |.pt _ _ _ (.v x (.row E') own dep)=>if uG E' E then some (x,own,dep) else none
 |_=>none
def zvn(own:List (Nat×Nat))(i:X)(E:TypeId)(a:AV):AV:=match lkA own 0 with
 |some pin=>.pt pin i E a
 |none=>a
inductive CmpD where
 |rel(f:X→X→X)
 |ari(f:X→X→X)
 |no
def zsp:BinOp→CmpD
 |.lss=>.rel ltX
 |.leq=>.rel leX
 |.gtr=>.rel fun x y=>ltX y x
 |.geq=>.rel fun x y=>leX y x
 |.eql=>.rel eqX
 |.neq=>.rel fun x y=>z6r (eqX x y)
 |.add=>.ari z4r
 |.sub=>.ari zl3
 |.mul=>.ari zlo
 |_=>.no
def zq4(op:BinOp)(T:TypeId):AV→AV→Option (List X×AV)
 | .v x (.int k) _ _, .v y (.int k') _ _ => if decide (k = k') then (match zsp op with
   |.rel f=>some ([],.v (f x y) .bool [] [])
   |.ari f=>some ([.rng k (f x y)],.v (f x y) (.int k) [] [])
   |.no=>none) else none
 | .v x .bool _ _, .v y .bool _ _ => if qia T .bool then (match op with
   |.eql=>some ([],.v (eqX x y) .bool [] [])
   |.neq=>some ([],.v (z6r (eqX x y)) .bool [] [])
   |_=>none) else none
 | .v x .str _ _, .v y .str _ _ => match op with
   |.eql=>some ([],.v (eqX x y) .bool [] [])
   |.neq=>some ([],.v (z6r (eqX x y)) .bool [] [])
   |.add=>some ([leX (.add (.slen x) (.slen y)) (.lit (.i 140737488351232))],.v (.fn 11 [x,y]) .str [] [])
   |_=>none
 | .v x (.st S) _ _, .v y (.st S') _ _ => if qia T (.st S) && (uG S S' && zt 8 (.st S)) then (match op with
   |.eql=>some ([],.v (eqX x y) .bool [] [])
   |.neq=>some ([],.v (z6r (eqX x y)) .bool [] [])
   |_=>none) else none
 |_,_=>none
def z57(P:Program)(T:TypeId):Bool:=match P.underlying T with
 |some (.pointer _)=>true
 |_=>false
def isRow(P:Program)(T:TypeId):Bool:=match P.underlying T with
 |some (.slice _)=>true
 |_=>false
def zgv(c:X):AV→AV→Option AV
 |.v x t _ _,.v y u _ _=>if Ty.beq t u&&zt 8 t then some (.v (if Ty.beq t .bool then zac c x y else .ite c x y) t [] []) else none
 |_,_=>none
def zup(own:List (Nat×Nat))(i:X)(te:Ty):Option (Nat×X×List Nat×Nat×Ty):=match lkA own 0 with
 |some pin=>some (pin,i,[],0,te)
 |none=>none
def opds(σ:St)(cs:List (X×Bool)):List Operand→Option (List AV)
 |[]=>some []
 |x::l=>match opd σ cs x,opds σ cs l with
  |some a,some r=>some (a::r)
  |_,_=>none
def zhs(P:Program)(op:BinOp)(T:TypeId):AV→AV→Option (List X×AV)
 | .rd _ _ _ _, .nilP => if z57 P T then (match op with
   |.eql=>some ([],.v (.lit (.b false)) .bool [] [])
   |.neq=>some ([],.v (.lit (.b true)) .bool [] [])
   |_=>none) else none
 | .ref _ _ _ _, .nilP => if z57 P T then (match op with
   |.eql=>some ([],.v (.lit (.b false)) .bool [] [])
   |.neq=>some ([],.v (.lit (.b true)) .bool [] [])
   |_=>none) else none
 | .nilP, .nilP => if z57 P T then (match op with
   |.eql=>some ([],.v (.lit (.b true)) .bool [] [])
   |.neq=>some ([],.v (.lit (.b false)) .bool [] [])
   |_=>none) else none
 | .v x (.row _) _ _, .nilS => if isRow P T then (match op with
   |.eql=>some ([],.nb x false)
   |.neq=>some ([],.nb x true)
   |_=>none) else none
 |_,_=>none
def zpj(op:BinOp):AV→AV→Option (List X×AV)
 |.v x (.int k) _ _,.v (.lit (.i m)) (.int k2) _ _=>match op with
  |.shr=>if decide (0≤m)&&decide (m≤8) then some ([.rng k (.fn 8 [x,.lit (.i m)])],.v (.fn 8 [x,.lit (.i m)]) (.int k) [] []) else none
  |.quo=>if decide (k=.i64)&&(decide (k2=.i64)&&decide (0<m)) then some ([leX (.lit (.i 0)) x],.v (.fn 17 [x,.lit (.i m)]) (.int .i64) [] []) else none
  |_=>none
 |_,_=>none
def zpk(op:BinOp):AV→AV→Option (List X×AV)
 |.v x (.int k) _ _,.v y (.int k') _ _=>match op with
  |.shr=>if decide (k=.i64)||decide (k=.u64) then some ([leX (.lit (.i 0)) y,leX y (.lit (.i 64)),.rng k (.fn 8 [x,y])],.v (.fn 8 [x,y]) (.int k) [] []) else none
  |.and=>if decide (k=k')&&(decide (k=.i64)||decide (k=.u64)) then some ([leX (.lit (.i 0)) x,leX (.lit (.i 0)) y],.v (.fn 13 [x,y]) (.int k) [] []) else none
  |.or=>if decide (k=.u64)&&decide (k'=.u64) then some ([leX (.lit (.i 0)) x,leX (.lit (.i 0)) y],.v (.fn 14 [x,y]) (.int k) [] []) else none
  |.shl=>if decide (k=.u64) then some ([leX (.lit (.i 0)) y,leX y (.lit (.i 64))],.v (.fn 15 [x,y]) (.int k) [] []) else none
  |_=>none
 |_,_=>none
def zxm:X→X→Bool
 |.fld _ q,.len (.fld _ z)=>uG q 5&&uG z 0
 |.fld _ q,.lit (.i m)=>uG q 5&&decide (m=3)
 |_,_=>false
def zkb(op:BinOp):AV→AV→Option (List X×AV)
 |.v x (.int .i64) _ _,.v (.fld (.get l (.call f j xs)) q) (.int .i64) _ _=>match op with
  |.add=>some ([],.v (.fn 9 [x,.fld (.get l (.call f j xs)) q]) (.int .i64) [] [])
  |_=>none
 |.v x (.int .i64) _ _,.v y (.int .i64) _ _=>match op with
  |.sub=>if zxm x y then some ([],.v (.fn 18 [x,y]) (.int .i64) [] []) else none
  |_=>none
 |_,_=>none
def z88(K V:TypeId):AV→Option (List X×AV)
 |.v x (.map K' V') _ _=>if uG K' K&&uG V' V then some ([.rng .i64 (.fn 3 [x])],.v (.fn 3 [x]) (.int .i64) [] []) else none
 |_=>none
def z8s(vt:Ty)(xm xk:X)(dep:List Nat):AV:=.v (.fn 0 [xm,xk,.lit (q6c 8 vt)]) vt [] (depF vt dep)
def zq0(K V:TypeId)(kt vt:Ty)(ok:Bool):AV→AV→Option (List X×AV)
 | .v xm (.map K' V') own dep, .v xk kt' _ _ => if uG K' K && (uG V' V && Ty.beq kt' kt) then
   some ([],if ok then .tup [z8s vt xm xk (dep++own.map (·.2)),.v (.fn 1 [xm,xk]) .bool [] []] else z8s vt xm xk (dep++own.map (·.2))) else none
 |_,_=>none
def znc(P:Program)(T:TypeId):Bool:=match P.underlying T with
 |some (.pointer _)=>true
 |some (.func _ _ _)=>true
 |_=>false
def zej(P:Program)(T E:TypeId)(n:Nat):Bool:=match P.underlying T with
 |some (.array m E')=>uG m n&&uG E' E
 |_=>false
def z8g(P:Program)(T:TypeId):AV→AV→Option (List X×AV)
 |.ax k _ _ (.ar E xs dep),.v xi (.int _) _ _=>if zej P T E xs.length then(match qm E with
  |some te=>some ([leX (.lit (.i 0)) xi,ltX xi (.lit (.i (xs.length:Nat)))],.rd (.get (.row xs) xi) te (k * 16::dep) none)
  |none=>none) else none
 |_,_=>none
def zfe(P:Program)(T:TypeId)(lo hi:Option Operand):AV→Option (List X×AV)
 |.ax k _ _ (.ar E xs dep)=>if lo.isNone&&(hi.isNone&&(zej P T E xs.length&&(kS 0 xs.length&&(kS xs.length 1000&&(qm E).isSome)))) then some ([],.v (.row xs) (.row E) [] (k * 16::dep)) else none
 |_=>none
def zi6(σ:St)(cs:List (X×Bool))(x:Operand)(lo hi:Option Operand):Option (List X×AV):=match opd σ cs x,lo,hi with
 |some (.v xs .str _ _),none,some h=>(match opd σ cs h with
  |some (.v xh (.int _) _ _)=>some ([leX (.lit (.i 0)) xh,leX xh (.slen xs)],.v (.fn 12 [xs,xh]) .str [] [])
  |_=>none)
 |_,_,_=>none
def zgm(σ:St)(cs:List (X×Bool))(T:TypeId)(x:Operand)(lo hi:Option Operand):Bool:=match qm T,opd σ cs x,lo,hi with
 |some (.row _),some .nilS,none,some h=>(match opd σ cs h with
  |some (.v (.lit (.i 0)) (.int _) _ _)=>true
  |_=>false)
 |_,_,_,_=>false
def qpx:Ty→Bool
 |.row E=>(match qm E with|some te=>zt 8 te|none=>false)
 |_=>false
def zqu(σ:St)(cs:List (X×Bool))(y:Operand):Option AV:=match y with
 |.tmp t=>(match lkA σ.t t with
  |some (.sn q (.v x ty own dep))=>if qpx ty then some (.sn q (.v x ty own dep)) else opd σ cs y
  |_=>opd σ cs y)
 |_=>opd σ cs y
def quiet(P:Program)(σ:St)(cs:List (X×Bool))(o:Oper):Option (List X×AV):=match o.op with
 |.move x=>(zqu σ cs x).map fun a=>([],a)
 |.assign x=>(opd σ cs x).map fun a=>([],a)
 | .pick c a b => match opd σ cs c with
  | some (.v xc .bool _ _) => match xc with
   |.lit (.b true)=>(opd σ cs a).map fun a=>([],a)
   |.lit (.b false)=>(opd σ cs b).map fun a=>([],a)
   |_=>match opd σ ((xc,true)::cs) a,opd σ ((xc,false)::cs) b with
    |some x,some y=>(zgv xc x y).map fun a=>([],a)
    |_,_=>none
  |_=>none
 |.unOp .not _ x=>match opd σ cs x with
  |some (.v x .bool _ _)=>some ([],.v (z6r x) .bool [] [])
  |_=>none
 | .binOp op T x y _ => match opd σ cs x, opd σ cs y with
  | some a, some b => match zkb op a b with
   |some r=>some r
   | none => (match zq4 op T a b with
    |some r=>some r
    | none => (match zpj op a b with
     |some r=>some r
     |none=>(match zpk op a b with
      |some r=>some r
      |none=>zhs P op T a b)))
  |_,_=>none
 | .load T x => match opd σ cs x with
  | some (.ref k path o t) => match lkA σ.m k with
   |some e=>match q53 e.x e.t e.own path with
    |some (x',t',own',o')=>if Ty.beq t' t&&(uG o' o&&qia T t) then some ([],.v x' t own' (depF t e.dep)) else none
    |none=>none
   |none=>none
  |some (.rd x t dep _)=>if qia T t then some ([],.v x t [] (depF t dep)) else none
  |some (.bx _ _ a)=>if znc P T then some ([],a) else none
  |some (.fr _ a)=>if znc P T then some ([],a) else none
  |_=>none
 | .fieldAddr T x j => match qm T with
  | some (.st S) => match flds S with
   | some fs => match fs[j]? with
    |some t'=>match opd σ cs x with
     |some (.ref k path o (.st _))=>some ([],.ref k (path++[j]) (o+offs fs j) t')
     |some (.rd x (.st S') dep wr)=>if uG S' S then some ([],.rd (.fld x j) t' dep (wr.map fun(pin,i,path,q,te)=>(pin,i,path++[j],q+offs fs j,te))) else none
     |_=>none
    |none=>none
   |none=>none
  |_=>none
 | .field T x j => match qm T with
  | some (.st S) => match flds S with
   | some fs => match fs[j]? with
    |some t'=>match opd σ cs x with
     |some (.v x (.st S') own dep)=>if uG S' S then some ([],.v (.fld x j) t' (qsi (lkA own j)) dep) else none
     |_=>none
    |none=>none
   |none=>none
  |_=>none
 |.nilCheck x=>match opd σ cs x with
  |some (.ref k path o t)=>some ([],.ref k path o t)
  |some (.rd x t dep wr)=>some ([],.rd x t dep wr)
  |_=>none
 | .indexAddr T x i => match qm T with
  | some (.row E) => match qm E with
   |some te=>match(opd σ cs x).bind (qit E),opd σ cs i with
    |some (xr,own,dep),some (.v xi (.int _) _ _)=>some ([leX (.lit (.i 0)) xi,ltX xi (qa8 xr)],.rd (.get xr xi) te (own.map (·.2)++dep) (zup own xi te))
    |_,_=>none
   |none=>none
  |_=>(match opd σ cs x,opd σ cs i with
   |some a,some b=>z8g P T a b
   |_,_=>none)
 | .index T x i => match opd σ cs x, opd σ cs i with
  |some (.v xs .str _ _),some (.v xi (.int _) _ _)=>if qia T .str then some ([leX (.lit (.i 0)) xi,ltX xi (.slen xs)],.v (.sget xs xi) (.int .u8) [] []) else none
  |some (.ar E xs dep),some (.v xi (.int _) _ _)=>if zej P T E xs.length then(match qm E with
   |some te=>some ([leX (.lit (.i 0)) xi,ltX xi (.lit (.i (xs.length:Nat)))],.v (.get (.row xs) xi) te [] dep)
   |none=>none) else none
  |_,_=>none
 |.extract x i=>match opd σ cs x with
  |some (.tup l)=>(l[i]?).map fun a=>([],a)
  |_=>none
 | .slice T x lo hi none => if zgm σ cs T x lo hi then some ([], .nilS) else match qm T with
  | some (.row E) => match (opd σ cs x).bind (qit E) with
   | some (xr, own, dep) => match lo, hi with
    |none,none=>some ([],.v xr (.row E) own dep)
    |none,some h=>match opd σ cs h with
     |some (.v xh (.int _) _ _)=>some ([leX (.lit (.i 0)) xh,leX xh (qa8 xr)],.v (.cut xr (.lit (.i 0)) xh) (.row E) own dep)
     |_=>none
    |some l,none=>match opd σ cs l with
     |some (.v xl (.int _) _ _)=>some ([leX (.lit (.i 0)) xl,leX xl (qa8 xr)],zvn own xl E (.v (.cut xr xl (qa8 xr)) (.row E) [] (own.map (·.2)++dep)))
     |_=>none
    |some l,some h=>match opd σ cs l,opd σ cs h with
     |some (.v xl (.int _) _ _),some (.v xh (.int _) _ _)=>some ([leX (.lit (.i 0)) xl,leX xl xh,leX xh (qa8 xr)],.v (.cut xr xl xh) (.row E) [] (own.map (·.2)++dep))
     |_,_=>none
   |none=>none
  |some .str=>zi6 σ cs x lo hi
  |_=>(opd σ cs x).bind (zfe P T lo hi)
 | .convert S T x => match opd σ cs x with
  |some (.v x (.int k) _ _)=>match qm T with
   |some (.int k')=>if(qm S).isSome then some ([.rng k' x],.v x (.int k') [] []) else none
   |_=>none
  |some (.v x (.row E) _ _)=>if qia T .str&&(qia S (.row E)&&qia E (.int .u8)) then some ([],.v (.fn 10 [x]) .str [] []) else none
  |_=>none
 |.makeFunc (.func f) first captured=>if first.isEmpty then(opds σ cs captured.toList).map fun l=>([],.fn f l) else none
 | .call c => match c.callee, c.args.toList, c.argTypes.toList with
  | .builtin .len, [x], [T] => match opd σ cs x with
   |some (.v x .str _ _)=>if qia T .str then some ([],.v (.slen x) (.int .i64) [] []) else none
   | some a => match qm T with
    |some (.row E)=>match qit E a with
     |some (xr,_,_)=>some ([],.v (qa8 xr) (.int .i64) [] [])
     |none=>none
    |some (.map K V)=>z88 K V a
    |_=>none
   |none=>none
  |.builtin .cap,[x],[T]=>match opd σ cs x,qm T with
   |some .nilS,some (.row _)=>some ([],.v (.lit (.i 0)) (.int .i64) [] [])
   |_,_=>none
  |.builtin .min,[x,y],_=>match opd σ cs x,opd σ cs y with
   |some (.v xa (.int k) _ _),some (.v xb (.int k') _ _)=>if Ty.beq (.int k) (.int k') then some ([],.v (.ite (.lt xb xa) xb xa) (.int k) [] []) else none
   |_,_=>none
  |_,_,_=>none
 | .lookup T m k ok => match qm T with
  | some (.map K V) => match qm K, qm V with
   |some kt,some vt=>if zt 8 kt&& !qbm vt then(match opd σ cs m,opd σ cs k with
    |some a,some b=>zq0 K V kt vt ok a b
    |_,_=>none) else none
   |_,_=>none
  |_=>none
 |_=>none
variable{z:Bool}{vs:List Value}{x:AV}{y:Operand}
section
section
variable{e:Ev}
theorem zjx{cs:List (X×Bool)}(hc:hold e cs=true){y:X×Bool}(h:zwj cs y=true):(y.1.ev e).tt=y.2:=by
 obtain⟨f,hf,h1⟩:=vI.1 h;simp only[gnB,beq_iff_eq] at h1;have:=uH.1 hc f hf;simp only[beq_iff_eq] at this;rw[←X.beq_ok _ _ h1.1,←h1.2];exact this
theorem z7m(x y:X):(ltX x y).ev e=.b (decide ((x.ev e).int<(y.ev e).int)):=by unfold ltX;split<;>rfl
theorem qnk(x y:X):(leX x y).ev e=.b (decide ((x.ev e).int≤(y.ev e).int)):=by unfold leX;split<;>rfl
theorem qfr(x y:X):(eqX x y).ev e=.b (decide (x.ev e=y.ev e)):=by
 unfold eqX;split
 ·rename_i a b
  show D.b (D.beq a b)=.b (decide (a=b))
  congr 1
  rw[uI,D.beq_iff];simp
 ·rfl
theorem qr7(x y:X):(z4r x y).ev e=.i ((x.ev e).int+(y.ev e).int):=by unfold z4r;split<;>rfl
theorem zbx(x y:X):(zl3 x y).ev e=.i ((x.ev e).int - (y.ev e).int):=by unfold zl3;split<;>rfl
theorem zbi(x y:X):(zlo x y).ev e=.i ((x.ev e).int * (y.ev e).int):=by unfold zlo;split<;>rfl
theorem qhp(l:List X):(X.evs e l).length=l.length:=by
 induction l with
 |nil=>rfl
 |cons x l ih=>simp[X.evs,ih]
theorem q4x:∀(x:X),(qa8 x).ev e=.i ((x.ev e).rs.length:Nat)
 |.row l=>by
  show D.i l.length=.i ((D.r (X.evs e l)).rs.length:Nat)
  simp[D.rs,qhp]
 |.put x i y=>by
  show(qa8 x).ev e=.i (((x.ev e).rs.set (i.ev e).int.toNat (y.ev e)).length:Nat)
  rw[q4x x,List.length_set]
 |.lit d=>by cases d<;>rfl
 |.tok _=>rfl
 |.fld _ _=>rfl
 |.get _ _=>rfl
 |.len _=>rfl
 |.slen _=>rfl
 |.sget _ _=>rfl
 |.add _ _=>rfl
 |.sub _ _=>rfl
 |.mul _ _=>rfl
 |.lt _ _=>rfl
 |.le _ _=>rfl
 |.eq _ _=>rfl
 |.not _=>rfl
 |.and _ _=>rfl
 |.or _ _=>rfl
 |.imp _ _=>rfl
 |.ite _ _ _=>rfl
 |.mk _=>rfl
 |.app _ _=>rfl
 |.cut _ _ _=>rfl
 |.set _ _ _=>rfl
 |.rep _ _=>rfl
 |.rng _ _=>rfl
 |.call _ _ _=>rfl
 |.ok _ _=>rfl
 |.fn _ _=>rfl
theorem qhg{x:X}(h:x.ev e=.b z):(z6r x).ev e=.b (!z):=by
 unfold z6r;split
 ·rename_i y;have:D.b y=.b z:=h;injection this with this;subst this;rfl
 ·show D.b (!(x.ev e).tt)=_
  rw[h];rfl
theorem zh3{c x y:X}{b':Bool}(hc:c.ev e=.b z)(h:(if z then x.ev e else y.ev e)=.b b'):(zac c x y).ev e=.b b':=by
  unfold zac;split
  · have:D.b true=.b z:=hc;injection this with this;subst this;exact h
  · have:D.b false=.b z:=hc;injection this with this;subst this;exact h
  · split
    · rw[hc,←h];cases z<;>rfl
    · rw[qhg hc,←h];cases z<;>rfl
    · show D.b ((c.ev e).tt||(y.ev e).tt)=_
      rw[hc];cases z with
      |true=>rw[←h];rfl
      | false =>
        have h':y.ev e=.b b':=h;rw[h'];rfl
    · show D.b ((c.ev e).tt&&(x.ev e).tt)=_
      rw[hc];cases z with
      |false=>rw[←h];rfl
      | true =>
        have h':x.ev e=.b b':=h;rw[h'];rfl
    · show(if(c.ev e).tt then x.ev e else y.ev e)=_
      rw[hc];exact h
end
section
variable{c:Cx}{p:qj}{w:World}{a:Act}{σ:St}{cs:List (X×Bool)}
theorem Con.int{k:IntKind}{own:List (Nat×Nat)}(h:Con c.A p w d (.int k) own dep vs):∃n,d=.i n∧vs=[.int k n]∧ji k n=true:=by
 have h1:Fl c.A p w dep (lkA own 0) d (.int k) vs:=h;cases ho:lkA own 0 with
 |some pin=>
  rw[ho] at h1;rcases h1 with⟨E,te,l,v,e,-⟩|⟨K,V,kt,vt,l,g,es,clock,e,-⟩<;>cases e
 |none=>
  rw[ho] at h1;have h2:Rd w (FFD c.A p dep) d (.int k) vs:=h1;cases d<;>simp only[Rd,reduceCtorEq,false_and,exists_false,and_false] at h2;obtain⟨k',e,rfl,hr⟩:=h2;injection e with e;subst e;exact⟨_,rfl,rfl,hr⟩
theorem Con.bool{own:List (Nat×Nat)}(h:Con c.A p w d .bool own dep vs):∃z,d=.b z∧vs=[.bool z]:=by
 have h1:Fl c.A p w dep (lkA own 0) d .bool vs:=h;cases ho:lkA own 0 with
 |some pin=>
  rw[ho] at h1;rcases h1 with⟨E,te,l,v,e,-⟩|⟨K,V,kt,vt,l,g,es,clock,e,-⟩<;>cases e
 |none=>
  rw[ho] at h1;have h2:Rd w (FFD c.A p dep) d .bool vs:=h1;cases d<;>simp only[Rd,reduceCtorEq,false_and,exists_false,and_false] at h2;exact⟨_,rfl,h2.2⟩
theorem Con.str{own:List (Nat×Nat)}(h:Con c.A p w d .str own dep vs):∃s,d=.s s∧vs=[.string s]∧s.size≤LIM:=by
 have h1:Fl c.A p w dep (lkA own 0) d .str vs:=h;cases ho:lkA own 0 with
 |some pin=>
  rw[ho] at h1;rcases h1 with⟨E,te,l,v,e,-⟩|⟨K,V,kt,vt,l,g,es,clock,e,-⟩<;>cases e
 |none=>
  rw[ho] at h1;have h2:Rd w (FFD c.A p dep) d .str vs:=h1;cases d<;>simp only[Rd,reduceCtorEq,false_and,exists_false,and_false] at h2;exact⟨_,rfl,h2.2⟩
theorem q0j{x:X}{k:IntKind}{own:List (Nat×Nat)}{v:Value}(h:(AV.v x (.int k) own dep).pd c p w v):∃n,x.ev c.v=.i n∧v=.int k n∧ji k n=true:=by
 obtain⟨vs,hp,hc⟩:=h;obtain⟨n,e,rfl,hr⟩:=hc.int;have:[Value.int k n]=[v]:=hp;injection this with this;exact⟨n,e,this.symm,hr⟩
theorem q2v{x:X}{own:List (Nat×Nat)}{v:Value}(h:(AV.v x .bool own dep).pd c p w v):∃z,x.ev c.v=.b z∧v=.bool z:=by
 obtain⟨vs,hp,hc⟩:=h;obtain⟨n,e,rfl⟩:=hc.bool;have:[Value.bool n]=[v]:=hp;injection this with this;exact⟨n,e,this.symm⟩
theorem qja{x:X}{own:List (Nat×Nat)}{v:Value}(h:(AV.v x .str own dep).pd c p w v):∃s,x.ev c.v=.s s∧v=.string s∧s.size≤LIM:=by
 obtain⟨vs,hp,hc⟩:=h;obtain⟨n,e,rfl,hr⟩:=hc.str;have:[Value.string n]=[v]:=hp;injection this with this;exact⟨n,e,this.symm,hr⟩
theorem q3i{x:X}{k:IntKind}{n:Int}(h:x.ev c.v=.i n)(hr:ji k n=true):(AV.v x (.int k) [] []).pd c p w (.int k n):=⟨[.int k n],rfl,by
 rw[h];exact⟨k,rfl,rfl,hr⟩⟩
theorem q1f{x:X}(h:x.ev c.v=.b z):(AV.v x .bool [] []).pd c p w (.bool z):=⟨[.bool z],rfl,by
 rw[h];exact⟨rfl,rfl⟩⟩
theorem z0g{x:X}{s:ByteArray}(h:x.ev c.v=.s s)(hr:s.size≤LIM):(AV.v x .str [] []).pd c p w (.string s):=⟨[.string s],rfl,by
 rw[h];exact⟨rfl,rfl,hr⟩⟩
theorem zsc{v:Value}(h:cAV v=some x):x.pd c p w v:=by
 unfold cAV at h;split at h
 ·split at h
  ·rename_i hr;injection h with h;subst h;exact q3i rfl hr
  ·cases h
 ·injection h with h;subst h;exact q1f rfl
 ·split at h
  ·rename_i s hr;injection h with h;subst h;have hr':s.size≤1000000:=by simpa using hr
   exact z0g rfl (by unfold LIM;omega)
  ·cases h
 ·injection h with h;subst h;rfl
 ·injection h with h;subst h;rfl
 ·cases h
theorem zlw{v:Value}(h:x.pd c p w v):(zsw x).pd c p w v:=by
 unfold zsw;split
 ·exact h.2
 ·exact h
theorem zjr(hc:hold c.v cs=true){v:Value}(h:x.pd c p w v):(strip cs x).pd c p w v:=by
 unfold strip;split
 ·rename_i c' a';split
  ·rename_i hm;refine zlw (h.1 (uH.2 fun y hy=>?_));have:=zjx hc (uH.1 hm y hy);simp[this]
  ·trivial
 ·exact h.2
 ·exact h
theorem qo(hf:SF c σ p w a)(hc:hold c.v cs=true)(h:opd σ cs y=some x):x.pd c p w (a.eval y):=by
 cases y with
 | tmp t =>
  simp only[opd,uJ] at h;obtain⟨z,hz,rfl⟩:=h;obtain⟨v,h1,h2⟩:=hf.t t z hz;have:a.eval (.tmp t)=v:=by
   show a.tmps.getD t undef=v
   rw[uY,h1];rfl
  rw[this];exact zjr hc h2
 |const v=>exact zsc h
 |func f=>
  simp only[opd,uT] at h;subst h;exact⟨[],rfl,rfl⟩
 |global g=>cases h
theorem z1d(hf:SF c σ p w a)(hc:hold c.v cs=true):∀{l:List Operand}{r:List AV},opds σ cs l=some r→pds c p w r (l.map a.eval)
 |[],r,h=>by
  simp only[opds,uT] at h;subst h;rfl
 | x :: l, r, h => by
  simp only[opds] at h;split at h
  ·rename_i y z hy hz;injection h with h;subst h;exact⟨_,_,rfl,qo hf hc hy,z1d hf hc hz⟩
  ·cases h
theorem Con.sub{t:Ty}(h:Fl c.A p w dep o d t vs):Con c.A p w d t (qsi o) dep vs:=by
 cases o with
 |none=>exact Con.of_rd h
 |some pin=>
  rcases h with⟨E,te,l,v,rfl,h1⟩|⟨K,V,kt,vt,l,g,es,clock,rfl,h1⟩
  ·exact .inl ⟨E,te,l,v,rfl,h1⟩
  ·exact .inr ⟨K,V,kt,vt,l,g,es,clock,rfl,h1⟩
theorem Fls.get{own:List (Nat×Nat)}:∀{l:List D}{n:Nat}{fs:List Ty}{vs:List Value}{j:Nat}{t:Ty},Fls c.A p w dep own n l fs vs→fs[j]? =some t→
  ∃c0 c1 c2,vs=c0++(c1++c2)∧c0.length=offs fs j∧Fl c.A p w dep (lkA own (n+j)) (l.getD j .u) t c1
 |[],n,fs,vs,j,t,⟨h1,h2⟩,hj=>by subst h1;simp at hj
 | d :: l, n, fs, vs, j, t, ⟨t0, ts, c1, c2, h1, h2, h3, h4⟩, hj => by
  subst h1 h2;cases j with
  |zero=>
   simp at hj;subst hj;exact⟨[],c1,c2,rfl,by simp[qak],h3⟩
  |succ j=>
   obtain⟨a0,a1,a2,e2,e3,e4⟩:=Fls.get h4 (by simpa using hj);have hl:c1.length=t0.w:=(Rd.len d (h3.rd (dep':=dep++own.map (·.2)) (fun x hx=>uD _ hx) (fun x hx=>uC _ (qab hx)))).1;refine⟨c1++a0,a1,a2,by rw[e2];simp,by rw[uM,e3,hl,qaf],?_⟩;rw[show n+(j+1)=n+1+j by omega];simpa using e4
theorem Con.get{fs:List Ty}{own:List (Nat×Nat)}{t:Ty}(h:Con c.A p w d (.st S) own dep vs)(hf:flds S=some fs)(hj:fs[j]? =some t):
  ∃c0 c1 c2,vs=c0++(c1++c2)∧c0.length=offs fs j∧Fl c.A p w dep (lkA own j) (d.fld j) t c1:=by
 obtain⟨fs',ds,hf',rfl,h⟩:=h;obtain rfl:=gnI (hf'.symm.trans hf);have:=Fls.get h hj;rw[uZ] at this;exact this
theorem z4i:∀(path:List Nat){x x':X}{t t':Ty}{own own':List (Nat×Nat)}{dep:List Nat}{o:Nat}{vs:List Value},q53 x t own path=some (x',t',own',o)→Con c.A p w (x.ev c.v) t own dep vs→
  ∃c0 c1 c2,vs=c0++(c1++c2)∧c0.length=o∧Con c.A p w (x'.ev c.v) t' own' dep c1
 |[],x,x',t,t',own,own',dep,o,vs,h,hc=>by
  simp only[q53,gnS] at h;obtain⟨rfl,rfl,rfl,rfl⟩:=h;exact⟨[],vs,[],by simp,rfl,hc⟩
 | j :: path, x, x', t, t', own, own', dep, o, vs, h, hc => by
  unfold q53 at h;split at h
  ·rename_i S;split at h
   ·rename_i fs hfs;split at h
    ·rename_i tj hj;split at h
     ·rename_i x1 t1 own1 o1 hr;simp only[gnS] at h;obtain⟨rfl,rfl,rfl,rfl⟩:=h;obtain⟨c0,c1,c2,rfl,hl,hfl⟩:=hc.get hfs hj;obtain⟨b0,b1,b2,rfl,hl',hcc⟩:=z4i path (x:=.fld x j) hr (Con.sub hfl);exact⟨c0++b0,b1,b2++c2,by simp,by simp[hl,hl'],hcc⟩
     ·cases h
    ·cases h
   ·cases h
  ·cases h
theorem q3j{t:Ty}(h:qia T t=true):qm T=some t:=by
 unfold qia at h;split at h
 ·rename_i t' ht;rw[ht,(Ty.beq_iff _ _).1 h]
 ·cases h
theorem q94(hte:qm E=some te){y:AV}{x:X}{own:List (Nat×Nat)}{v:Value}(h:qit E y=some (x,own,dep))(hy:y.pd c p w v):Con c.A p w (x.ev c.v) (.row E) own dep [v]:=by
 unfold qit at h;split at h
 ·rename_i x' E' own' dep';split at h
  ·rename_i he;have:=gnN he;subst this;simp only[gnS] at h;obtain⟨rfl,rfl,rfl⟩:=h;obtain⟨vs,hp,hc⟩:=hy;obtain rfl:vs=[v]:=hp;exact hc
  ·cases h
 ·simp only[gnS] at h;obtain⟨rfl,rfl,rfl⟩:=h;obtain rfl:v=.slice none 0 0:=hy;exact⟨E,te,none,0,rfl,hte,rfl,by simp,by simp,by simp[maxLen],by simp[RdE]⟩
 ·rename_i pin i0 E0 x' E' own' dep';split at h
  ·rename_i he;have:=gnN he;subst this;simp only[gnS] at h;obtain⟨rfl,rfl,rfl⟩:=h;obtain⟨-,vs,hp,hc⟩:=hy;obtain rfl:vs=[v]:=hp;exact hc
  ·cases h
 ·cases h
theorem Con.row{own:List (Nat×Nat)}{v:Value}(h:Con c.A p w d (.row E) own dep [v]):∃te A cap,qm E=some te∧d=.r d.rs∧v=.slice A d.rs.length cap∧d.rs.length≤cap∧d.rs.length≤LM te∧cap≤maxLen∧RdE w (FFD c.A p (own.map (·.2)++dep)) d.rs te A 0:=by
 have h1:=h.rd (dep':=own.map (·.2)++dep) (fun x hx=>uC _ hx) (fun x hx=>uD _ hx);cases d<;>simp only[Rd,reduceCtorEq,false_and,exists_false,and_false] at h1;obtain⟨E',te,A,cap,e,hte,e2,h2,h3,h4,h5⟩:=h1;injection e with e;subst e;injection e2 with e2;exact⟨te,A,cap,hte,rfl,e2,h2,h3,h4,h5⟩
end
end
variable{g:Nat}{c:Cx}{p:qj}
section
section
variable{c:Cx}{p:qj}{w:World}{a:Act}{σ:St}{cs:List (X×Bool)}{o:Oper}
def q7p(o:Oper)(a:Act)(c:Cx)(p:qj)(w:World)(x:AV):Prop:=∃v,(execOp a.eval o).run uA w=.ok (.value v) w∧x.pd c p w v
theorem qrj{x y:X}(h:(ltX x y).says c.v):(x.ev c.v).int<(y.ev c.v).int:=by
 unfold X.says at h;rw[z7m] at h;simpa[D.tt] using h
theorem q0c{x y:X}(h:(leX x y).says c.v):(x.ev c.v).int≤(y.ev c.v).int:=by
 unfold X.says at h;rw[qnk] at h;simpa[D.tt] using h
theorem qeg{T':TypeId}(h:znc uA T=true)(hh:w.heap[g]? =some (.cells #[u] T' (0,0))):(Instr.loadAt T (.pointer (some ⟨g,0,none⟩))).run uA w=.ok u w:=by
 have ha:(isAgg T).run uA w=.ok false w:=by
  unfold znc at h;split at h
  ·rename_i e hu;simp[isAgg,run_underlying hu]
  ·rename_i e _ _ hu;simp[isAgg,run_underlying hu]
  ·cases h
 have hc:w.cell? ⟨g,0,none⟩=some u:=by
  rw[cell_of_row w g 0 _ T' (0,0) hh];rfl
 simp only[Instr.loadAt,Instr.sureAddr,loadVar,uE,uK,uB,ha];simp[hc]
theorem zs8(hf:SF c σ p w a)(hc:hold c.v cs=true)(heq:o.op=.load T y){ns:List X}(h:quiet uA σ cs o=some (ns,x)):q7p o a c p w x:=by
 simp only[quiet,heq] at h;split at h
 ·rename_i k path o' t hy;obtain⟨g,hg,hev,hat0⟩:=qo hf hc hy;split at h
  ·rename_i e he;obtain⟨g',vs,T',hg',hh,hty,hcon⟩:=hf.m k e he;obtain rfl:g=g':=gnI (hg.symm.trans hg');split at h
   ·rename_i x' t' own' o1 hat;split at h
    ·rename_i hok;simp only[gnB] at hok;obtain⟨h1,h2,h3⟩:=hok;rw[Ty.beq_iff] at h1;have h2':=gnN h2;subst h1 h2';simp only[gnS] at h;obtain⟨rfl,rfl⟩:=h;obtain⟨c0,c1,c2,hvs,hl,hcc⟩:=z4i path hat hcon;have hr:w.rangeAt g o1 c1:=fun j v hj=>by
      rw[cell_of_row w g (o1+j) vs T' (0,0) hh,←vA,hvs,←hl,kT (by omega),kX (by have:=(gnH.1 hj).1;omega)];simpa using hj
     obtain⟨v,hv,hp⟩:=q8t (q3j h3) hr (hcc.rd (dep':=own'.map (·.2)++e.dep) (fun x hx=>uC _ hx) (fun x hx=>uD _ hx));refine⟨v,?_,c1,hp,hcc.depF⟩;generalize a.eval=r at *;simp[execOp,heq,hev,hv]
    ·cases h
   ·cases h
  ·cases h
 ·rename_i x' t dep wr hy;obtain⟨b,o1,vs,hev,hb,hr,h0,hd,-⟩:=qo hf hc hy;split at h
  ·rename_i h3;simp only[gnS] at h;obtain⟨rfl,rfl⟩:=h;obtain⟨v,hv,hp⟩:=q8t (q3j h3) hr hd;refine⟨v,?_,vs,hp,(Con.of_rd hd).depF⟩;generalize a.eval=r at *;simp[execOp,heq,hev,hv]
  ·cases h
 ·rename_i k T' b hy;split at h
  ·rename_i h3;simp only[gnS] at h;obtain⟨rfl,rfl⟩:=h;obtain⟨g,u,hg,hev,hh,hu⟩:=qo hf hc hy;refine⟨u,?_,hu⟩;have hl:=qeg (w:=w) h3 hh;generalize a.eval=r at *;simp[execOp,heq,hev,hl]
  ·cases h
 ·rename_i T' b hy;split at h
  ·rename_i h3;simp only[gnS] at h;obtain⟨rfl,rfl⟩:=h;obtain⟨g,u,-,-,hev,hh,hu⟩:=qo hf hc hy;refine⟨u,?_,hu⟩;have hl:=qeg (w:=w) h3 hh;generalize a.eval=r at *;simp[execOp,heq,hev,hl]
  ·cases h
 ·cases h
theorem z6e(hf:SF c σ p w a)(hc:hold c.v cs=true)(heq:o.op=.fieldAddr T y j){ns:List X}(h:quiet uA σ cs o=some (ns,x)):q7p o a c p w x:=by
 simp only[quiet,heq] at h;split at h
 ·rename_i S hT;split at h
  ·rename_i fs hfs;split at h
   ·rename_i t' hj;split at h
    ·rename_i k path o' S' hy;obtain⟨g,hg,hev,hat0⟩:=qo hf hc hy;simp only[gnS] at h;obtain⟨rfl,rfl⟩:=h;refine⟨_,?_,g,hg,rfl,hat0⟩;have:=qar (w:=w) hT hfs hj g o';generalize a.eval=r at *;simp[execOp,heq,hev,this]
    ·rename_i x' S' dep wr hy;obtain⟨b,o1,vs,hev,hb,hr,h0,hd,hw⟩:=qo hf hc hy;split at h
     ·rename_i hS;have hS':=gnN hS;subst hS';simp only[gnS] at h;obtain⟨rfl,rfl⟩:=h;have hcon:=(Con.of_rd hd).get hfs hj;obtain⟨c0,c1,c2,hvs,hl,hfl⟩:=hcon;have hrd:Rd w (FFD c.A p dep) ((x'.ev c.v).fld j) t' c1:=hfl;have hpos:0<t'.w:=(qrq hfs).2 _ (vC hj);refine⟨_,?_,b,o1+offs fs j,c1,rfl,hb,fun i v hi=>?_,by rw[(Rd.len _ hrd).1];exact hpos,hrd,?_⟩
      ·have:=qar (w:=w) hT hfs hj b o1;generalize a.eval=r at *;simp[execOp,heq,hev,this]
      ·rw[kI];refine hr _ v ?_;rw[hvs,←hl,kT (by omega),kX (by have:=(gnH.1 hi).1;omega)];simpa using hi
      ·match wr,hw with
       |none,hw=>trivial
       |some (pin,i,pt,q,te),hw=>exact⟨hw.1,by have:=hw.2.1;show _=(i.ev c.v).int.toNat * te.w+(q+offs fs j);omega,hw.2.2⟩
     ·cases h
    ·cases h
   ·cases h
  ·cases h
 ·cases h
theorem zp4(hf:SF c σ p w a)(hc:hold c.v cs=true)(heq:o.op=.field T y j){ns:List X}(h:quiet uA σ cs o=some (ns,x)):q7p o a c p w x:=by
 simp only[quiet,heq] at h;split at h
 ·rename_i S hT;split at h
  ·rename_i fs hfs;split at h
   ·rename_i t' hj;split at h
    ·rename_i x' S' own dep hy;obtain⟨vs,hpk,hcon⟩:=qo hf hc hy;split at h
     ·rename_i hS;have hS':=gnN hS;subst hS';simp only[gnS] at h;obtain⟨rfl,rfl⟩:=h;obtain⟨c0,c1,c2,rfl,hl,hfl⟩:=hcon.get hfs hj;have hev:a.eval y=.agg (c0++(c1++c2)).toArray:=hpk;obtain⟨v,hv,hp⟩:=z0k (c2:=c2) hT hfs hj hl (hfl.rd (dep':=own.map (·.2)++dep) (fun x hx=>uC _ hx) (fun x hx=>uD _ (qab hx)));refine⟨v,?_,c1,hp,Con.sub hfl⟩;generalize a.eval=r at *;simp only[execOp,heq,hev,uE,hv,uB,uK]
     ·cases h
    ·cases h
   ·cases h
  ·cases h
 ·cases h
theorem q81{e:Ev}:∀(l:List X),(X.evs e l).length=l.length
 |[]=>rfl
 |x::l=>by simp[X.evs,q81 l]
theorem z9e{e:Ev}:∀{l:List X}{i:Nat}{x:X},l[i]? =some x→(X.evs e l)[i]? =some (x.ev e)
 |[],i,x,h=>by simp at h
 |y::l,0,x,h=>by simp at h;subst h;rfl
 |y::l,i+1,x,h=>by
  have:=z9e (e:=e) (l:=l) (i:=i) (x:=x) (by simpa using h);simpa[X.evs] using this
theorem zaj{n:Nat}(h:zej uA T E n=true):uA.underlying T=some (.array n E):=by
 unfold zej at h;split at h
 ·rename_i m E' hu;simp only[gnB] at h;rw[←gnN h.1,←gnN h.2];exact hu
 ·cases h
theorem z8p.at{w:World}{xs:List X}{cs:Array Value}(h:z8p c p w E xs dep (.agg cs))(hg:w.heap[g]? =some (.cells cs T (0,0)))(hte:qm E=some te){m:Nat}(hm:m<xs.length):∃vs,w.rangeAt g (m * te.w) vs∧Rd w (FFD c.A p dep) ((X.evs c.v xs).getD m .u) te vs:=by
 obtain⟨te',l,hte',e,hl,hr⟩:=h;obtain rfl:=gnI (hte'.symm.trans hte);injection e with e;subst e;have hl2:(X.evs c.v xs).length=xs.length:=q81 xs;refine⟨(l.drop (m * te'.w)).take te'.w,fun j v hj=>?_,?_⟩
 ·rw[cell_of_row w g _ _ T (0,0) hg,←vA];rw[List.getElem?_take] at hj;split at hj
  ·rw[List.getElem?_drop] at hj;exact hj
  ·cases hj
 ·refine hr m _ ?_;rw[gnG,gnK (by omega)];rfl
theorem FFD.one{A:Nat→Prop}{x:Nat}(h:p x=some g):FFD A p (x::dep) g:=.inr ⟨x,uL,h⟩
theorem zij(hf:SF c σ p w a)(hc:hold c.v cs=true){i:Operand}(heq:o.op=.indexAddr T y i){b1 b2:AV}(h1:opd σ cs y=some b1)(h2:opd σ cs i=some b2){ns:List X}(h:z8g uA T b1 b2=some (ns,x))(hn:∀n∈ns,n.says c.v):q7p o a c p w x:=by
 unfold z8g at h;split at h
 ·rename_i k T' n E xs dep xi kk own' dep';split at h
  ·rename_i hT;split at h
   ·rename_i te hte;simp only[gnS] at h;obtain⟨rfl,rfl⟩:=h;obtain⟨g,cells,⟨hp,-⟩,hev,hh,-,har⟩:=qo hf hc h1;obtain⟨m,hm,hiv,hmr⟩:=q0j (qo hf hc h2);have n1:=q0c (x:=.lit (.i 0)) (y:=xi) (hn _ (by simp));have n2:=qrj (x:=xi) (y:=.lit (.i (xs.length:Nat))) (hn _ (by simp));rw[hm] at n1 n2;simp only[X.ev,D.int] at n1 n2;have hlt:m.toNat<xs.length:=by omega
    obtain⟨vs,hr,hrd⟩:=z8p.at har hh hte hlt;have hidx:(Instr.indexAt T (.pointer (some ⟨g,0,none⟩)) (.int kk m)).run uA w=.ok (.pointer (some ⟨g,m.toNat * te.w,none⟩)) w:=by
     simp only[Instr.indexAt,asIntOf,uE,uK,run_underlying (zaj hT),uB,Instr.sureAddr];rw[if_pos ⟨n1,n2⟩];simp[q0x hte,Addr.mid_eq]
    have hget:(X.get (.row xs) xi).ev c.v=(X.evs c.v xs).getD m.toNat .u:=by
     show(D.r (X.evs c.v xs)).rs.getD (xi.ev c.v).int.toNat .u=_
     rw[hm];rfl
    refine⟨_,?_,g,m.toNat * te.w,vs,rfl,FFD.one hp,hr,?_,?_,trivial⟩
    ·generalize a.eval=r at *;simp only[execOp,heq,hev,hiv,uE,hidx,uB,uK]
    ·rw[(Rd.len _ hrd).1];exact q3g hte
    ·rw[hget];exact hrd.mono fun b _ hb=>hb.mono fun x hx=>uF _ hx
   ·cases h
  ·cases h
 ·cases h
theorem z3j(hf:SF c σ p w a)(hc:hold c.v cs=true){i:Operand}(heq:o.op=.indexAddr T y i){ns:List X}(h:quiet uA σ cs o=some (ns,x))(hn:∀n∈ns,n.says c.v):q7p o a c p w x:=by
 simp only[quiet,heq] at h;split at h
 ·rename_i E hT;split at h
  ·rename_i te hte;split at h
   ·rename_i xr own dep xi k own' dep' hy hi;obtain⟨y',hy1,hy2⟩:=uR.1 hy;have hcon:=q94 hte hy2 (qo hf hc hy1);obtain⟨m,hm,hiv,hmr⟩:=q0j (qo hf hc hi);simp only[gnS] at h;obtain⟨rfl,rfl⟩:=h;have n1:=q0c (x:=.lit (.i 0)) (y:=xi) (hn _ (by simp));have n2:=qrj (x:=xi) (y:=qa8 xr) (hn _ (by simp));rw[hm] at n1 n2;rw[q4x] at n2;simp only[X.ev,D.int] at n1 n2;obtain⟨te',A,cap,hte',hd,hev,h1,h2,h3,hE⟩:=hcon.row;obtain rfl:=gnI (hte'.symm.trans hte);have hlt:m.toNat<(xr.ev c.v).rs.length:=by omega
    obtain⟨b,q,vs,rfl,hF,hr,hrd⟩:=q1r.1 hE m.toNat hlt;rw[uZ] at hr;have hget:(X.get xr xi).ev c.v=(xr.ev c.v).rs[m.toNat]:=by
     show(xr.ev c.v).rs.getD (xi.ev c.v).int.toNat .u=_
     rw[hm];simp[D.int,gnG,gnK hlt]
    have hidx:=qs8 (w:=w) (b:=b) (o:=q) (cap:=cap) (k:=k) hT hte n1 n2;refine⟨_,?_,b,q+m.toNat * te'.w,vs,rfl,hF,hr,?_,?_,?_⟩
    ·generalize a.eval=r at *;simp only[execOp,heq,hev,hiv,uE,hidx,uB,uK]
    ·rw[(Rd.len _ hrd).1];exact q3g hte
    ·rw[hget];exact hrd
    ·unfold zup;split
     ·rename_i pin ho;have hcf:Fl c.A p w dep (lkA own 0) (xr.ev c.v) (.row E) [a.eval y]:=hcon;rw[ho] at hcf;rcases hcf.symm with⟨K,V,kt,vt,lm,gm,es,clock,em,-⟩|⟨E',te'',l,v,e1,hte2,hl,hv,hown⟩
      ·cases em
      injection hv with hv;rcases hown with⟨e2,rfl⟩|⟨g,cap',cur,e2,hg,hblk,-⟩
      ·rw[hl] at hlt;simp[D.rs] at hlt
      ·rw[←hv,hev] at e2;injection e2 with e2;injection e2 with e2;injection e2 with e2 e3;subst e2 e3;injection e1 with e1;subst e1;refine⟨hg,?_,cur,E,hblk,hte⟩;rw[hm];simp[D.int]
     ·trivial
   ·cases h
  ·cases h
 ·split at h
  ·rename_i h1 h2;exact zij hf hc heq h1 h2 h hn
  ·cases h
theorem zm0(hf:SF c σ p w a)(hc:hold c.v cs=true){i:Operand}(heq:o.op=.index T y i){ns:List X}(h:quiet uA σ cs o=some (ns,x))(hn:∀n∈ns,n.says c.v):q7p o a c p w x:=by
 simp only[quiet,heq] at h;split at h
 ·rename_i xs _ _ xi k _ _ hy hi;obtain⟨s,hs,hsv,hsl⟩:=qja (qo hf hc hy);obtain⟨m,hm,hiv,hmr⟩:=q0j (qo hf hc hi);split at h
  ·rename_i hT;simp only[gnS] at h;obtain⟨rfl,rfl⟩:=h;have n1:=q0c (x:=.lit (.i 0)) (y:=xi) (hn _ (by simp));have n2:=qrj (x:=xi) (y:=.slen xs) (hn _ (by simp));rw[hm] at n1 n2;simp only[X.ev,D.int,hs,D.str] at n1 n2;have hlt:m.toNat<s.size:=by omega
   refine⟨.int .u8 s[m.toNat].toNat,?_,q3i (n:=s[m.toNat].toNat) ?_ ?_⟩
   ·have hu:=(q4m (q3j hT)).1;have h0:(0:Int)≤m:=n1;generalize a.eval=r at *;simp[execOp,heq,hsv,hiv,Instr.index,asIntOf,run_underlying hu,h0,hlt]
   ·show D.i _=_
    rw[hs,hm];have e1:s.data.getD m.toNat 0=s[m.toNat]:=by
     rw[uY,uQ (by exact hlt)];rfl
    simp only[D.str,D.int,e1]
   ·have:=s[m.toNat].toNat_lt;simp[ji];omega
  ·cases h
 ·rename_i E xs dep xi k _ _ hy hi;split at h
  ·rename_i hT;split at h
   ·rename_i te hte;simp only[gnS] at h;obtain⟨rfl,rfl⟩:=h;obtain⟨te',cs',hte',hev,hlen,hel⟩:=qo hf hc hy;obtain rfl:=gnI (hte'.symm.trans hte);obtain⟨m,hm,hiv,hmr⟩:=q0j (qo hf hc hi);have n1:=q0c (x:=.lit (.i 0)) (y:=xi) (hn _ (by simp));have n2:=qrj (x:=xi) (y:=.lit (.i (xs.length:Nat))) (hn _ (by simp));rw[hm] at n1 n2;simp only[X.ev,D.int] at n1 n2;have hu:uA.underlying T=some (.array xs.length E):=by
     unfold zej at hT;split at hT
     ·rename_i m' E' hu;simp only[gnB] at hT;rw[hu,gnN hT.1,gnN hT.2]
     ·cases hT
    have hlt:m.toNat<xs.length:=by omega
    have hl2:(X.evs c.v xs).length=xs.length:=q81 xs;have hrd:=hel m.toNat (X.evs c.v xs)[m.toNat] (gnK (by omega));have hle:m.toNat * te'.w+te'.w≤cs'.length:=by
     rw[hlen];have:(m.toNat+1) * te'.w≤xs.length * te'.w:=Nat.mul_le_mul_right _ hlt;rw[vT] at this;omega
    obtain⟨v,hv,hp⟩:=q93 (w:=w) hte (c0:=cs'.take (m.toNat * te'.w)) (c1:=(cs'.drop (m.toNat * te'.w)).take te'.w) (c2:=(cs'.drop (m.toNat * te'.w)).drop te'.w) (o:=m.toNat * te'.w) (by rw[List.length_take];omega) hrd;rw[vB,vB] at hv;refine⟨v,?_,_,hp,?_⟩
    ·have h0:(0:Int)≤m:=n1;generalize a.eval=r at *;simp[execOp,heq,hev,hiv,Instr.index,asIntOf,run_underlying hu,h0,n2,q0x hte,hv]
    ·have hx:(X.get (.row xs) xi).ev c.v=(X.evs c.v xs)[m.toNat]:=by
      show(D.r (X.evs c.v xs)).get (xi.ev c.v).int=_
      rw[hm];simp[D.get,D.rs,D.int,gnG,gnK (show m.toNat<(X.evs c.v xs).length by omega)]
     rw[hx];exact Con.of_rd hrd
   ·cases h
  ·cases h
 ·cases h
end
end
variable{op:BinOp}
section
section
variable{c:Cx}{p:qj}{w:World}{a:Act}{σ:St}{cs:List (X×Bool)}{o:Oper}
theorem qc2{k:IntKind}{n:Int}(h:ji k n=true):k.wrap n=n:=by
 unfold ji at h;split at h
 ·simp only[gnB,gnD] at h;simp only[IntKind.wrap,IntKind.bits,IntKind.signed];simp;split<;>omega
 ·simp only[gnB,gnD] at h;simp only[IntKind.wrap,IntKind.bits,IntKind.signed];simp;omega
 ·simp only[gnB,gnD] at h;simp only[IntKind.wrap,IntKind.bits,IntKind.signed];simp;omega
 ·simp only[gnB,gnD] at h;simp only[IntKind.wrap,IntKind.bits,IntKind.signed];simp;split<;>omega
 ·cases h
theorem z61(n:Int):ji .i64 (IntKind.wrap .i64 n)=true:=by
 simp only[ji,IntKind.wrap,IntKind.bits,IntKind.signed,gnB,gnD];simp;split<;>omega
theorem z9h(m n:ByteArray):decide (D.s m=D.s n)=(m.toList==n.toList):=by
 rw[uI];simp only[beq_iff_eq,gnD,D.s.injEq];exact⟨fun e=>by rw[e],str_inj⟩
theorem z5x{w:World}(d:Nat){e:TypeId}(hu:uA.underlying T=some (.slice e))(A:Option Addr)(n cap:Nat):(Op.equalIn (d+1) T (.slice A n cap) (.slice none 0 0)).run uA w=.ok A.isNone w:=by
 cases A<;>simp[Op.equalIn,run_underlying hu]
theorem z2l(T:TypeId)(x y:Option Addr):binOp .eql T (.pointer x) (.pointer y)=(do pure (.bool (←Op.equal T (.pointer x) (.pointer y)))):=rfl
theorem z1w(T:TypeId)(x y:Option Addr):binOp .neq T (.pointer x) (.pointer y)=(do pure (.bool (!(←Op.equal T (.pointer x) (.pointer y))))):=rfl
theorem qg7{k:IntKind}{x:X}(h:(X.rng k x).says c.v):ji k (x.ev c.v).int=true:=h
theorem zf4{u:TypeId}{x:Operand}(heq:o.op=.binOp op T x y u){xa ya:X}{k:IntKind}{m n:Int}(hm:xa.ev c.v=.i m)(hn:ya.ev c.v=.i n)(hx:a.eval x=.int k m)(hy:a.eval y=.int k n)
  {ns:List X}{r:AV}(h:(match zsp op with
   |.rel f=>some (([]:List X),AV.v (f xa ya) .bool [] [])
   |.ari f=>some ([.rng k (f xa ya)],.v (f xa ya) (.int k) [] [])
   |.no=>none)=some (ns,r))(hs:∀n∈ns,n.says c.v):q7p o a c p w r:=by
 cases op<;>simp only[zsp,gnS,reduceCtorEq] at h<;>obtain⟨rfl,rfl⟩:=h
 case add=>
  have h1:=qg7 (k:=k) (x:=z4r xa ya) (hs _ (by simp));rw[qr7,hm,hn] at h1;simp only[D.int] at h1;refine⟨.int k (m+n),?_,q3i (by rw[qr7,hm,hn];rfl) h1⟩;have:=qc2 h1;generalize a.eval=r at *;simp[execOp,heq,hx,hy,eqGuard,binOp,Op.intArith,this]
 case sub=>
  have h1:=qg7 (k:=k) (x:=zl3 xa ya) (hs _ (by simp));rw[zbx,hm,hn] at h1;simp only[D.int] at h1;refine⟨.int k (m - n),?_,q3i (by rw[zbx,hm,hn];rfl) h1⟩;have:=qc2 h1;generalize a.eval=r at *;simp[execOp,heq,hx,hy,eqGuard,binOp,Op.intArith,this]
 case mul=>
  have h1:=qg7 (k:=k) (x:=zlo xa ya) (hs _ (by simp));rw[zbi,hm,hn] at h1;simp only[D.int] at h1;refine⟨.int k (m * n),?_,q3i (by rw[zbi,hm,hn];rfl) h1⟩;have:=qc2 h1;generalize a.eval=r at *;simp[execOp,heq,hx,hy,eqGuard,binOp,Op.intArith,this]
 case eql=>
  refine⟨.bool (m==n),?_,q1f (by rw[qfr,hm,hn];congr 1;rw[uI];simp)⟩;generalize a.eval=r at *;simp[execOp,heq,hx,hy,eqGuard,binOp,Op.intCmp]
 case neq=>
  refine⟨.bool (m !=n),?_,q1f (by rw[qhg (qfr _ _),hm,hn];congr 1;rw[uI];simp)⟩;generalize a.eval=r at *;simp[execOp,heq,hx,hy,eqGuard,binOp,Op.intCmp]
 case lss=>
  refine⟨.bool (decide (m<n)),?_,q1f (by rw[z7m,hm,hn];rfl)⟩;generalize a.eval=r at *;simp[execOp,heq,hx,hy,eqGuard,binOp,Op.intCmp]
 case leq=>
  refine⟨.bool (decide (m≤n)),?_,q1f (by rw[qnk,hm,hn];rfl)⟩;generalize a.eval=r at *;simp[execOp,heq,hx,hy,eqGuard,binOp,Op.intCmp]
 case gtr=>
  refine⟨.bool (decide (n<m)),?_,q1f (by rw[z7m,hm,hn];rfl)⟩;generalize a.eval=r at *;simp[execOp,heq,hx,hy,eqGuard,binOp,Op.intCmp]
 case geq=>
  refine⟨.bool (decide (n≤m)),?_,q1f (by rw[qnk,hm,hn];rfl)⟩;generalize a.eval=r at *;simp[execOp,heq,hx,hy,eqGuard,binOp,Op.intCmp]
set_option maxHeartbeats 1000000 in
theorem zll(hf:SF c σ p w a)(hc:hold c.v cs=true){u:TypeId}{z:Operand}(heq:o.op=.binOp op T y z u){ns:List X}(h:quiet uA σ cs o=some (ns,x))(hn:∀n∈ns,n.says c.v):q7p o a c p w x:=by
  simp only[quiet,heq] at h;split at h
  · rename_i ya za hy hz;have h1:=qo hf hc hy;have h2:=qo hf hc hz;split at h
    · rename_i r hr;injection h with h;subst h;unfold zkb at hr;split at hr
      · split at hr
        · simp only[gnS] at hr;obtain⟨rfl,rfl⟩:=hr;obtain⟨m,hm,hmv,-⟩:=q0j h1;obtain⟨n,hn',hnv,-⟩:=q0j h2;refine⟨.int .i64 (IntKind.wrap .i64 (m+n)),?_,q3i (n:=IntKind.wrap .i64 (m+n)) ?_ (z61 (m+n))⟩
          · generalize a.eval=r at *;simp[execOp,heq,hmv,hnv,eqGuard,binOp,Op.intArith]
          · show fnD 9 [X.ev c.v _,X.ev c.v _]=_
            rw[hm,hn'];rfl
        · cases hr
      · split at hr
        · split at hr
          · simp only[gnS] at hr;obtain⟨rfl,rfl⟩:=hr;obtain⟨m,hm,hmv,-⟩:=q0j h1;obtain⟨n,hn',hnv,-⟩:=q0j h2;refine⟨.int .i64 (IntKind.wrap .i64 (m - n)),?_,q3i (n:=IntKind.wrap .i64 (m - n)) ?_ (z61 (m - n))⟩
            · generalize a.eval=r at *;simp[execOp,heq,hmv,hnv,eqGuard,binOp,Op.intArith]
            · show fnD 18 [X.ev c.v _,X.ev c.v _]=_
              rw[hm,hn'];rfl
          · cases hr
        · cases hr
      · cases hr
    rename_i hwn;split at h
    · rename_i r hr;injection h with h;subst h;unfold zq4 at hr;split at hr
      · split at hr
        · rename_i hk;have hk':=of_decide_eq_true hk;subst hk';obtain⟨m,hm,hmv,-⟩:=q0j h1;obtain⟨n,hn',hnv,-⟩:=q0j h2;exact zf4 heq hm hn' hmv hnv hr hn
        · cases hr
      · obtain⟨m,hm,hmv⟩:=q2v h1;obtain⟨n,hn',hnv⟩:=q2v h2;split at hr
        · rename_i hT;have hu:=(q5e (q3j hT)).1;split at hr
          · simp only[gnS] at hr;obtain⟨rfl,rfl⟩:=hr;refine⟨.bool (m==n),?_,q1f (by rw[qfr,hm,hn'];congr 1;rw[uI];simp)⟩;have:=run_equal_bool (P:=uA) w T m n hu;generalize a.eval=r at *;simp[execOp,heq,hmv,hnv,eqGuard,binOp,this]
          · simp only[gnS] at hr;obtain⟨rfl,rfl⟩:=hr;refine⟨.bool (m !=n),?_,q1f (by rw[qhg (qfr _ _),hm,hn'];congr 1;rw[uI];simp)⟩;have:=run_equal_bool (P:=uA) w T m n hu;generalize a.eval=r at *;simp[execOp,heq,hmv,hnv,eqGuard,binOp,this,bne]
          · cases hr
        · cases hr
      · obtain⟨m,hm,hmv,-⟩:=qja h1;obtain⟨n,hn',hnv,-⟩:=qja h2;split at hr
        · simp only[gnS] at hr;obtain⟨rfl,rfl⟩:=hr;refine⟨.bool (m.toList==n.toList),?_,q1f (by rw[qfr,hm,hn',z9h])⟩;generalize a.eval=r at *;simp[execOp,heq,hmv,hnv,eqGuard,binOp,Op.stringOp]
        · simp only[gnS] at hr;obtain⟨rfl,rfl⟩:=hr;refine⟨.bool (!(m.toList==n.toList)),?_,q1f (by rw[qhg (qfr _ _),hm,hn',z9h])⟩;generalize a.eval=r at *;simp[execOp,heq,hmv,hnv,eqGuard,binOp,Op.stringOp]
        · simp only[gnS] at hr;obtain⟨rfl,rfl⟩:=hr;have h3:=hn _ (uL);have h3':m.size+n.size≤140737488351232:=by
            have h4:=q0c h3;simp only[X.ev,hm,hn',D.int,D.str] at h4;omega
          have hsz:(m++n).size=m.size+n.size:=by simp[ByteArray.size_append]
          refine⟨.string (m++n),?_,z0g (by show fnD 11 [X.ev c.v _,X.ev c.v _]=_;rw[hm,hn'];rfl) (by rw[hsz];exact h3')⟩;have:=run_string_add_sum (P:=uA) w m n (by omega);generalize a.eval=r at *;simp[execOp,heq,hmv,hnv,eqGuard,binOp,this]
        · cases hr
      · rename_i x1 S o1 d1 x2 S' o2 d2;split at hr
        · rename_i hok;simp only[gnB] at hok;obtain⟨hT,hS,hfl⟩:=hok;have hS':=gnN hS;subst hS';have hT':=q3j hT;obtain⟨fields,fs,zc,i,hu,hf',hfb,hi,hs,hz0,hpz,hst,hgd⟩:=q5z hT';obtain⟨v1,hp1,hc1⟩:=h1;obtain⟨v2,hp2,hc2⟩:=h2;have r1:=Rd.flat (w':=w) (F':=fun _=>True) 8 _ hfl (hc1.rd (dep':=d1++o1.map (·.2)) (fun x hx=>uD _ hx) (fun x hx=>uC _ hx));have r2:=Rd.flat (w':=w) (F':=fun _=>True) 8 _ hfl (hc2.rd (dep':=d2++o2.map (·.2)) (fun x hx=>uD _ hx) (fun x hx=>uC _ hx));have e1:a.eval y=.agg v1.toArray:=hp1;have e2:a.eval z=.agg v2.toArray:=hp2;have heqv:=ql0 (w:=w) 8 9992 hT' hfl r1 r2 rfl rfl;have hg:∀op y z,(eqGuard op T y z (.agg v1.toArray) (.agg v2.toArray)).run uA w=.ok () w:=fun op y z=>run_eqGuard_agg w op T y z _ _ hgd;split at hr
          · simp only[gnS] at hr;obtain⟨rfl,rfl⟩:=hr;refine⟨_,?_,q1f (qfr _ _)⟩;generalize a.eval=r at *;simp only[execOp,heq,e1,e2,uE,hg,uB,run_eql_struct];rw[show(10000:Nat)=9992+8 from rfl,heqv];simp
          · simp only[gnS] at hr;obtain⟨rfl,rfl⟩:=hr;refine⟨_,?_,q1f (qhg (qfr _ _))⟩;generalize a.eval=r at *;simp only[execOp,heq,e1,e2,uE,hg,uB,run_neq_struct];rw[show(10000:Nat)=9992+8 from rfl,heqv];simp
          · cases hr
        · cases hr
      · cases hr
    · split at h
      · rename_i r hr;injection h with h;subst h;unfold zpj at hr;split at hr
        · rename_i x0 k o1 d1 m k2 o2 d2 hxx;split at hr
          · split at hr
            · rename_i hm;simp only[gnB,gnD] at hm;simp only[gnS] at hr;obtain⟨rfl,rfl⟩:=hr;obtain⟨n1,hx1,hv1,-⟩:=q0j h1;obtain⟨n2,hx2,hv2,-⟩:=q0j h2;have e2:m=n2:=by
                have:D.i m=D.i n2:=hx2;injection this
              subst e2;have hr1:ji k (n1.fdiv (2^m.toNat))=true:=by
                have:=hn (.rng k (.fn 8 [x0,.lit (.i m)])) (by simp);have h3:(D.b (ji k ((X.fn 8 [x0,.lit (.i m)]).ev c.v).int)).tt=true:=this;have e:(X.fn 8 [x0,.lit (.i m)]).ev c.v=.i (n1.fdiv (2^m.toNat)):=by
                  show D.i ((x0.ev c.v).int.fdiv (2^m.toNat))=_
                  rw[hx1];rfl
                rw[e] at h3;simpa[D.tt,D.int] using h3
              refine⟨.int k (n1.fdiv (2^m.toNat)),?_,q3i (n:=n1.fdiv (2^m.toNat)) ?_ hr1⟩
              · have hb:min m.toNat k.bits=m.toNat:=by
                  have:8≤k.bits:=by cases k<;>simp[IntKind.bits]
                  omega
                have hneg:¬m<0:=by omega
                generalize a.eval=r at *;simp[execOp,heq,hv1,hv2,eqGuard,binOp,Op.shift,hneg,hb]
              · show D.i ((x0.ev c.v).int.fdiv (2^m.toNat))=_
                rw[hx1];rfl
            · cases hr
          · split at hr
            · rename_i hm;simp only[gnB,gnD] at hm;obtain⟨rfl,rfl,hm⟩:=hm;simp only[gnS] at hr;obtain⟨rfl,rfl⟩:=hr;obtain⟨n1,hx1,hv1,hr1⟩:=q0j h1;obtain⟨n2,hx2,hv2,-⟩:=q0j h2;have e2:m=n2:=by
                have:D.i m=D.i n2:=hx2;injection this
              subst e2;have q0:0≤(x0.ev c.v).int:=by
                have h:=hn (leX (.lit (.i 0)) x0) (by simp);unfold X.says at h;rw[qnk] at h;exact of_decide_eq_true (show decide ((0:Int)≤(x0.ev c.v).int)=true from h)
              rw[hx1] at q0;have q0:0≤n1:=q0;have hdn:0≤n1 / m:=Int.ediv_nonneg q0 (by omega);have hdl:n1 / m≤n1:=Int.ediv_le_self _ q0;simp only[ji,gnB,gnD] at hr1;have hrr:ji .i64 (n1 / m)=true:=by simp[ji];omega
              refine⟨.int .i64 (n1 / m),?_,q3i (n:=n1 / m) ?_ hrr⟩
              · have hne:¬m=0:=by omega
                have hw:IntKind.i64.wrap (n1 / m)=n1 / m:=by rw[IntKind.wrap_i64];omega
                have htd:n1.tdiv m=n1 / m:=Int.tdiv_eq_ediv_of_nonneg q0;generalize a.eval=r at *;simp[execOp,heq,hv1,hv2,eqGuard,binOp,Op.intDiv,hne,htd,hw]
              · show D.i ((x0.ev c.v).int / m)=_
                rw[hx1];rfl
            · cases hr
          · cases hr
        · cases hr
      rename_i hno2;clear hno2;split at h
      · rename_i r hr;injection h with h;subst h;unfold zpk at hr;split at hr
        · rename_i x0 k o1 d1 y0 k2 o2 d2 _;obtain⟨n1,hx1,hv1,hr1⟩:=q0j h1;obtain⟨n2,hx2,hv2,hr2⟩:=q0j h2;have nn:∀x:X,(leX (.lit (.i 0)) x).says c.v→0≤(x.ev c.v).int:=fun x h=>by
            unfold X.says at h;rw[qnk] at h;exact of_decide_eq_true (show decide ((0:Int)≤(x.ev c.v).int)=true from h)
          have n64:∀x:X,(leX x (.lit (.i 64))).says c.v→(x.ev c.v).int≤64:=fun x h=>by
            unfold X.says at h;rw[qnk] at h;exact of_decide_eq_true (show decide ((x.ev c.v).int≤64)=true from h)
          split at hr
          · split at hr
            · rename_i hk;simp only[kQ,gnD] at hk;simp only[gnS] at hr;obtain⟨rfl,rfl⟩:=hr;have q1:=nn y0 (hn _ (by simp));have q2:=n64 y0 (hn _ (by simp));rw[hx2] at q1 q2;have q1:0≤n2:=q1;have q2:n2≤64:=q2;have e:(X.fn 8 [x0,y0]).ev c.v=.i (n1.fdiv (2^n2.toNat)):=by
                show D.i ((x0.ev c.v).int.fdiv (2^(y0.ev c.v).int.toNat))=_
                rw[hx1,hx2];rfl
              have h3:(D.b (ji k ((X.fn 8 [x0,y0]).ev c.v).int)).tt=true:=hn (.rng k (.fn 8 [x0,y0])) (by simp);rw[e] at h3;refine⟨.int k (n1.fdiv (2^n2.toNat)),?_,q3i (n:=n1.fdiv (2^n2.toNat)) e (by simpa[D.tt,D.int] using h3)⟩;have hneg:¬n2<0:=by omega
              have hb:min n2.toNat k.bits=n2.toNat:=by rcases hk with rfl|rfl<;>simp only[IntKind.bits]<;>omega
              generalize a.eval=r at *;simp[execOp,heq,hv1,hv2,eqGuard,binOp,Op.shift,hneg,hb]
            · cases hr
          · split at hr
            · rename_i hk;simp only[gnB,kQ,gnD] at hk;obtain⟨hkk,hk⟩:=hk;subst hkk;simp only[gnS] at hr;obtain⟨rfl,rfl⟩:=hr;have q1:=nn x0 (hn _ (by simp));have q2:=nn y0 (hn _ (by simp));rw[hx1] at q1;rw[hx2] at q2;have q1:0≤n1:=q1;have q2:0≤n2:=q2;have e:(X.fn 13 [x0,y0]).ev c.v=.i ((n1.toNat &&& n2.toNat:Nat):Int):=by
                show D.i (((x0.ev c.v).int.toNat &&& (y0.ev c.v).int.toNat:Nat):Int)=_
                rw[hx1,hx2];rfl
              have hle:n1.toNat &&& n2.toNat≤n1.toNat:=Nat.and_le_left;have hlt1:n1.toNat<2^64:=by
                rcases hk with rfl|rfl<;>simp only[ji,gnB,gnD] at hr1<;>omega
              have hlt2:n2.toNat<2^64:=by
                rcases hk with rfl|rfl<;>simp only[ji,gnB,gnD] at hr2<;>omega
              have hrr:ji k ((n1.toNat &&& n2.toNat:Nat):Int)=true:=by
                rcases hk with rfl|rfl<;>simp only[ji,gnB,gnD] at hr1⊢<;>omega
              have hb:k.bits=64:=by rcases hk with rfl|rfl<;>rfl
              have hbv:(BitVec.ofInt k.bits n1 &&& BitVec.ofInt k.bits n2).toNat=n1.toNat &&& n2.toNat:=by
                rw[hb,BitVec.toNat_and,BitVec.toNat_ofInt,BitVec.toNat_ofInt]
                congr 1<;>omega
              have hw:k.wrap ((n1.toNat &&& n2.toNat:Nat):Int)=((n1.toNat &&& n2.toNat:Nat):Int):=by
                rcases hk with rfl|rfl
                · simp only[ji,gnB,gnD] at hrr;have ew:∀m:Int,IntKind.wrap .i64 m=if m % 18446744073709551616≥9223372036854775808 then m % 18446744073709551616 - 18446744073709551616 else m % 18446744073709551616:=fun m=>by
                    simp[IntKind.wrap,IntKind.bits,IntKind.signed]
                  rw[ew,if_neg (by omega)];omega
                · simp only[ji,gnB,gnD] at hrr;simp only[IntKind.wrap,IntKind.bits,IntKind.signed,kV,gnF,if_false];omega
              refine⟨.int k ((n1.toNat &&& n2.toNat:Nat):Int),?_,q3i (n:=((n1.toNat &&& n2.toNat:Nat):Int)) e hrr⟩;generalize a.eval=r at *;simp only[execOp,heq,hv1,hv2,eqGuard,binOp,Op.intBits,hbv,hw];simp
            · cases hr
          · split at hr
            · rename_i hk;simp only[gnB,gnD] at hk;obtain⟨hkk,hk⟩:=hk;subst hkk hk;simp only[gnS] at hr;obtain⟨rfl,rfl⟩:=hr;simp only[ji,gnB,gnD] at hr1 hr2;have e:(X.fn 14 [x0,y0]).ev c.v=.i ((n1.toNat ||| n2.toNat:Nat):Int):=by
                show D.i (((x0.ev c.v).int.toNat ||| (y0.ev c.v).int.toNat:Nat):Int)=_
                rw[hx1,hx2];rfl
              have hlt:n1.toNat ||| n2.toNat<2^64:=Nat.or_lt_two_pow (by omega) (by omega);have hrr:ji .u64 ((n1.toNat ||| n2.toNat:Nat):Int)=true:=by
                simp only[ji,gnB,gnD];omega
              have hbv:(BitVec.ofInt (IntKind.bits .u64) n1 ||| BitVec.ofInt (IntKind.bits .u64) n2).toNat=n1.toNat ||| n2.toNat:=by
                show(BitVec.ofInt 64 n1 ||| BitVec.ofInt 64 n2).toNat=_
                rw[BitVec.toNat_or,BitVec.toNat_ofInt,BitVec.toNat_ofInt]
                congr 1<;>omega
              have hw:IntKind.wrap .u64 ((n1.toNat ||| n2.toNat:Nat):Int)=((n1.toNat ||| n2.toNat:Nat):Int):=by
                simp only[IntKind.wrap,IntKind.bits,IntKind.signed,kV,gnF,if_false];omega
              refine⟨.int .u64 ((n1.toNat ||| n2.toNat:Nat):Int),?_,q3i (n:=((n1.toNat ||| n2.toNat:Nat):Int)) e hrr⟩;generalize a.eval=r at *;simp only[execOp,heq,hv1,hv2,eqGuard,binOp,Op.intBits,hbv,hw];simp
            · cases hr
          · split at hr
            · rename_i hk;simp only[gnD] at hk;subst hk;simp only[gnS] at hr;obtain⟨rfl,rfl⟩:=hr;have q1:=nn y0 (hn _ (by simp));have q2:=n64 y0 (hn _ (by simp));rw[hx2] at q1 q2;have q1:0≤n2:=q1;have q2:n2≤64:=q2;have e:(X.fn 15 [x0,y0]).ev c.v=.i ((n1 * 2^n2.toNat) % 18446744073709551616):=by
                show D.i (((x0.ev c.v).int * 2^(y0.ev c.v).int.toNat) % 18446744073709551616)=_
                rw[hx1,hx2];rfl
              have hrr:ji .u64 ((n1 * 2^n2.toNat) % 18446744073709551616)=true:=by
                simp only[ji,gnB,gnD];omega
              have hneg:¬n2<0:=by omega
              have hb:min n2.toNat (IntKind.bits .u64)=n2.toNat:=by simp only[IntKind.bits];omega
              have hw:∀m:Int,IntKind.wrap .u64 m=m % 18446744073709551616:=fun m=>by
                simp only[IntKind.wrap,IntKind.bits,IntKind.signed,kV,gnF,if_false];rfl
              refine⟨.int .u64 ((n1 * 2^n2.toNat) % 18446744073709551616),?_,q3i (n:=(n1 * 2^n2.toNat) % 18446744073709551616) e hrr⟩;generalize a.eval=r at *;simp[execOp,heq,hv1,hv2,eqGuard,binOp,Op.shift,hneg,hb,hw]
            · cases hr
          · cases hr
        · cases hr
      rename_i hno3;clear hno3;unfold zhs at h;have hpt:∀{T:TypeId},z57 uA T=true→∃e,uA.underlying T=some (.pointer e):=fun{T}ht=>by
        unfold z57 at ht;split at ht
        · rename_i e he;exact⟨e,he⟩
        · cases ht
      split at h
      · obtain⟨b0,o0,cs0,e1,-⟩:=h1;have e2:a.eval z=.pointer none:=h2;split at h
        · rename_i ht;obtain⟨e,hu⟩:=hpt ht;have hq:=run_equal_pointer_nil (P:=uA) w T (some ⟨b0,o0,none⟩) (by simp[Program.pointee,hu]);split at h
          · simp only[gnS] at h;obtain⟨rfl,rfl⟩:=h;refine⟨.bool false,?_,q1f rfl⟩;generalize a.eval=r at *;simp[execOp,heq,e1,e2,eqGuard,z2l,hq]
          · simp only[gnS] at h;obtain⟨rfl,rfl⟩:=h;refine⟨.bool true,?_,q1f rfl⟩;generalize a.eval=r at *;simp[execOp,heq,e1,e2,eqGuard,z1w,hq]
          · cases h
        · cases h
      · rename_i pt1 of1 t1;obtain⟨g,hg,e1⟩:=h1;have e2:a.eval z=.pointer none:=h2;split at h
        · rename_i ht;obtain⟨e,hu⟩:=hpt ht;have hq:=run_equal_pointer_nil (P:=uA) w T (some ⟨g,pt1,none⟩) (by simp[Program.pointee,hu]);split at h
          · simp only[gnS] at h;obtain⟨rfl,rfl⟩:=h;refine⟨.bool false,?_,q1f rfl⟩;generalize a.eval=r at *;simp[execOp,heq,e1,e2,eqGuard,z2l,hq]
          · simp only[gnS] at h;obtain⟨rfl,rfl⟩:=h;refine⟨.bool true,?_,q1f rfl⟩;generalize a.eval=r at *;simp[execOp,heq,e1,e2,eqGuard,z1w,hq]
          · cases h
        · cases h
      · have e1:a.eval y=.pointer none:=h1;have e2:a.eval z=.pointer none:=h2;split at h
        · rename_i ht;obtain⟨e,hu⟩:=hpt ht;have hq:=run_equal_pointer_nil (P:=uA) w T none (by simp[Program.pointee,hu]);split at h
          · simp only[gnS] at h;obtain⟨rfl,rfl⟩:=h;refine⟨.bool true,?_,q1f rfl⟩;generalize a.eval=r at *;simp[execOp,heq,e1,e2,eqGuard,z2l,hq]
          · simp only[gnS] at h;obtain⟨rfl,rfl⟩:=h;refine⟨.bool false,?_,q1f rfl⟩;generalize a.eval=r at *;simp[execOp,heq,e1,e2,eqGuard,z1w,hq]
          · cases h
        · cases h
      · rename_i x0 E0 own dep hxx;obtain⟨vs,hp,hc⟩:=h1;have e2:a.eval z=.slice none 0 0:=h2;have hrd:=hc.rd (dep':=own.map (·.2)++dep) (fun x hx=>uC _ hx) (fun x hx=>uD _ hx);have hv:∃A n cap,a.eval y=.slice A n cap∧(A.isNone=true→(x0.ev c.v).rs=[]):=by
          obtain rfl:=zis rfl hp;cases hd0:x0.ev c.v with
          | r l =>
            rw[hd0] at hrd;obtain⟨E,te,A,cap,e,-,e3,h1',-,-,hR⟩:=hrd;injection e3 with e3;refine⟨A,_,_,e3,fun hA=>?_⟩
            show l=[]
            cases l with
            |nil=>rfl
            | cons d l =>
              cases A with
              |some A=>cases hA
              | none =>
                have:=q1r.1 hR 0 (by simp);obtain⟨b,o,cs,e,-⟩:=this;cases e
          |u=>rw[hd0] at hrd;exact hrd.elim
          |i n=>rw[hd0] at hrd;obtain⟨k,e,-⟩:=hrd;cases e
          |b x=>rw[hd0] at hrd;cases hrd.1
          |s x=>rw[hd0] at hrd;cases hrd.1
          |a l=>rw[hd0] at hrd;obtain⟨T',fs0,e1,-⟩:=hrd;cases e1
          |mp l=>rw[hd0] at hrd;obtain⟨K,V,kt,vt,g,es,clock,e1,-⟩:=hrd;cases e1
        obtain⟨A,n,cap,e1,hA⟩:=hv;split at h
        · rename_i ht;obtain⟨e,hu⟩:∃e,uA.underlying T=some (.slice e):=by
            unfold isRow at ht;split at ht
            · rename_i e he;exact⟨e,he⟩
            · cases ht
          have hq:(Op.equal T (.slice A n cap) (.slice none 0 0)).run uA w=.ok A.isNone w:=by
            exact z5x 9999 hu A n cap
          have s1:binOp .eql T (.slice A n cap) (.slice none 0 0)=(do pure (.bool (←Op.equal T (.slice A n cap) (.slice none 0 0)))):=rfl;have s2:binOp .neq T (.slice A n cap) (.slice none 0 0)=(do pure (.bool (!(←Op.equal T (.slice A n cap) (.slice none 0 0))))):=rfl;split at h
          · simp only[gnS] at h;obtain⟨rfl,rfl⟩:=h;refine⟨.bool A.isNone,?_,A.isNone,rfl,fun hb=>hA (by simpa using hb)⟩;generalize a.eval=r at *;simp[execOp,heq,e1,e2,eqGuard,s1,hq]
          · simp only[gnS] at h;obtain⟨rfl,rfl⟩:=h;refine⟨.bool (!A.isNone),?_,!A.isNone,rfl,fun hb=>hA (by simpa using hb)⟩;generalize a.eval=r at *;simp[execOp,heq,e1,e2,eqGuard,s2,hq]
          · cases h
        · cases h
      · cases h
  · cases h
end
end
variable{kd:D}
section
section
variable{w:World}{F:Nat→Prop}
theorem zko:∀(n:Nat){t:Ty}{d:D}{cs:List Value},zt n t=true→Rd w F d t cs→qnq n t d=some cs:=by
 intro n
 induction n with
 |zero=>intro t d cs h;simp[zt] at h
 | succ n ih =>
  intro t d cs hb h;cases d with
  |u=>exact h.elim
  |i m=>obtain⟨k,rfl,rfl,hr⟩:=h;simp[qnq,hr]
  |b x=>obtain⟨rfl,rfl⟩:=h;simp[qnq]
  |s x=>obtain⟨rfl,rfl,hs⟩:=h;simp[qnq,hs]
  |r l=>obtain⟨E,te,A,cap,rfl,-⟩:=h;simp[zt] at hb
  |mp l=>obtain⟨K,V,kt,vt,g,es,clock,rfl,-⟩:=h;simp[zt] at hb
  | a l =>
   obtain⟨T,fs,rfl,hf,h⟩:=h;simp only[zt,hf] at hb;simp only[qnq,hf];clear hf
   induction l generalizing fs cs with
   |nil=>
    obtain⟨rfl,rfl⟩:=h;rfl
   |cons d l ihl=>
    obtain⟨t,ts,c1,c2,rfl,rfl,h1,h2⟩:=h;simp only[kH,gnB] at hb;simp only[qgq,ih hb.1 h1,ihl _ h2 hb.2]
theorem zj9(x y:ByteArray):(x==y)=true↔x=y:=by
 cases x with
 |mk a=>cases y with|mk b=>rw[ByteArray.mk.injEq];show(a==b)=true↔a=b;exact beq_iff_eq
theorem z8r{t:Ty}{v:Value}(hb:zt 8 t=true)(h:Rd w F d t cs)(hp:jj t cs v):qj0 t d=some v:=by
 unfold qj0;rw[zko 8 hb h];exact qy3.2 hp
theorem z67{P:Program}:∀(l:List α)(B:α→PUnit→Sem (ForInStep PUnit)),(∀f∈l,(B f PUnit.unit).run P w=.ok (.yield PUnit.unit) w)→(forIn l PUnit.unit B).run P w=.ok PUnit.unit w
 |[],B,_=>by simp
 |f::l,B,h=>by
  rw[List.forIn_cons];simp only[uE,h f (by simp),uB];exact z67 l B fun g hg=>h g (by simp[hg])
theorem qos:∀{l:List Field}{fs:List Ty}{o:Nat},q40 l fs o=true→l.length=fs.length
 |[],[],_,_=>rfl
 |f::l,t::ts,o,h=>by
  simp only[q40,gnB] at h;simp[qos h.2]
 |[],_::_,_,h=>by cases h
 |_::_,[],_,h=>by cases h
theorem qer(em:Bool):∀(n:Nat){T:TypeId}{t:Ty}{d:D}{c:List Value}{v:Value}(dep:Nat),qm T=some t→zt n t=true→Rd w F d t c→jj t c v→
  (Instr.checkKey em (dep+n) T v).run uA w=.ok () w:=by
 intro n
 induction n with
 |zero=>intro T t d c v dep h hb;simp[zt] at hb
 | succ n ih =>
  intro T t d c v dep h hb hd hp;rw[show dep+(n+1)=(dep+n)+1 from rfl];cases t with
  |row E=>simp[zt] at hb
  |map K V=>simp[zt] at hb
  |int k=>
   cases d<;>simp only[Rd,reduceCtorEq,false_and,exists_false,and_false] at hd;obtain⟨k1,e1,rfl,-⟩:=hd;obtain rfl:_=v:=by simpa[jj] using hp
   simp[Instr.checkKey,run_underlying (q4q h).1]
  |bool=>
   cases d<;>simp only[Rd,reduceCtorEq,false_and,exists_false,and_false] at hd;obtain⟨e1,rfl⟩:=hd;obtain rfl:_=v:=by simpa[jj] using hp
   simp[Instr.checkKey,run_underlying (q5e h).1]
  |str=>
   cases d<;>simp only[Rd,reduceCtorEq,false_and,exists_false,and_false] at hd;obtain⟨e1,rfl,-⟩:=hd;obtain rfl:_=v:=by simpa[jj] using hp
   simp[Instr.checkKey,run_underlying (q4m h).1]
  | st S =>
   obtain⟨fields,fs,zc,i,hu,hf,hfb,hi,hs,hz,hpz,hst,-⟩:=q5z h;cases d<;>simp only[Rd,reduceCtorEq,false_and,exists_false,and_false] at hd;rename_i l;obtain⟨S1,fs1,e1,hf1,hl⟩:=hd;injection e1 with e1;subst e1;obtain rfl:=gnI (hf.symm.trans hf1);have hv:v=.agg c.toArray:=hp;subst hv;simp only[zt,hf] at hb;simp only[Instr.checkKey,uE,run_underlying hu,uB];rw[←Array.forIn_toList];refine(congrArg (fun r=>kE r fun a w'=>vU uA (pure ()) w') (z67 _ _ fun f hmem=>?_)).trans rfl;obtain⟨j,hj,rfl⟩:=List.mem_iff_getElem.1 hmem;have hjf:fields.toList[j]? =some fields.toList[j]:=gnK hj;have hjt:∃t,fs[j]? =some t:=by
    have:=qos hfb;exact⟨fs[j]'(by omega),gnK (by omega)⟩
   obtain⟨t,ht⟩:=hjt;obtain⟨f',hf',ho,hty,hn⟩:=q90 hfb ht;obtain rfl:=gnI (hjf.symm.trans hf');obtain⟨d,c0,c1,c2,-,rfl,h0,hrd⟩:=hl.get ht;obtain⟨v1,hv1,hp1⟩:=q93 (c0:=c0) (c2:=c2) (o:=(fields.toList[j]).offset) hty (by omega) hrd;have hfl:=uH.1 hb t (vC ht);have hq:=ih dep hty hfl hrd hp1;rw[if_pos hn];simp only[uE,hv1,uB,hq,uK]
def fsD(kd:D):List D→List MapEntry→Nat→Option (Nat×Value)
 |p::l,e::es,i=>if kd=p.fld 0 then some (i,e.val) else fsD kd l es (i+1)
 |_,_,_=>none
def zcx(kt:Ty):List D→List MapEntry→Prop
 |[],[]=>True
 |p::l,e::es=>(∃k v,p=.a [k,v]∧qj0 kt k=some e.key)∧zcx kt l es
 |_,_=>False
theorem q8a.keys:∀{l:List D}{es:List MapEntry},q8a kt vt l es→zcx kt l es
 |[],[],_=>trivial
 |p::l,e::es,⟨⟨k,v,hp,hk,hv⟩,h⟩=>⟨⟨k,v,hp,hk⟩,q8a.keys h⟩
 |[],_::_,h=>h.elim
 |_::_,[],h=>h.elim
theorem z43(hb:zt 8 kt=true):∀{l:List D}{es:List MapEntry},RdM w F l kt vt es→zcx kt l es
 |[],es,h=>by rw[show es=[] from h];trivial
 |p::l,es,⟨e,r,h1,hk,h2⟩=>by
  subst h1;obtain⟨k,v,ck,cv,rfl,q1,q2,q3,q4⟩:=z0f.1 hk;exact⟨⟨k,v,rfl,z8r hb q1 q2⟩,z43 hb h2⟩
theorem qiq(hK:qm K=some kt)(hb:zt 8 kt=true){c:List Value}{v:Value}(hd:Rd w F kd kt c)(hp:jj kt c v):
  ∀{l:List D}{es:List MapEntry}(i:Nat),zcx kt l es→(Instr.findAsking K v es i).run uA w=.ok (fsD kd l es i) w
 |[],[],i,_=>by simp[Instr.findAsking,fsD]
 | p :: l, e :: es, i, ⟨⟨k, x, hp0, hk⟩, h⟩ => by
  subst hp0;obtain⟨c',hd',hp'⟩:=z1k (w:=w) (F:=F) hk;have he:(Op.equal K v e.key).run uA w=.ok (decide (kd=k)) w:=ql0 (w:=w) 8 9992 hK hb hd hd' hp hp';simp only[Instr.findAsking,uE,he,uB,fsD];by_cases hkk:kd=k
  ·subst hkk;simp[D.fld,D.fs]
  ·have:¬kd=D.fld (.a [k,x]) 0:=hkk;rw[if_neg this];simp only[hkk,decide_false,gnF,if_false];exact qiq hK hb hd hp (i+1) h
 |[],_::_,i,h=>h.elim
 |_::_,[],i,h=>h.elim
theorem qsy(hK:qm K=some kt)(hb:zt 8 kt=true){c:List Value}{v:Value}(hd:Rd w F kd kt c)(hp:jj kt c v){desc:TypeDesc}(hu:uA.underlying K=some desc):
  ∀{l:List D}{es:List MapEntry}(i:Nat),zcx kt l es→Instr.findNow desc v es i=none∨Instr.findNow desc v es i=some (fsD kd l es i)
 |[],[],i,_=>.inr (by simp[Instr.findNow,fsD])
 | p :: l, e :: es, i, ⟨⟨k, x, hp0, hk⟩, h⟩ => by
  subst hp0;obtain⟨c',hd',hp'⟩:=z1k (w:=w) (F:=F) hk;have ih:=qsy hK hb hd hp hu (i+1) h;have hsame:Instr.sameNow desc v e.key=none∨Instr.sameNow desc v e.key=some (decide (kd=k)):=by
   cases kt with
   |row E=>simp[zt] at hb
   |map K V=>simp[zt] at hb
   |int k0=>
    cases kd<;>simp only[Rd,reduceCtorEq,false_and,exists_false,and_false] at hd;cases k<;>simp only[Rd,reduceCtorEq,false_and,exists_false,and_false] at hd';obtain⟨k1,e1,rfl,-⟩:=hd;obtain⟨k2,e2,rfl,-⟩:=hd';injection e1 with e1;injection e2 with e2;subst e1 e2;obtain rfl:_=v:=by simpa[jj] using hp
    simp only[jj,List.cons.injEq,and_true] at hp';rw[←hp'];have:=(q4q hK).1;rw[hu] at this;injection this with this;subst this;refine .inr ?_;simp only[Instr.sameNow,if_true]
    congr 1
    rw[uI];simp
   |bool=>
    cases kd<;>simp only[Rd,reduceCtorEq,false_and,exists_false,and_false] at hd;cases k<;>simp only[Rd,reduceCtorEq,false_and,exists_false,and_false] at hd';obtain⟨e1,rfl⟩:=hd;obtain⟨e2,rfl⟩:=hd';obtain rfl:_=v:=by simpa[jj] using hp
    simp only[jj,List.cons.injEq,and_true] at hp';rw[←hp'];have:=(q5e hK).1;rw[hu] at this;injection this with this;subst this;refine .inr ?_;simp only[Instr.sameNow]
    congr 1
    rw[uI];simp
   |str=>
    cases kd<;>simp only[Rd,reduceCtorEq,false_and,exists_false,and_false] at hd;cases k<;>simp only[Rd,reduceCtorEq,false_and,exists_false,and_false] at hd';obtain⟨e1,rfl,-⟩:=hd;obtain⟨e2,rfl,-⟩:=hd';obtain rfl:_=v:=by simpa[jj] using hp
    simp only[jj,List.cons.injEq,and_true] at hp';rw[←hp'];have:=(q4m hK).1;rw[hu] at this;injection this with this;subst this;refine .inr ?_;simp only[Instr.sameNow]
    congr 1
    rw[uI];rw[zj9];simp
   |st S=>
    obtain⟨fields,fs,zc,i,hu',-⟩:=q5z hK;rw[hu] at hu';injection hu' with hu';subst hu';exact .inl (by simp[Instr.sameNow])
  rcases hsame with h1|h1
  ·exact .inl (by simp[Instr.findNow,h1])
  ·simp only[Instr.findNow,h1,fsD];by_cases hkk:kd=k
   ·have:kd=D.fld (.a [k,x]) 0:=hkk;rw[if_pos this];simp[hkk]
   ·have:¬kd=D.fld (.a [k,x]) 0:=hkk;rw[if_neg this];simp only[hkk,decide_false];exact ih
 |[],_::_,i,h=>h.elim
 |_::_,[],i,h=>h.elim
theorem qk2(hK:qm K=some kt)(hb:zt 8 kt=true){c:List Value}{v:Value}(hd:Rd w F kd kt c)(hp:jj kt c v){l:List D}{es:List MapEntry}(h:zcx kt l es):
  (Instr.findKey K v es).run uA w=.ok (fsD kd l es 0) w:=by
 have hdesc:∃desc,uA.underlying K=some desc:=by
  cases kt with
  |row E=>exact⟨_,(q23 hK).1⟩
  |map K V=>exact⟨_,(qby hK).1⟩
  |int k=>exact⟨_,(q4q hK).1⟩
  |bool=>exact⟨_,(q5e hK).1⟩
  |str=>exact⟨_,(q4m hK).1⟩
  |st S=>obtain⟨fields,fs,zc,i,hu',-⟩:=q5z hK;exact⟨_,hu'⟩
 obtain⟨desc,hu⟩:=hdesc;simp only[Instr.findKey,uE,run_underlying hu,uB];rcases qsy hK hb hd hp hu 0 h with h1|h1
 ·rw[h1];exact qiq hK hb hd hp 0 h
 ·rw[h1];simp
theorem qri:∀{l:List D}{es:List MapEntry}{i:Nat},q8a kt vt l es→(fsD kd l es i=none∧mfind kd l=none)∨∃j e x,fsD kd l es i=some (i+j,e.val)∧es[j]? =some e∧qj0 kt kd=some e.key∧mfind kd l=some x∧qj0 vt x=some e.val
 |[],[],i,_=>.inl ⟨rfl,rfl⟩
 | p :: l, e :: es, i, ⟨⟨k, x, hp0, hk, hx⟩, h⟩ => by
  subst hp0;by_cases hkk:kd=k
  ·subst hkk;exact .inr ⟨0,e,x,by simp[fsD,D.fld,D.fs],rfl,hk,by simp[mfind,D.fld,D.fs],hx⟩
  ·have h1:¬kd=D.fld (.a [k,x]) 0:=hkk;have h2:¬D.fld (.a [k,x]) 0=kd:=fun e=>hkk e.symm;simp only[fsD,if_neg h1,mfind,if_neg h2];rcases qri (i:=i+1) h with⟨a,b⟩|⟨j,e',y,a,b,c,d,f⟩
   ·exact .inl ⟨a,b⟩
   ·exact .inr ⟨j+1,e',y,by rw[a];congr 2;omega,by simpa using b,c,d,f⟩
 |[],_::_,i,h=>h.elim
 |_::_,[],i,h=>h.elim
theorem zh4:∀{l:List D}{es:List MapEntry}{i:Nat},RdM w F l kt vt es→(fsD kd l es i=none∧mfind kd l=none)∨∃j x y cv,fsD kd l es i=some (i+j,y)∧mfind kd l=some x∧Rd w F x vt cv∧jj vt cv y
 |[],es,i,h=>by rw[show es=[] from h];exact .inl ⟨rfl,rfl⟩
 | p :: l, es, i, ⟨e, r, h1, hk, h2⟩ => by
  subst h1;obtain⟨k,x,ck,cv,rfl,q1,q2,q3,q4⟩:=z0f.1 hk;by_cases hkk:kd=k
  ·subst hkk;exact .inr ⟨0,x,e.val,cv,by simp[fsD,D.fld,D.fs],by simp[mfind,D.fld,D.fs],q3,q4⟩
  ·have h1:¬kd=D.fld (.a [k,x]) 0:=hkk;have h3:¬D.fld (.a [k,x]) 0=kd:=fun e=>hkk e.symm;simp only[fsD,if_neg h1,mfind,if_neg h3];rcases zh4 (i:=i+1) h2 with⟨a,b⟩|⟨j,z,y,cv',a,b,c,d⟩
   ·exact .inl ⟨a,b⟩
   ·exact .inr ⟨j+1,z,y,cv',by rw[a];congr 2;omega,b,c,d⟩
theorem z3v{xd:D}{kv xv:Value}(hk:qj0 kt kd=some kv)(hx:qj0 vt xd=some xv):∀{l:List D}{es:List MapEntry},q8a kt vt l es→mfind kd l=none→∀b,q8a kt vt (mset kd xd l) (es++[{key:=kv,val:=xv,born:=b}])
 |[],[],_,_,b=>⟨⟨kd,xd,rfl,hk,hx⟩,trivial⟩
 | p :: l, e :: es, ⟨⟨k, x, hp0, hk', hx'⟩, h⟩, hn, b => by
  subst hp0;by_cases hkk:k=kd
  ·exfalso;have:D.fld (.a [k,x]) 0=kd:=hkk;simp[mfind,this] at hn
  ·have h2:¬D.fld (.a [k,x]) 0=kd:=hkk;simp only[mfind,if_neg h2] at hn;simp only[mset,if_neg h2];exact⟨⟨k,x,rfl,hk',hx'⟩,z3v hk hx h hn b⟩
 |[],_::_,h,_,_=>h.elim
 |_::_,[],h,_,_=>h.elim
theorem z4q{kd xd:D}{kv xv:Value}(hk:qj0 kt kd=some kv)(hx:qj0 vt xd=some xv):∀{l:List D}{es:List MapEntry}{i j:Nat}{v:Value},q8a kt vt l es→fsD kd l es i=some (i+j,v)→q8a kt vt (mset kd xd l) (es.modify j fun e=>{e with key:=kv,val:=xv})
 |[],[],i,j,v,_,h=>by simp[fsD] at h
 | p :: l, e :: es, i, j, v, ⟨⟨k, x, hp0, hk', hx'⟩, h⟩, hf => by
  subst hp0;by_cases hkk:kd=k
  ·have h1:kd=D.fld (.a [k,x]) 0:=hkk;have h2:D.fld (.a [k,x]) 0=kd:=hkk.symm;simp only[fsD,if_pos h1,gnS] at hf;obtain rfl:j=0:=by omega
   simp only[mset,if_pos h2]
   show q8a kt vt _ ({e with key:=kv,val:=xv}::es)
   exact⟨⟨kd,xd,rfl,hk,hx⟩,h⟩
  ·have h1:¬kd=D.fld (.a [k,x]) 0:=hkk;have h2:¬D.fld (.a [k,x]) 0=kd:=fun e=>hkk e.symm;simp only[fsD,if_neg h1] at hf;have hj:∃m,j=m+1:=by
    rcases qri (i:=i+1) (kd:=kd) h with⟨a,-⟩|⟨m,e',y,a,-⟩
    ·rw[a] at hf;cases hf
    ·rw[a] at hf;injection hf with hf;injection hf with hf;exact⟨m,by omega⟩
   obtain⟨m,rfl⟩:=hj;simp only[mset,if_neg h2]
   show q8a kt vt _ (e::es.modify m fun e=>{e with key:=kv,val:=xv})
   exact⟨⟨k,x,rfl,hk',hx'⟩,z4q hk hx (i:=i+1) (j:=m) (v:=v) h (by rw[hf];congr 2;omega)⟩
 |[],_::_,_,_,_,h,_=>h.elim
 |_::_,[],_,_,_,h,_=>h.elim
theorem qh6{t:Ty}(h:qm T=some t)(w:World)(F:Nat→Prop):∃v vs,(zeroValue T).run uA w=.ok v w∧jj t vs v∧(qbm t=false→Rd w F (q6c 8 t) t vs)∧vs.length=t.w∧v.cells=vs.toArray:=by
 cases t with
 |int k=>
  obtain⟨hr0,i,hi,-,hz⟩:=(q4q h).2;exact⟨.int k 0,[.int k 0],by simp[zeroValue,typeInfo,hi,hz],rfl,fun _=>⟨k,rfl,rfl,hr0⟩,rfl,rfl⟩
 |bool=>
  obtain⟨i,hi,-,hz⟩:=(q5e h).2;exact⟨.bool false,[.bool false],by simp[zeroValue,typeInfo,hi,hz],rfl,fun _=>⟨rfl,rfl⟩,rfl,rfl⟩
 |str=>
  obtain⟨i,hi,-,hz⟩:=(q4m h).2;exact⟨.string ⟨#[]⟩,[.string ⟨#[]⟩],by simp[zeroValue,typeInfo,hi,hz],rfl,fun _=>⟨rfl,rfl,by simp[LIM,ByteArray.size]⟩,rfl,rfl⟩
 |row E=>
  obtain⟨-,⟨te,hte⟩,i,hi,-,hz⟩:=q23 h;exact⟨.slice none 0 0,[.slice none 0 0],by simp[zeroValue,typeInfo,hi,hz],rfl,fun _=>⟨E,te,none,0,rfl,hte,rfl,by simp,by simp,by simp[maxLen],by simp[RdE]⟩,rfl,rfl⟩
 |map K V=>
  obtain⟨-,-,-,i,hi,-,hz⟩:=qby h;exact⟨.map none,[.map none],by simp[zeroValue,typeInfo,hi,hz],rfl,fun hm=>(by cases hm),rfl,rfl⟩
 |st S=>
  obtain⟨fields,fs,zc,i,hu,hf,hfb,hi,hs,hz,hpz,-⟩:=q5z h;obtain⟨c1,e1,hrd⟩:=z65 w F 8 hpz;have e2:c1=zc.toList:=by simpa using e1.symm
  subst e2;exact⟨.agg zc,zc.toList,by simp[zeroValue,typeInfo,hi,hz],by simp[jj],fun _=>hrd,(Rd.len _ hrd).1,by simp[Value.cells]⟩
end
end
section
section
variable{A:Nat→Prop}{c:Cx}{p:qj}{w:World}{a:Act}{σ:St}{cs:List (X×Bool)}{o:Oper}{F:Nat→Prop}
theorem zk4{V:TypeId}{own:List (Nat×Nat)}(hcon:Con A p w d (.map K V) own dep vs):
  ∃l kt vt g es clock,d=.mp l∧qm K=some kt∧qm V=some vt∧vs=[.map (some g)]∧w.heap[g]? =some (.map es clock)∧RdM w (FFD A p (dep++own.map (·.2))) l kt vt es.toList:=by
 have h:=hcon.rd (dep':=dep++own.map (·.2)) (fun x hx=>uD _ hx) (fun x hx=>uC _ hx);cases d with
 |mp l=>
  obtain⟨K',V',kt,vt,g,es,clock,e,h1,h2,h3,h4,h5,h6⟩:=h;injection e with e1 e2;subst e1 e2;exact⟨l,kt,vt,g,es,clock,rfl,h1,h2,h3,h5,h6⟩
 |u=>exact h.elim
 |i n=>obtain⟨k,e,-⟩:=h;cases e
 |b x=>cases h.1
 |s x=>cases h.1
 |r l=>obtain⟨E,te,A,cap,e,-⟩:=h;cases e
 |a l=>obtain⟨T',fs0,e1,-⟩:=h;cases e1
theorem qwy{V:TypeId}(hT:qm T=some (.map K V))(hK:qm K=some kt)(hV:qm V=some vt)(hbk:zt 8 kt=true)(hbv:qbm vt=false){clock:Nat}{es:Array MapEntry}(hg:w.heap[g]? =some (.map es clock)){l:List D}(hl:RdM w F l kt vt es.toList){v:Value}(hd:Rd w F kd kt vs)(hp:jj kt vs v)(ok:Bool):
  ∃x xs,(Instr.lookup T (.map (some g)) v ok).run uA w=.ok (if ok then .tuple #[x,.bool (mfind kd l).isSome] else x) w∧jj vt xs x∧Rd w F ((mfind kd l).getD (q6c 8 vt)) vt xs:=by
 have hck:(Instr.checkKey es.isEmpty 10000 K v).run uA w=.ok () w:=qer es.isEmpty 8 9992 hK hbk hd hp;have hfk:=qk2 hK hbk hd hp (z43 hbk hl);have hu:=(qby hT).1;rcases zh4 (i:=0) (kd:=kd) hl with⟨h1,h2⟩|⟨j,x,y,cv,h1,h2,h3,h4⟩
 ·obtain⟨zv,zvs,hzr,hzp,hzrd,-,-⟩:=qh6 hV w F;refine⟨zv,zvs,?_,hzp,by rw[h2];exact hzrd hbv⟩;rw[h1] at hfk;cases ok<;>simp[Instr.lookup,run_underlying hu,MapKept.run_getObj_map hg,hck,hfk,hzr,kE,h2]
 ·refine⟨y,cv,?_,h4,by rw[h2];exact h3⟩;rw[h1] at hfk;cases ok<;>simp[Instr.lookup,run_underlying hu,MapKept.run_getObj_map hg,hck,hfk,kE,h2]
theorem jj.one1{V:TypeId}{v:Value}(h:jj (.map K V) [.map (some g)] v):v=.map (some g):=by
 have:[Value.map (some g)]=[v]:=h;injection this with this;exact this.symm
theorem zhe(hf:SF c σ p w a)(hc:hold c.v cs=true){m k:Operand}{ok:Bool}(heq:o.op=.lookup T m k ok){ns:List X}(h:quiet uA σ cs o=some (ns,x)):q7p o a c p w x:=by
 simp only[quiet,heq] at h;split at h
 ·rename_i K V hT;split at h
  ·rename_i kt vt hK hV;split at h
   ·rename_i hb;simp only[gnB,uW] at hb;split at h
    ·rename_i am ak hm hk;have h1:=qo hf hc hm;have h2:=qo hf hc hk;unfold zq0 at h;split at h
     ·rename_i xm K' V' ownm depm xk kt' ownk depk;split at h
      ·rename_i hok;simp only[gnB] at hok;obtain⟨e1,e2,e3⟩:=hok;have e1:=gnN e1;have e2:=gnN e2;rw[Ty.beq_iff] at e3;subst e1 e2 e3;simp only[gnS] at h;obtain⟨rfl,rfl⟩:=h;obtain⟨cm,hpm,hcm⟩:=h1;obtain⟨ck,hpk,hck⟩:=h2;obtain⟨l,kt1,vt1,g,es,clock,hev,hK1,hV1,rfl,hg,hl⟩:=zk4 hcm;obtain rfl:=gnI (hK1.symm.trans hK);obtain rfl:=gnI (hV1.symm.trans hV);have hmv:=jj.one1 hpm;have hrk:=hck.rd (dep':=depk++ownk.map (·.2)) (fun x hx=>uD _ hx) (fun x hx=>uC _ hx);have hrk0:Rd w (FFD c.A p (depm++ownm.map (·.2))) (xk.ev c.v) kt1 ck:=Rd.flat 8 _ hb.1 hrk;obtain⟨x,xs,hr,hxp,hxr⟩:=qwy hT hK hV hb.1 hb.2 hg hl hrk0 hpk ok;have hfn:(mfind (xk.ev c.v) l).getD (q6c 8 vt1)=(X.fn 0 [xm,xk,.lit (q6c 8 vt1)]).ev c.v:=by
        show _=(mfind (xk.ev c.v) (xm.ev c.v).ms).getD (q6c 8 vt1)
        rw[hev];rfl
       have hfn1:D.b (mfind (xk.ev c.v) l).isSome=(X.fn 1 [xm,xk]).ev c.v:=by
        show _=D.b (mfind (xk.ev c.v) (xm.ev c.v).ms).isSome
        rw[hev];rfl
       have hget:(z8s vt1 xm xk (depm++ownm.map (·.2))).pd c p w x:=⟨xs,hxp,(Con.of_rd (by rw[←hfn];exact hxr)).depF⟩;refine⟨if ok then .tuple #[x,.bool (mfind (xk.ev c.v) l).isSome] else x,?_,?_⟩
       ·generalize a.eval=r at *;simp[execOp,heq,hmv,hr]
       ·cases ok with
        |false=>exact hget
        |true=>exact⟨[x,.bool _],rfl,x,_,rfl,hget,_,_,rfl,q1f hfn1.symm,rfl⟩
      ·cases h
     ·cases h
    ·cases h
   ·cases h
  ·cases h
 ·cases h
theorem zov{V:TypeId}(hT:qm T=some (.map K V)){y:AV}{v:Value}(hy:y.pd c p w v){ns:List X}(h:z88 K V y=some (ns,x))(hn:∀n∈ns,n.says c.v)(ty:TypeId):
  ∃u,(uX #[T] ty #[v]).run uA w=.ok u w∧x.pd c p w u:=by
 unfold z88 at h;split at h
 ·rename_i xm K' V' ownm depm;split at h
  ·rename_i hok;simp only[gnB] at hok;have e1:=gnN hok.1;have e2:=gnN hok.2;subst e1 e2;simp only[gnS] at h;obtain⟨rfl,rfl⟩:=h;obtain⟨cm,hpm,hcm⟩:=hy;obtain⟨l,kt1,vt1,g,es,clock,hev,hK1,hV1,rfl,hg,hl⟩:=zk4 hcm;obtain rfl:=jj.one1 hpm;have hu:=(qby hT).1;have hlen:=z9b hl;have hr:=qg7 (k:=.i64) (x:=.fn 3 [xm]) (hn _ (by simp));have hev3:(X.fn 3 [xm]).ev c.v=.i (es.size:Nat):=by
    show D.i ((xm.ev c.v).ms.length:Nat)=_
    rw[hev]
    show D.i (l.length:Nat)=_
    rw[hlen,vD]
   rw[hev3] at hr;exact⟨.int .i64 es.size,by simp[uX,run_underlying hu,MapKept.run_getObj_map hg,goInt,kE],q3i hev3 hr⟩
  ·cases h
 ·cases h
end
end
section
section
variable{c:Cx}{p:qj}{w:World}{a:Act}{σ:St}{cs:List (X×Bool)}{o:Oper}
theorem qk7(h:qm T=some (.row E))(hte:qm E=some te)(A:Option Addr)(len cap:Nat)(lo hi:Option (IntKind×Int)){l m:Nat}
  (hlo:match lo with|none=>l=0|some (_,i)=>i=l)(hhi:match hi with|none=>m=len|some (_,i)=>i=m)(h1:l≤m)(h2:m≤cap):
  (Instr.sliceAt T (.slice A len cap) (lo.map fun x=>.int x.1 x.2) (hi.map fun x=>.int x.1 x.2) none).run uA w=.ok (.slice (if cap=l then A else A.map (·.add (l * te.w))) (m - l) (cap - l)) w:=by
 have hu:=(q23 h).1;cases lo with
 | none =>
  simp only at hlo;subst hlo;cases hi with
  |none=>
   simp only at hhi;subst hhi;simp[Instr.sliceAt,Instr.slice,run_underlying hu,Instr.sliceBounds,q0x hte]
  |some y=>
   obtain⟨k,i⟩:=y;simp only at hhi;subst hhi;have h3:(m:Int)≤cap:=by omega
   simp[Instr.sliceAt,Instr.slice,run_underlying hu,Instr.sliceBounds,run_sliceBound,q0x hte,h2]
 | some x =>
  obtain⟨k',i'⟩:=x;simp only at hlo;subst hlo;cases hi with
  |none=>
   simp only at hhi;subst hhi;simp[Instr.sliceAt,Instr.slice,run_underlying hu,Instr.sliceBounds,run_sliceBound,q0x hte,h1]
  |some y=>
   obtain⟨k,i⟩:=y;simp only at hhi;subst hhi;simp[Instr.sliceAt,Instr.slice,run_underlying hu,Instr.sliceBounds,run_sliceBound,q0x hte,h1,h2]
theorem RdE.cut{l:List D}{lo hi cap:Nat}(h:RdE w F l te A 0)(h1:lo≤hi)(h2:hi≤l.length)(h3:l.length≤cap):
  RdE w F ((l.take hi).drop lo) te (if cap=lo then A else A.map (·.add (lo * te.w))) 0:=by
 rw[q1r] at h⊢;intro j hj;simp at hj;have hlt:lo+j<l.length:=by omega
 obtain⟨b,o,vs,rfl,hF,hr,hd⟩:=h (lo+j) hlt;rw[uZ] at hr;rw[if_neg (by omega)];refine⟨b,o+lo * te.w,vs,by simp[Addr.mid_eq],hF,?_,?_⟩
 ·rw[uZ,kI,←vT];exact hr
 ·simpa using hd
theorem zag(hte:qm E=some te){xr xl xh:X}{own:List (Nat×Nat)}{cap l m:Nat}(hcon:Con c.A p w (xr.ev c.v) (.row E) own dep [.slice A (xr.ev c.v).rs.length cap])
  (hl:xl.ev c.v=.i l)(hm:xh.ev c.v=.i m)(h1:l≤m)(h2:m≤(xr.ev c.v).rs.length):
  Con c.A p w ((X.cut xr xl xh).ev c.v) (.row E) [] (own.map (·.2)++dep) [.slice (if cap=l then A else A.map (·.add (l * te.w))) (m - l) (cap - l)]:=by
 obtain⟨te',A',cap',hte',hd,hev,h3,h4,h5,hE⟩:=hcon.row;injection hev with e1 _ e2;subst e1 e2;obtain rfl:=gnI (hte'.symm.trans hte);refine Con.of_rd ?_;have hx:(X.cut xr xl xh).ev c.v=.r (((xr.ev c.v).rs.take m).drop l):=by
  show D.r _=_
  rw[hl,hm];simp[D.int]
 rw[hx];have hlen:(((xr.ev c.v).rs.take m).drop l).length=m - l:=by simp;omega
 refine⟨E,te',_,cap - l,rfl,hte,by rw[hlen],by rw[hlen];omega,by rw[hlen];omega,by omega,hE.cut h1 h2 h3⟩
theorem zgz{A0:Nat→Prop}{own:List (Nat×Nat)}{len cap:Nat}(h:Con A0 p w d (.row E) own dep [.slice A len cap])(ho:lkA own 0=some pin)(h0:0<len):∃g,p pin=some g∧A=some ⟨g,0,none⟩:=by
 have hcf:Fl A0 p w dep (lkA own 0) d (.row E) [.slice A len cap]:=h;rw[ho] at hcf;rcases hcf.symm with⟨K,V,kt,vt,lm,gm,es,clock,em,-⟩|⟨E1,te1,l1,v1,q1,q2,q3,q4,q5⟩
 ·cases em
 injection q4 with q4;subst q4;rcases q5 with⟨r1,rfl⟩|⟨g,cap',cur,r1,r2,r3,r4,r5,r6,r7,r8⟩
 ·injection r1 with r1 r2 r3;omega
 ·injection r1 with r1 r9 r10;exact⟨g,r2,r1⟩
theorem zlj(hf:SF c σ p w a)(hc:hold c.v cs=true){lo hi:Option Operand}(heq:o.op=.slice T y lo hi none){b1:AV}(h1:opd σ cs y=some b1){ns:List X}(h:zfe uA T lo hi b1=some (ns,x)):q7p o a c p w x:=by
 unfold zfe at h;split at h
 ·rename_i k T' n E xs dep;split at h
  ·rename_i hok;simp only[gnB,kR] at hok;obtain⟨rfl,rfl,hT,hx0,hx1,hE⟩:=hok;obtain⟨te,hte⟩:=uN.1 hE;simp only[gnS] at h;obtain⟨rfl,rfl⟩:=h;have hx0:0<xs.length:=by simpa[kD] using hx0
   have hx1:xs.length<1000:=by simpa[kD] using hx1
   obtain⟨g,cells,⟨hp,-⟩,hev,hh,-,har⟩:=qo hf hc h1;have hcut:(Instr.sliceAt T (.pointer (some ⟨g,0,none⟩)) none none none).run uA w=.ok (.slice (some ⟨g,0,none⟩) xs.length xs.length) w:=by
    simp only[Instr.sliceAt,Instr.sliceBounds,uE,uK,run_underlying (zaj hT),uB,Instr.sureAddr,q0x hte];rw[if_neg (by omega)];simp[Addr.add]
   have hl2:(X.evs c.v xs).length=xs.length:=q81 xs;have hkey:∀dep':List Nat,(∀x∈k * 16::dep,x∈dep')→Rd w (FFD c.A p dep') (.r (X.evs c.v xs)) (.row E) [.slice (some ⟨g,0,none⟩) xs.length xs.length]:=fun dep' hd'=>by
    refine⟨E,te,some ⟨g,0,none⟩,xs.length,rfl,hte,by rw[hl2],by omega,?_,?_,q1r.2 fun j hj=>?_⟩
    ·rw[hl2];exact zq3 hte (by omega)
    ·unfold maxLen;omega
    ·obtain⟨vs,hr,hrd⟩:=z8p.at har hh hte (m:=j) (by omega);refine⟨g,0,vs,rfl,(FFD.one (dep:=dep) hp).mono hd',by simpa using hr,?_⟩;rw[gnG,gnK hj] at hrd;exact hrd.mono fun b _ hb=>hb.mono fun x hx=>hd' x (uF _ hx)
   refine⟨.slice (some ⟨g,0,none⟩) xs.length xs.length,?_,[_],rfl,hkey _ fun x hx=>hx⟩;generalize a.eval=r at *;simp only[execOp,heq,hev,kN,uE,hcut,uB,uK]
  ·cases h
 ·cases h
theorem zku(hf:SF c σ p w a)(hc:hold c.v cs=true){lo hi mx:Option Operand}(heq:o.op=.slice T y lo hi mx){ns:List X}(h:quiet uA σ cs o=some (ns,x))(hn:∀n∈ns,n.says c.v):q7p o a c p w x:=by
 cases mx with
 |some m=>simp only[quiet,heq] at h;cases h
 | none =>
  simp only[quiet,heq] at h;split at h
  ·rename_i hnc;simp only[gnS] at h;obtain⟨rfl,rfl⟩:=h;unfold zgm at hnc;split at hnc
   ·rename_i E hh hT hx0;split at hnc
    ·rename_i k _ _ hh0;obtain⟨-,⟨te,hte⟩,-⟩:=q23 hT;have hxv:a.eval y=.slice none 0 0:=qo hf hc hx0;obtain⟨m,hm,hmv,hmr⟩:=q0j (qo hf hc hh0);have hm0:m=0:=by
      have:D.i 0=D.i m:=hm;injection this with this;exact this.symm
     subst hm0;have:=qk7 (w:=w) (l:=0) (m:=0) hT hte none 0 0 none (some (k,0)) rfl rfl (uU _) (uU _);refine⟨.slice none 0 0,?_,rfl⟩;generalize a.eval=r at *;simp only[execOp,heq,hxv,hmv,kN,Option.map_some,uE] at this⊢;rw[this];rfl
    ·cases hnc
   ·cases hnc
  split at h
  ·rename_i E hT;obtain⟨-,⟨te,hte⟩,-⟩:=q23 hT;split at h
   ·rename_i xr own dep hy;obtain⟨y',hy1,hy2⟩:=uR.1 hy;have hcon:=q94 hte hy2 (qo hf hc hy1);obtain⟨te',A,cap,hte',hd,hev,h1,h2,h3,hE⟩:=hcon.row;rw[hev] at hcon
    have fin:∀(lo' hi':Option (IntKind×Int))(l m:Nat),lo.map a.eval=lo'.map (fun x=>Value.int x.1 x.2)→hi.map a.eval=hi'.map (fun x=>Value.int x.1 x.2)→
      (match lo' with|none=>l=0|some (_,i)=>i=l)→(match hi' with|none=>m=(xr.ev c.v).rs.length|some (_,i)=>i=m)→l≤m→m≤(xr.ev c.v).rs.length→
      (execOp a.eval o).run uA w=.ok (.value (.slice (if cap=l then A else A.map (·.add (l * te.w))) (m - l) (cap - l))) w:=fun lo' hi' l m e1 e2 h3 h4 h5 h6=>by
     have:=qk7 (w:=w) hT hte A (xr.ev c.v).rs.length cap lo' hi' h3 h4 h5 (by omega);generalize a.eval=r at *;simp only[execOp,heq,hev,e1,e2,kN,uE,this,uB,uK]
    split at h
    ·simp only[gnS] at h;obtain⟨rfl,rfl⟩:=h;refine⟨_,fin none none 0 _ rfl rfl rfl rfl (vE _) (uU _),[_],rfl,?_⟩;have e0:(if cap=0 then A else A.map (·.add (0 * te.w)))=A:=by
      split
      ·rfl
      ·cases A with
       |none=>rfl
       |some ad=>simp[Addr.add]
     rw[e0,kL,kL];exact hcon
    ·rename_i hop;split at h
     ·rename_i xh k _ _ hh;simp only[gnS] at h;obtain⟨rfl,rfl⟩:=h;obtain⟨m,hm,hmv,hmr⟩:=q0j (qo hf hc hh);have n1:=q0c (x:=.lit (.i 0)) (y:=xh) (hn _ (by simp));have n2:=q0c (x:=xh) (y:=qa8 xr) (hn _ (by simp));rw[hm] at n1 n2;rw[q4x] at n2;simp only[X.ev,D.int] at n1 n2;obtain⟨m',rfl⟩:=uV n1;have h2':m'≤(xr.ev c.v).rs.length:=by omega
      refine⟨_,fin none (some (k,m')) 0 m' rfl (by simp[hmv]) rfl rfl (vE _) h2',[_],rfl,?_⟩;have e0:(if cap=0 then A else A.map (·.add (0 * te.w)))=A:=by
       split
       ·rfl
       ·cases A with
        |none=>rfl
        |some ad=>simp[Addr.add]
      rw[e0,kL,kL];have hx:(X.cut xr (.lit (.i 0)) xh).ev c.v=.r ((xr.ev c.v).rs.take m'):=by
       show D.r _=_
       rw[hm];simp[D.int,X.ev]
      show Con c.A p w _ (.row E) own dep _
      rw[hx];have hcf:Fl c.A p w dep (lkA own 0) (xr.ev c.v) (.row E) [.slice A (xr.ev c.v).rs.length cap]:=hcon
      show Fl c.A p w dep (lkA own 0) _ (.row E) _
      cases ho:lkA own 0 with
      | none =>
       rw[ho] at hcf;have hrd:Rd w (FFD c.A p dep) (xr.ev c.v) (.row E) [.slice A (xr.ev c.v).rs.length cap]:=hcf;rw[hd] at hrd;obtain⟨E1,te1,A1,cap1,q1,q2,q3,q4,q5,q6,q7⟩:=hrd;injection q1 with q1;subst q1;injection q3 with q3;injection q3 with q3 _ q8;subst q3 q8;have hlen:((xr.ev c.v).rs.take m').length=m':=by simp;omega
       refine⟨E,te1,A,cap,rfl,q2,by rw[hlen],by rw[hlen];omega,by rw[hlen];omega,q6,?_⟩;have:=RdE.cut (lo:=0) (hi:=m') (cap:=cap) q7 (vE _) h2' q4;simp only[List.drop_zero] at this;have e1:(if cap=0 then A else A.map (·.add (0 * te1.w)))=A:=by
        split
        ·rfl
        ·cases A with
         |none=>rfl
         |some ad=>simp[Addr.add]
       rwa [e1] at this
      | some pin =>
       rw[ho] at hcf;rcases hcf.symm with⟨K,V,kt,vt,lm,gm,es,clock,em,-⟩|⟨E1,te1,l1,v1,q1,q2,q3,q4,q5⟩
       ·cases em
       injection q4 with q4;subst q4;have hl1:(xr.ev c.v).rs=l1:=by rw[q3];rfl
       have hlen:((xr.ev c.v).rs.take m').length=m':=by simp;omega
       refine .inl ⟨E1,te1,_,_,q1,q2,rfl,rfl,?_⟩;rcases q5 with⟨r1,rfl⟩|⟨g,cap',cur,r1,r2,r3,r4,r5,r6,r7,r8⟩
       ·injection r1 with r1 r2 r3;subst r1 r3;have:m'=0:=by rw[hl1] at h2';simpa using h2'
        subst this;exact .inl ⟨rfl,by simp⟩
       ·injection r1 with r1 r9 r10;subst r1 r10;refine .inr ⟨g,cap,cur,by rw[hlen],r2,r3,by rw[hlen];omega,r5,r6,by rw[hlen];omega,fun i hi=>?_⟩;have hi':i<m':=by rw[hlen] at hi;exact hi
        obtain⟨vs,s1,s2⟩:=r8 i (by rw[←hl1];omega);refine⟨vs,s1,?_⟩;have:((xr.ev c.v).rs.take m')[i]'hi=l1[i]'(by rw[←hl1];omega):=by
         simp[hl1]
        rw[this];exact s2
     ·cases h
    ·rename_i lop;split at h
     ·rename_i xl k _ _ hh;simp only[gnS] at h;obtain⟨rfl,rfl⟩:=h;obtain⟨m,hm,hmv,hmr⟩:=q0j (qo hf hc hh);have n1:=q0c (x:=.lit (.i 0)) (y:=xl) (hn _ (by simp));have n2:=q0c (x:=xl) (y:=qa8 xr) (hn _ (by simp));rw[hm] at n1 n2;rw[q4x] at n2;simp only[X.ev,D.int] at n1 n2;obtain⟨m',rfl⟩:=uV n1;have h2':m'≤(xr.ev c.v).rs.length:=by omega
      refine⟨_,fin (some (k,m')) none m' _ (by simp[hmv]) rfl rfl rfl h2' (uU _),?_⟩;have hcut:AV.pd c p w (.v (.cut xr xl (qa8 xr)) (.row E) [] (own.map (·.2)++dep)) (.slice (if cap=m' then A else A.map (·.add (m' * te.w))) ((xr.ev c.v).rs.length - m') (cap - m')):=⟨[_],rfl,zag hte hcon hm (q4x xr) h2' (uU _)⟩;unfold zvn;split
      ·rename_i pin ho;refine⟨⟨te,_,_,_,hte,rfl,fun hn=>?_⟩,hcut⟩;obtain⟨g,hg,rfl⟩:=zgz hcon ho (by omega);refine⟨g,hg,?_⟩;have e1:¬cap=m':=by have:=h1;omega
       rw[if_neg e1,hm];simp[Addr.add,D.int];exact fun h=>h.symm
      ·exact hcut
     ·cases h
    ·rename_i lop hop;split at h
     ·rename_i xl k _ _ xh k' _ _ hll hhh;simp only[gnS] at h;obtain⟨rfl,rfl⟩:=h;obtain⟨l,hl,hlv,hlr⟩:=q0j (qo hf hc hll);obtain⟨m,hm,hmv,hmr⟩:=q0j (qo hf hc hhh);have n1:=q0c (x:=.lit (.i 0)) (y:=xl) (hn _ (by simp));have n2:=q0c (x:=xl) (y:=xh) (hn _ (by simp));have n3:=q0c (x:=xh) (y:=qa8 xr) (hn _ (by simp));rw[hl] at n1 n2;rw[hm] at n2 n3;rw[q4x] at n3;simp only[X.ev,D.int] at n1 n2 n3;obtain⟨l',rfl⟩:=uV n1;obtain⟨m',rfl⟩:=uV (a:=m) (by omega);have h2':m'≤(xr.ev c.v).rs.length:=by omega
      exact⟨_,fin (some (k,l')) (some (k',m')) l' m' (by simp[hlv]) (by simp[hmv]) rfl rfl (by omega) h2',[_],rfl,zag hte hcon hl hm (by omega) h2'⟩
     ·cases h
   ·cases h
  ·rename_i hT;have huT:=(q4m hT).1;unfold zi6 at h;split at h
   ·rename_i xs _ _ hh hy _;split at h
    ·rename_i xh k _ _ hh2;simp only[gnS] at h;obtain⟨rfl,rfl⟩:=h;obtain⟨t,ht,htv,hts⟩:=qja (qo hf hc hy);obtain⟨m,hm,hmv,hmr⟩:=q0j (qo hf hc hh2);have n1:=q0c (x:=.lit (.i 0)) (y:=xh) (hn _ (by simp));have n2:=q0c (x:=xh) (y:=.slen xs) (hn _ (by simp));rw[hm] at n1 n2;simp only[X.ev,ht,D.int,D.str] at n1 n2;refine⟨.string (t.extract 0 m.toNat),?_,z0g (by show fnD 12 [X.ev c.v xs,X.ev c.v xh]=_;rw[ht,hm];rfl) ?_⟩
     ·have:=run_slice_string_h (P:=uA) w T t huT k m n1 n2;generalize a.eval=r at *;have hsl:=run_sliceAt_string (P:=uA) (w:=w) T (.string t) none (some (.int k m)) none huT;simp[execOp,heq,htv,hmv,hsl,this]
     ·rw[ByteArray.size_extract];omega
    ·cases h
   ·cases h
  ·obtain⟨b1,h1,h2⟩:=uR.1 h;exact zlj hf hc heq h1 h2
theorem zu5(hf:SF c σ p w a)(hc:hold c.v cs=true){cl:Call}(heq:o.op=.call cl){ns:List X}(h:quiet uA σ cs o=some (ns,x))(hn:∀n∈ns,n.says c.v):q7p o a c p w x:=by
 simp only[quiet,heq] at h;split at h
 ·rename_i y T hcal hargs htys;obtain⟨callee,⟨args⟩,⟨tys⟩⟩:=cl;simp only at hcal hargs htys;subst hcal hargs htys;split at h
  ·rename_i xs _ _ hy;obtain⟨s,hs,hsv,hsl⟩:=qja (qo hf hc hy);split at h
   ·rename_i hT;simp only[gnS] at h;obtain⟨rfl,rfl⟩:=h;have hlen:=z5n (w:=w) (q3j hT) s o.type;refine⟨_,?_,q3i (n:=s.size) (by show D.i _=_;rw[hs];rfl) (by unfold LIM at hsl;simp[ji];omega)⟩;generalize a.eval=r at *;simp[execOp,heq,hsv,resolve,invoke,builtin,hlen]
   ·cases h
  ·rename_i y' _ hy;split at h
   ·rename_i E hT;obtain⟨-,⟨te,hte⟩,-⟩:=q23 hT;split at h
    ·rename_i xr own dep hr;simp only[gnS] at h;obtain⟨rfl,rfl⟩:=h;have hcon:=q94 hte hr (qo hf hc hy);obtain⟨te',A,cap,hte',hd,hev,h1,h2,h3,hE⟩:=hcon.row;have hlen:=z92 (w:=w) hT A (xr.ev c.v).rs.length cap o.type;refine⟨_,?_,q3i (q4x xr) (by have h2:=kC h2 (za3 _);unfold LIM at h2;simp[ji];omega)⟩;generalize a.eval=r at *;simp[execOp,heq,hev,resolve,invoke,builtin,hlen]
    ·cases h
   ·rename_i K V hT;obtain⟨u,hr,hx⟩:=zov (w:=w) hT (qo hf hc hy) h hn o.type;refine⟨u,?_,hx⟩;generalize a.eval=r at *;simp[execOp,heq,resolve,invoke,builtin,hr]
   ·cases h
  ·cases h
 ·rename_i y T hcal hargs htys;obtain⟨callee,⟨args⟩,⟨tys⟩⟩:=cl;simp only at hcal hargs htys;subst hcal hargs htys;split at h
  ·rename_i E hy hT;simp only[gnS] at h;obtain⟨rfl,rfl⟩:=h;have hev:a.eval y=.slice none 0 0:=qo hf hc hy;have hcap:=z7y (w:=w) hT none 0 0 o.type;refine⟨_,?_,q3i (n:=0) rfl (by simp[ji])⟩;generalize a.eval=r at *;simp[execOp,heq,hev,resolve,invoke,builtin,hcap]
  ·cases h
 ·rename_i y z hcal hargs;obtain⟨callee,⟨args⟩,tys⟩:=cl;simp only at hcal hargs;subst hcal hargs;split at h
  ·rename_i xa k _ _ xb k' _ _ h1 h2;obtain⟨n,hn1,hnv,hnr⟩:=q0j (qo hf hc h1);obtain⟨m,hm1,hmv,hmr⟩:=q0j (qo hf hc h2);split at h
   ·rename_i hk;have hk:k=k':=by injection (Ty.beq_iff _ _).1 hk
    subst hk;simp only[gnS] at h;obtain⟨rfl,rfl⟩:=h;refine⟨.int k (if m<n then m else n),?_,q3i (n:=if m<n then m else n) ?_ ?_⟩
    ·generalize a.eval=r at *;simp[execOp,heq,hnv,hmv,resolve,invoke,builtin,Builtin.min_,Builtin.min2]
    ·by_cases hlt:m<n
     ·simp[X.ev,hn1,hm1,D.int,D.tt,hlt]
     ·simp[X.ev,hn1,hm1,D.int,D.tt,hlt]
    ·split
     ·exact hmr
     ·exact hnr
   ·cases h
  ·cases h
 ·cases h
theorem zrg(hf:SF c σ p w a)(hc:hold c.v cs=true){b z:Operand}(heq:o.op=.pick b y z){ns:List X}(h:quiet uA σ cs o=some (ns,x)):q7p o a c p w x:=by
 simp only[quiet,heq] at h;split at h
 ·rename_i xc _ _ hb;obtain⟨t,ht,htv⟩:=q2v (qo hf hc hb);have run:(execOp a.eval o).run uA w=.ok (.value (if t then a.eval y else a.eval z)) w:=by
   generalize a.eval=r at *;simp[execOp,heq,htv,asBool]
  split at h
  ·simp only[uJ,uO] at h;obtain⟨y',hy,rfl,rfl⟩:=h;have:D.b true=.b t:=ht;injection this with this;subst this;exact⟨_,run,qo hf hc hy⟩
  ·simp only[uJ,uO] at h;obtain⟨y',hy,rfl,rfl⟩:=h;have:D.b false=.b t:=ht;injection this with this;subst this;exact⟨_,run,qo hf hc hy⟩
  ·split at h
   ·rename_i ay az hy hz;simp only[uJ,uO] at h;obtain⟨r,hr,rfl,rfl⟩:=h;unfold zgv at hr;split at hr
    ·rename_i x1 t1 o1 d1 x2 t2 o2 d2;split at hr
     ·rename_i hok;simp only[gnB] at hok;obtain⟨htt,hfl⟩:=hok;rw[Ty.beq_iff] at htt;subst htt;injection hr with hr;subst hr;refine⟨_,run,?_⟩;have hcons:∀b:Bool,(xc.ev c.v).tt=b→hold c.v ((xc,b)::cs)=true:=fun b hb=>by simp[hold] at hc⊢;exact⟨hb,hc⟩
      have htt:(xc.ev c.v).tt=t:=by rw[ht];rfl
      have fin:∀{xx oo dd v},(AV.v xx t1 oo dd).pd c p w v→(if t then x1.ev c.v else x2.ev c.v)=xx.ev c.v→(AV.v (if Ty.beq t1 .bool then zac xc x1 x2 else .ite xc x1 x2) t1 [] []).pd c p w v:=fun{xx oo dd v}hv he=>by
       obtain⟨vs,hp1,hc1⟩:=hv;have hrd:=Rd.flat (w':=w) (F':=FFD c.A p []) 8 _ hfl (hc1.rd (dep':=dd++oo.map (·.2)) (fun x hx=>uD _ hx) (fun x hx=>uC _ hx));refine⟨vs,hp1,Con.of_rd ?_⟩;split
       ·rename_i hb;rw[Ty.beq_iff] at hb;subst hb;obtain⟨z,hz,-⟩:=q2v (c:=c) (p:=p) (w:=w) ⟨vs,hp1,hc1⟩;rw[hz] at he hrd;rw[zh3 ht he];exact hrd
       ·have:(X.ite xc x1 x2).ev c.v=xx.ev c.v:=by
         show(if(xc.ev c.v).tt then x1.ev c.v else x2.ev c.v)=_
         rw[htt];exact he
        rw[this];exact hrd
      cases t with
      |true=>exact fin (qo hf (hcons true htt) hy) rfl
      |false=>exact fin (qo hf (hcons false htt) hz) rfl
     ·cases hr
    ·cases hr
   ·cases h
 ·cases h
theorem zoi(hf:SF c σ p w a)(hc:hold c.v cs=true)(h:zqu σ cs y=some x):x.pd c p w (a.eval y):=by
 unfold zqu at h;split at h
 ·rename_i t;split at h
  ·rename_i q xx ty own dep hq;split at h
   ·injection h with h;subst h;obtain⟨v,h1,h2⟩:=hf.t t _ hq;have:a.eval (.tmp t)=v:=by
     show a.tmps.getD t undef=v
     rw[uY,h1];rfl
    rw[this];exact h2
   ·exact qo hf hc h
  ·exact qo hf hc h
 ·exact qo hf hc h
theorem qvp(hf:SF c σ p w a)(hc:hold c.v cs=true){ns:List X}(h:quiet uA σ cs o=some (ns,x))(hn:∀n∈ns,n.says c.v):q7p o a c p w x:=by
 cases heq:o.op with
 |move y=>
  simp only[quiet,heq,uJ,uO] at h;obtain⟨y',hy,rfl,rfl⟩:=h;exact⟨_,by simp[execOp,heq],zoi hf hc hy⟩
 |assign y=>
  simp only[quiet,heq,uJ,uO] at h;obtain⟨y',hy,rfl,rfl⟩:=h;exact⟨_,by simp[execOp,heq],qo hf hc hy⟩
 |pick b y z=>exact zrg hf hc heq h
 | unOp u T y =>
  cases u<;>simp only[quiet,heq,reduceCtorEq] at h;split at h
  ·rename_i xx _ _ hy;obtain⟨t,ht,htv⟩:=q2v (qo hf hc hy);simp only[gnS] at h;obtain⟨rfl,rfl⟩:=h;refine⟨.bool (!t),?_,q1f (qhg ht)⟩;generalize a.eval=r at *;simp[execOp,heq,htv,Op.unary]
  ·cases h
 |binOp op T y z u=>exact zll hf hc heq h hn
 |load T y=>exact zs8 hf hc heq h
 |fieldAddr T y j=>exact z6e hf hc heq h
 |field T y j=>exact zp4 hf hc heq h
 | nilCheck y =>
  simp only[quiet,heq] at h;split at h
  ·rename_i k path o' t hy;simp only[gnS] at h;obtain⟨rfl,rfl⟩:=h;have hh:=qo hf hc hy;obtain⟨g,hg,hev,hat0⟩:=hh;refine⟨_,?_,g,hg,rfl,hat0⟩;generalize a.eval=r at *;simp[execOp,heq,hev]
  ·rename_i x' t dep wr hy;simp only[gnS] at h;obtain⟨rfl,rfl⟩:=h;obtain⟨b,o1,vs,hev,hrest⟩:=qo hf hc hy;refine⟨_,?_,b,o1,vs,rfl,hrest⟩;generalize a.eval=r at *;simp[execOp,heq,hev]
  ·cases h
 |indexAddr T y i=>exact z3j hf hc heq h hn
 |index T y i=>exact zm0 hf hc heq h hn
 | extract y i =>
  simp only[quiet,heq] at h;split at h
  ·rename_i l hy;simp only[uJ,uO] at h;obtain⟨x',hx',rfl,rfl⟩:=h;obtain⟨vs,hev,hps⟩:=qo hf hc hy;have key:∀{l:List AV}{vs:List Value}{i:Nat}{x:AV},pds c p w l vs→l[i]? =some x→∃v,vs[i]? =some v∧x.pd c p w v:=by
    intro l
    induction l with
    |nil=>intro vs i x _ hi;simp at hi
    | cons a l ih =>
     rintro vs i x⟨v,r,rfl,ha,hl⟩hi;cases i with
     |zero=>simp at hi;subst hi;exact⟨v,rfl,ha⟩
     |succ i=>
      have:=ih (vs:=r) (i:=i) (x:=x) hl (by simpa using hi);simpa using this
   obtain⟨v,hv,hpd⟩:=key hps hx';refine⟨v,?_,hpd⟩;generalize a.eval=r at *;simp[execOp,heq,hev,Instr.extract,hv]
  ·cases h
 |slice T y lo hi mx=>exact zku hf hc heq h hn
 | convert S T y =>
  simp only[quiet,heq] at h;split at h
  ·rename_i xx k _ _ hy;obtain⟨m,hm,hmv,hmr⟩:=q0j (qo hf hc hy);split at h
   ·rename_i k' hT;split at h
    ·rename_i hS;simp only[gnS] at h;obtain⟨rfl,rfl⟩:=h;have hr:=qg7 (k:=k') (x:=xx) (hn _ (by simp));rw[hm] at hr;refine⟨.int k' m,?_,q3i hm hr⟩;obtain⟨ts,hts⟩:=uN.1 hS;obtain⟨i,hi,-⟩:=q47 hts;have hus:∃d,uA.underlying S=some d:=by
      cases ts with
      |int k=>exact⟨_,(q4q hts).1⟩
      |bool=>exact⟨_,(q5e hts).1⟩
      |str=>exact⟨_,(q4m hts).1⟩
      |row E=>exact⟨_,(q23 hts).1⟩
      |map K V=>exact⟨_,(qby hts).1⟩
      |st Z=>obtain⟨fields,_,_,_,hu,-⟩:=q5z hts;exact⟨_,hu⟩
     obtain⟨d,hd⟩:=hus;have hw:=qc2 hr;simp only[D.int] at hw;have hcv:∀w,(convert S T (.int k m)).run uA w=.ok (.int k' m) w:=fun w=>by
      simp[convert,run_underlying hd,run_underlying (q4q hT).1,Conv.intToInt,hw]
     generalize a.eval=r at *;simp[execOp,heq,hmv,hcv]
    ·cases h
   ·cases h
  ·rename_i xx E own dep hy;split at h
   ·rename_i hok;simp only[gnB] at hok;obtain⟨hT,hS,hE⟩:=hok;simp only[gnS] at h;obtain⟨rfl,rfl⟩:=h;obtain⟨vs,hp,hcon⟩:=qo hf hc hy;obtain rfl:vs=[a.eval y]:=hp;obtain⟨te,A,cap,hte,hd,hev,h1,h2,h3,hE2⟩:=hcon.row;obtain rfl:te=.int .u8:=gnI (hte.symm.trans (q3j hE));have huT:=(q4m (q3j hT)).1;have huS:=(q23 (q3j hS)).1;have huE:=(q4q (q3j hE)).1;generalize hl:(X.ev c.v xx).rs=l at hd hev h1 h2 hE2;have hsz:(qnv l).size=l.length:=by simp[qnv,ByteArray.size]
    have hll:l.length≤LIM:=kC h2 (za3 _);refine⟨.string (qnv l),?_,z0g (by show fnD 10 [X.ev c.v xx]=_;rw[hd];rfl) (by rw[hsz];exact hll)⟩;have hcv:(convert S T (.slice A l.length cap)).run uA w=.ok (.string (qnv l)) w:=by
     rw[q1r] at hE2;cases A with
     | none =>
      have h0:l=[]:=by
       cases l with
       |nil=>rfl
       |cons d l=>
        obtain⟨b,o,cs,e,-⟩:=hE2 0 (by simp);cases e
      subst h0;exact run_convert_bytes_nil w S E huS huE _ _ T huT
     | some ad =>
      have hcell:∀j(hj:j<l.length),ad.spot=none∧∃n,l[j]=.i n∧w.cell? ⟨ad.block,ad.off+j,none⟩=some (.int .u8 n):=fun j hj=>by
       obtain⟨b,o,cs,e,hb,hr,hd⟩:=hE2 j hj;injection e with e;subst e;refine⟨rfl,?_⟩;generalize l[j]=dj at hd;cases dj<;>simp only[Rd,reduceCtorEq,false_and,exists_false,and_false] at hd;rename_i n;obtain⟨k,e1,rfl,-⟩:=hd;injection e1 with e1;subst e1;refine⟨n,rfl,?_⟩;have:=hr 0 (.int .u8 n) rfl;simpa[Ty.w] using this
      cases l with
      |nil=>
       have:=run_loadCells_list (P:=uA) w ad [] (by simp);rw[run_convert_bytes_string w S T E _ _ _ huS huE huT];have h2:=run_bytesToString (P:=uA) w ad 0 cap [] (by simpa using this);exact h2
      | cons d0 l0 =>
       obtain⟨b,o,sp⟩:=ad;obtain rfl:sp=none:=(hcell 0 (by simp)).1;have:=run_convert_bytes_arg (P:=uA) w S E huS huE b o (d0::l0).length cap ((d0::l0).map D.int) (by simp) (fun i hi=>by
        obtain⟨-,n,hn1,hn2⟩:=hcell i hi;rw[hn2];have:((d0::l0).map D.int).getD i 0=n:=by
         rw[gnG,List.getElem?_map,gnK hi,hn1];rfl
        rw[this]) T huT
       rw[this];simp only[strOfNums,qnv,List.map_map];rfl
    generalize a.eval=r at *;simp[execOp,heq,hev,hcv]
   ·cases h
  ·cases h
 | makeFunc fn first captured =>
  cases fn<;>simp only[quiet,heq,reduceCtorEq] at h;rename_i f;split at h
  ·rename_i h0;simp only[uJ,uO] at h;obtain⟨l,hl,rfl,rfl⟩:=h;have:=z1d hf hc hl;have h0':first= #[]:=by simpa using h0
   subst h0';refine⟨.func (.func f) #[] (captured.toList.map a.eval).toArray,?_,_,rfl,this⟩;generalize a.eval=r at *;have he:captured.map r=(captured.toList.map r).toArray:=by
    apply vS;simp
   rw[←he];simp[execOp,heq,Instr.makeFunc]
  ·cases h
 |call cl=>exact zu5 hf hc heq h hn
 |lookup T m k ok=>exact zhe hf hc heq h
 |_=>exact absurd h (by simp[quiet,heq])
end
end
variable{q:Nat→Bool}{e:Ent}{σ:St}{a:Act}
section
def q5u:List (Nat×Nat)→Bool
 |[]=>true
 |e::l=>(lkA l e.1).isNone&&q5u l
theorem z15{l:List (Nat×Nat)}(h:lkA l j=none):∀e∈l,e.1≠j:=by
 induction l with
 |nil=>intro e he;cases he
 | cons x l ih =>
  intro e he;unfold lkA at h;split at h
  ·cases h
  ·rename_i hx;rcases kG.1 he with rfl|he
   ·intro e1;rw[←e1] at hx;simp at hx
   ·exact ih h e he
theorem qd{l:List (Nat×α)}{k:Nat}{x:α}(h:k≠j):lkA ((k,x)::l) j=lkA l j:=by
 show(if uG k j then some x else lkA l j)=_
 rw[if_neg (by simpa using h)]
theorem qa{l:List (Nat×α)}{k:Nat}{x:α}:lkA ((k,x)::l) k=some x:=by
 show(if uG k k then some x else lkA l k)=_
 simp
def unO(q:Nat→Bool):Option Nat→Option Nat
 |some x=>if q x then none else some x
 |none=>none
theorem qvf{l:List (Nat×Nat)}(hn:q5u l=true)(q:Nat→Bool)(j:Nat):lkA (l.filter fun e=> !q e.2) j=unO q (lkA l j):=by
 induction l with
 |nil=>rfl
 | cons e l ih =>
  obtain⟨k,x⟩:=e;simp only[q5u,gnB,kR] at hn;by_cases hk:k=j
  ·subst hk;rw[qa];simp only[kB,unO];by_cases hq:q x=true
   ·simp only[hq,Bool.not_true,gnF,if_false,if_true];rw[ih hn.2,hn.1];rfl
   ·simp only[hq,Bool.not_false,if_true];rw[qa];simp
  ·rw[qd hk,←ih hn.2];simp only[kB];split
   ·rw[qd hk]
   ·rfl
theorem q35{l:List (Nat×α)}{k:Nat}(h:k≠j):lkA (l.filter fun e=>e.1 !=k) j=lkA l j:=by
 induction l with
 |nil=>rfl
 | cons e l ih =>
  obtain⟨m,x⟩:=e;simp only[kB];by_cases hm:m=j
  ·subst hm;have:(m !=k)=true:=by simpa using Ne.symm h
   rw[if_pos this,qa,qa]
  ·rw[qd hm];split
   ·rw[qd hm,ih]
   ·exact ih
def q08{α:Type}(l:List (Nat×α))(k:Nat)(x:α):List (Nat×α):=(k,x)::l.filter fun e=>e.1 !=k
theorem q1w{l:List (Nat×α)}{k:Nat}{x:α}:lkA (q08 l k x) k=some x:=qa
theorem q3z{l:List (Nat×α)}{k:Nat}{x:α}(h:k≠j):lkA (q08 l k x) j=lkA l j:=by
 unfold q08;rw[qd h,q35 h]
theorem zb{l:List (Nat×α)}{k:Nat}:lkA (l.filter fun e=>e.1 !=k) k=none:=by
 induction l with
 |nil=>rfl
 | cons e l ih =>
  obtain⟨m,x⟩:=e;simp only[kB];split
  ·rename_i hm;rw[qd (by simpa using hm),ih]
  ·exact ih
def qjk(own:List (Nat×Nat))(j:Nat)(o:Option Nat):List (Nat×Nat):=match o with
 |some pin=>(j,pin)::own.filter fun e=>e.1 !=j
 |none=>own.filter fun e=>e.1 !=j
theorem qah(own:List (Nat×Nat))(j:Nat)(o:Option Nat)(i:Nat):lkA (qjk own j o) i=if i=j then o else lkA own i:=by
 cases o with
 | some pin =>
  by_cases h:i=j
  ·subst h;rw[if_pos rfl];exact qa
  ·rw[if_neg h]
   show lkA ((j,pin)::_) i=_
   rw[qd (Ne.symm h),q35 (Ne.symm h)]
 | none =>
  by_cases h:i=j
  ·subst h;rw[if_pos rfl];exact zb
  ·rw[if_neg h];exact q35 (Ne.symm h)
mutual
def AV.un(q:Nat→Bool):AV→AV
 |.v x t own dep=>if q5u own then .v x t (own.filter fun e=> !q e.2) (dep.filter fun y=> !q y) else .any
 |.rd x t dep wr=>.rd x t (dep.filter fun y=> !q y) (match wr with|some r=>if q r.1 then none else some r|none=>none)
 |.ref k path o t=>if q (k * 16) then .any else .ref k path o t
 |.tup l=>.tup (znm q l)
 |.gd c a=>.gd c (AV.un q a)
 |.fn f l=>.fn f (znm q l)
 |.bx k T a=>if q (k * 16) then .any else .bx k T (AV.un q a)
 |.fr T a=>.fr T (AV.un q a)
 |.ff f T1 x1 t1 T2 x2 t2 dep=>.ff f T1 x1 t1 T2 x2 t2 (dep.filter fun y=> !q y)
 |.sn t a=>.sn t (AV.un q a)
 |.ar E xs dep=>.ar E xs (dep.filter fun y=> !q y)
 |.lv k t=>if q (k * 16) then .any else .lv k t
 |.ax k T n a=>if q (k * 16) then .any else .ax k T n (AV.un q a)
 |.pt pin i E a=>if q pin then .any else .pt pin i E (AV.un q a)
 |.any=>.any
 |.undef=>.undef
 |.nilS=>.nilS
 |.nb x neg=>.nb x neg
 |.nilP=>.nilP
def znm(q:Nat→Bool):List AV→List AV
 |[]=>[]
 |a::l=>AV.un q a::znm q l
end
def Ent.un(q:Nat→Bool)(e:Ent):Ent:=⟨e.x,e.t,e.own.filter fun y=> !q y.2,e.dep.filter fun y=> !q y⟩
def unM(q:Nat→Bool):List (Nat×Ent)→List (Nat×Ent)
  |[]=>[]
  |(k,e)::l=>if q (k * 16)|| !q5u e.own then(unM q l).filter (fun y=>y.1 !=k) else(k,e.un q)::unM q l
def St.un(q:Nat→Bool)(σ:St):St:=⟨σ.t.map fun e=>(e.1,e.2.un q),unM q σ.m⟩
def unP(q:Nat→Bool)(p:qj):qj:=fun x=>if q x then none else p x
section
variable{A:Nat→Prop}{F:Flr}{q:Nat→Bool}{p:qj}{w:World}
theorem q2l{x:Nat}(h:unP q p x=some b):q x=false∧p x=some b:=by
 unfold unP at h;split at h
 ·cases h
 ·rename_i hq;exact⟨by simpa using hq,h⟩
theorem qcn{x:Nat}(hq:q x=false)(h:p x=some b):unP q p x=some b:=by
 unfold unP;rw[hq];exact h
theorem q7h.un(h:q7h p b):q7h (unP q p) b:=fun x hx=>h x (q2l hx).2
theorem qj2(inj:∀x y b,p x=some b→p y=some b→x=y){x:Nat}(hq:q x=true)(h:p x=some b):q7h (unP q p) b:=fun y hy=>by
 obtain⟨h1,h2⟩:=q2l hy;rw[inj y x b h2 h] at h1;rw[h1] at hq;cases hq
theorem FFD.un(inj:∀x y b,p x=some b→p y=some b→x=y)(pa:∀x b,p x=some b→A b)(h:FFD A p dep b):FFD A (unP q p) (dep.filter fun y=> !q y) b:=by
 rcases h with⟨ha,hf⟩|⟨x,hx,e⟩
 ·exact .inl ⟨ha,hf.un⟩
 ·cases hq:q x with
  |true=>exact .inl ⟨pa x b e,qj2 inj hq e⟩
  |false=>exact .inr ⟨x,List.mem_filter.2 ⟨hx,by simp[hq]⟩,qcn hq e⟩
variable(inj:∀x y b,p x=some b→p y=some b→x=y)(pa:∀x b,p x=some b→A b)
include inj pa
theorem Rd.un{t:Ty}(h:Rd w (FFD A p dep) d t cs):Rd w (FFD A (unP q p) (dep.filter fun y=> !q y)) d t cs:=
 h.mono fun b _ hb=>hb.un inj pa
theorem Fl.un{t:Ty}(h:Fl A p w dep o d t cs):Fl A (unP q p) w (dep.filter fun y=> !q y) (unO q o) d t cs:=by
 cases o with
 |none=>exact Rd.un inj pa h
 | some pin =>
  rcases h.symm with⟨K,V,kt,vt,l,g,es,clock,rfl,hK,hV,rfl,rfl,hg,hh,hl⟩|⟨E,te,l,v,rfl,hte,rfl,rfl,hv⟩
  ·cases hq:q pin with
   |false=>
    simp only[unO,hq,gnF,if_false];exact .inr ⟨K,V,kt,vt,l,g,es,clock,rfl,hK,hV,rfl,rfl,qcn hq hg,hh,hl⟩
   |true=>
    simp only[unO,hq,if_true];exact⟨K,V,kt,vt,g,es,clock,rfl,hK,hV,rfl,.inl ⟨pa pin g hg,qj2 inj hq hg⟩,hh,hl.rdM⟩
  cases hq:q pin with
  | false =>
   simp only[unO,hq,gnF,if_false];refine .inl ⟨E,te,l,v,rfl,hte,rfl,rfl,?_⟩;rcases hv with hv|⟨g,cap,cur,rfl,hg,hh,h1,h2,h3,h4,h5⟩
   ·exact .inl hv
   ·refine .inr ⟨g,cap,cur,rfl,qcn hq hg,hh,h1,h2,h3,h4,fun i hi=>?_⟩;obtain⟨cs,hr,hx⟩:=h5 i hi;exact⟨cs,hr,Rd.un inj pa hx⟩
  | true =>
   simp only[unO,hq,if_true]
   show Rd w _ (.r l) (.row E) [v]
   rcases hv with⟨rfl,rfl⟩|⟨g,cap,cur,rfl,hg,hh,h1,h2,h3,h4,h5⟩
   ·exact⟨E,te,none,0,rfl,hte,rfl,by simp,by simp,by simp[maxLen],by simp[RdE]⟩
   ·refine⟨E,te,some ⟨g,0,none⟩,cap,rfl,hte,rfl,h1,h4,h2,q1r.2 fun j hj=>?_⟩;obtain⟨cs,hr,hx⟩:=h5 j hj;exact⟨g,0,cs,rfl,.inl ⟨pa pin g hg,qj2 inj hq hg⟩,by simpa using hr,Rd.un inj pa hx⟩
theorem Fls.un{own:List (Nat×Nat)}(hn:q5u own=true):∀{ds:List D}{j:Nat}{fs:List Ty}{cs:List Value},Fls A p w dep own j ds fs cs→Fls A (unP q p) w (dep.filter fun y=> !q y) (own.filter fun e=> !q e.2) j ds fs cs
 |[],_,_,_,h=>h
 |d::ds,j,fs,cs,⟨t,ts,c1,c2,e1,e2,h1,h2⟩=>⟨t,ts,c1,c2,e1,e2,by rw[qvf hn];exact Fl.un inj pa h1,Fls.un hn h2⟩
theorem Con.un{own:List (Nat×Nat)}(hn:q5u own=true){t:Ty}(h:Con A p w d t own dep cs):Con A (unP q p) w d t (own.filter fun e=> !q e.2) (dep.filter fun y=> !q y) cs:=by
 unfold Con at h⊢;split
 ·obtain⟨fs,ds,hf,e,h⟩:=h;exact⟨fs,ds,hf,e,Fls.un inj pa hn h⟩
 ·rename_i hne;split at h
  ·rename_i T;exact absurd rfl (hne T)
  ·rw[qvf hn];exact Fl.un inj pa h
end
mutual
theorem AV.un_ok{w:World}(inj:∀x y b,p x=some b→p y=some b→x=y)(pa:∀x b,p x=some b→c.A b):∀(a:AV)(v:Value),a.pd c p w v→(a.un q).pd c (unP q p) w v
 |.any,v,h=>h
 |.undef,v,h=>h
 |.nilS,v,h=>h
 |.nb x neg,v,h=>h
 |.nilP,v,h=>h
 | .v x t own dep, v, ⟨cs, hp, hc⟩ => by
  unfold AV.un;split
  ·rename_i hn;exact⟨cs,hp,Con.un inj pa hn hc⟩
  ·trivial
 | .ref k pt o t, v, ⟨g, hg, e⟩ => by
  unfold AV.un;split
  ·trivial
  ·rename_i hq;exact⟨g,qcn (by simpa using hq) hg,e⟩
 | .rd x t dep wr, v, ⟨b, o, cs, e, hb, hr, h0, hd, hw⟩ => by
  refine⟨b,o,cs,e,hb.un inj pa,hr,h0,Rd.un inj pa hd,?_⟩
  match wr,hw with
  |none,hw=>trivial
  | some (pin, i, pt, q', te), hw =>
   simp only;split
   ·trivial
   ·rename_i hq;exact⟨qcn (by simpa using hq) hw.1,hw.2⟩
 |.tup l,v,⟨vs,e,h⟩=>⟨vs,e,z2c inj pa l vs h⟩
 |.gd cs a,v,h=>⟨fun hc=>AV.un_ok inj pa a v (h.1 hc),h.2⟩
 |.fn f l,v,⟨vs,e,h⟩=>⟨vs,e,z2c inj pa l vs h⟩
 | .bx k T a, v, ⟨g, u, hg, e, hh, h⟩ => by
  unfold AV.un;split
  ·trivial
  ·rename_i hq;exact⟨g,u,⟨qcn (by simpa using hq) hg.1,hg.2⟩,e,hh,AV.un_ok inj pa a u h⟩
 | .ax k T n a, v, ⟨g, u, hg, e, hh, hn, h⟩ => by
  unfold AV.un;split
  ·trivial
  ·rename_i hq;exact⟨g,u,⟨qcn (by simpa using hq) hg.1,hg.2⟩,e,hh,hn,AV.un_ok inj pa a (.agg u) h⟩
 |.sn t a,v,⟨e,h⟩=>⟨e,AV.un_ok inj pa a v h⟩
 | .lv k t, v, ⟨g, cs, T, hg, e, hh, hs⟩ => by
  unfold AV.un;split
  ·trivial
  ·rename_i hq;exact⟨g,cs,T,⟨qcn (by simpa using hq) hg.1,hg.2⟩,e,hh,hs⟩
 |.ar E xs dep,v,⟨te,cs,e1,e2,h3,h⟩=>⟨te,cs,e1,e2,h3,fun j d hj=>Rd.un inj pa (h j d hj)⟩
 | .pt pin i E a, v, ⟨⟨te, A, n, cap, e1, e2, h3⟩, h⟩ => by
  unfold AV.un;split
  ·trivial
  ·rename_i hq;exact⟨⟨te,A,n,cap,e1,e2,fun hn=>by
    obtain⟨g,hg,e⟩:=h3 hn;exact⟨g,qcn (by simpa using hq) hg,e⟩⟩,AV.un_ok inj pa a v h⟩
 |.fr T a,v,⟨g,u,ha,hf,e,hh,h⟩=>⟨g,u,ha,fun y hy=>hf y (q2l hy).2,e,hh,AV.un_ok inj pa a u h⟩
 |.ff f T1 x1 t1 T2 x2 t2 dep,v,⟨g,cs1,cs2,e,ha,hb,hfr,hg,hg2,r1,r2⟩=>⟨g,cs1,cs2,e,⟨ha.1,fun y hy=>ha.2 y (q2l hy).2⟩,⟨hb.1,fun y hy=>hb.2 y (q2l hy).2⟩,hfr,hg,hg2,Rd.mono (fun b _ h=>⟨h.1.un inj pa,h.2⟩) r1,Rd.mono (fun b _ h=>⟨h.1.un inj pa,h.2⟩) r2⟩
theorem z2c{w:World}(inj:∀x y b,p x=some b→p y=some b→x=y)(pa:∀x b,p x=some b→c.A b):∀(l:List AV)(vs:List Value),pds c p w l vs→pds c (unP q p) w (znm q l) vs
 |[],vs,h=>h
 |a::l,vs,⟨v,r,e,ha,hl⟩=>⟨v,r,e,AV.un_ok inj pa a v ha,z2c inj pa l r hl⟩
end
section
variable{c:Cx}{q:Nat→Bool}{p:qj}{w:World}(inj:∀x y b,p x=some b→p y=some b→x=y)(pa:∀x b,p x=some b→c.A b)
include inj pa
theorem q1v.un{k:Nat}(hq:q (k * 16)=false)(hn:q5u e.own=true)(h:q1v c p w k e):q1v c (unP q p) w k (e.un q):=by
 obtain⟨g,cs,T,hg,hh,hty,hc⟩:=h;exact⟨g,cs,T,qcn hq hg,hh,hty,Con.un inj pa hn hc⟩
omit inj pa in
theorem zts{l:List (Nat×Ent)}{k:Nat}(h:lkA (unM q l) k=some e):∃e0,lkA l k=some e0∧e=e0.un q∧q (k * 16)=false∧q5u e0.own=true:=by
 induction l with
 |nil=>cases h
 | cons x l ih =>
  obtain⟨m,y⟩:=x;unfold unM at h;split at h
  ·by_cases hm:m=k
   ·subst hm;rw[zb] at h;cases h
   ·rw[q35 hm] at h;rw[qd hm];exact ih h
  ·rename_i hq;simp only[kQ,uW,not_or,Bool.not_eq_false] at hq;by_cases hm:m=k
   ·subst hm;rw[qa] at h;injection h with h;exact⟨y,qa,h.symm,by simpa using hq.1,hq.2⟩
   ·rw[qd hm] at h⊢;exact ih h
omit inj pa in
theorem q8p{β:Type}{f:α→β}{l:List (Nat×α)}{k:Nat}{y:β}(h:lkA (l.map fun e=>(e.1,f e.2)) k=some y):∃x,lkA l k=some x∧y=f x:=by
 induction l with
 |nil=>cases h
 | cons e l ih =>
  obtain⟨m,x⟩:=e;by_cases hm:m=k
  ·subst hm;rw[vP,qa] at h;injection h with h;exact⟨x,qa,h.symm⟩
  ·rw[vP,qd hm] at h;rw[qd hm];exact ih h
theorem SF.un(h:SF c σ p w a):SF c (σ.un q) (unP q p) w a:=by
 refine⟨fun t x hx=>?_,fun k e he=>?_⟩
 ·obtain⟨y,hy,rfl⟩:=q8p hx;obtain⟨v,h1,h2⟩:=h.t t y hy;exact⟨v,h1,AV.un_ok inj pa y v h2⟩
 ·obtain⟨e0,h0,rfl,hq,hn⟩:=zts he;exact q1v.un inj pa hq hn (h.m k e0 h0)
end
theorem Bs.un{A:Nat→Prop}{F:Flr}{w0:World}{S0:Nat→Prop}{w:World}(h:Bs A F w0 S0 p w)(q:Nat→Bool):Bs A F w0 S0 (unP q p) w:=
 ⟨fun x y b hx hy=>h.inj x y b (q2l hx).2 (q2l hy).2,fun x b hx=>h.bd x b (q2l hx).2,h.but,fun x b hx=>h.pin x b (q2l hx).2,h.new,fun x b hx=>h.pa x b (q2l hx).2,fun x b hx=>h.obj x b (q2l hx).2,h.flo⟩
def okA(Z L:Nat→Bool)(a:AV):Bool:=a.pins.all (fun x=> !Z x&& !L x)&&a.keys.all fun x=> !L x
def okE(Z L:Nat→Bool)(k:Nat)(e:Ent):Bool:=e.pins.all (fun x=> !Z x&& !L x)&&(!Z (k * 16)&& !L (k * 16))
def q9w(Z L:Nat→Bool)(l:List (Nat×AV)):List (Nat×AV):=l.map fun e=>(e.1,if okA Z L e.2 then e.2 else .any)
def q9x(Z L:Nat→Bool):List (Nat×Ent)→List (Nat×Ent)
  |[]=>[]
  |(k,e)::l=>if okE Z L k e then(k,e)::q9x Z L l else(q9x Z L l).filter fun y=>y.1 !=k
theorem zj3{Z L:Nat→Bool}{l:List (Nat×Ent)}{k:Nat}(h:lkA (q9x Z L l) k=some e):lkA l k=some e∧okE Z L k e=true:=by
 induction l with
 |nil=>cases h
 | cons x l ih =>
  obtain⟨m,y⟩:=x;unfold q9x at h;split at h
  ·rename_i hok;by_cases hm:m=k
   ·subst hm;rw[qa] at h⊢;injection h with h;subst h;exact⟨rfl,hok⟩
   ·rw[qd hm] at h⊢;exact ih h
  ·by_cases hm:m=k
   ·subst hm;rw[zb] at h;cases h
   ·rw[q35 hm] at h;rw[qd hm];exact ih h
theorem qdv{Z L:Nat→Bool}{a:AV}(h:okA Z L a=true):(∀x∈a.pins,Z x=false∧L x=false)∧∀x∈a.keys,L x=false:=by
 simp only[okA,gnB,uH,uW] at h;exact⟨fun x hx=>h.1 x hx,fun x hx=>h.2 x hx⟩
theorem zic{Z L:Nat→Bool}{k:Nat}(h:okE Z L k e=true):(∀x∈e.pins,Z x=false∧L x=false)∧(Z (k * 16)=false∧L (k * 16)=false):=by
 simp only[okE,gnB,uH,uW] at h;exact⟨fun x hx=>h.1 x hx,h.2⟩
theorem SF.keep{p':qj}{w:World}{Z L:Nat→Bool}(h:SF c σ p w a)(hs:Stab c.A Z L p w p' w'):SF c ⟨q9w Z L σ.t,q9x Z L σ.m⟩ p' w' a:=by
 refine⟨fun t x hx=>?_,fun k e he=>?_⟩
 ·obtain⟨y,hy,rfl⟩:=q8p (f:=fun y=>if okA Z L y then y else .any) hx;obtain⟨v,h1,h2⟩:=h.t t y hy;refine⟨v,h1,?_⟩;split
  ·rename_i hok;exact AV.kept hs y v (qdv hok).1 (qdv hok).2 h2
  ·trivial
 ·obtain⟨h1,h2⟩:=zj3 he;exact(h.m k e h1).kept hs (zic h2).1 (zic h2).2
theorem SF.put{w:World}{t:Nat}{v:Value}(h:SF c σ p w a)(ht:t<a.tmps.size)(hv:x.pd c p w v):SF c ⟨q08 σ.t t x,σ.m⟩ p w (a.put (some t) v):=by
 refine⟨fun s y hy=>?_,h.m⟩;by_cases hts:t=s
 ·subst hts;rw[q1w] at hy;injection hy with hy;subst hy;exact⟨v,Array.getElem?_setIfInBounds_self_of_lt ht,hv⟩
 ·rw[q3z hts] at hy;obtain⟨u,h1,h2⟩:=h.t s y hy;exact⟨u,by rw[show(a.put (some t) v).tmps[s]? =a.tmps[s]? from Array.getElem?_setIfInBounds_ne hts];exact h1,h2⟩
theorem SF.var{w:World}{k:Nat}(h:SF c σ p w a)(he:q1v c p w k e):SF c ⟨σ.t,q08 σ.m k e⟩ p w a:=by
 refine⟨h.t,fun j y hy=>?_⟩;by_cases hkj:k=j
 ·subst hkj;rw[q1w] at hy;injection hy with hy;subst hy;exact he
 ·rw[q3z hkj] at hy;exact h.m j y hy
end
variable{cur:Array Value}{dep2:List Nat}
section
def qft(p:qj)(x g:Nat):qj:=fun y=>if y=x then some g else p y
section
variable{A:Nat→Prop}{F:Flr}{p:qj}{w w0:World}{S0:Nat→Prop}
theorem q1u{x:Nat}:qft p x g x=some g:=if_pos rfl
theorem qac{x y:Nat}(h:y≠x):qft p x g y=p y:=if_neg h
theorem q7v{x:Nat}(hx:p x=none)(bd:∀x b,p x=some b→b<w.heap.size)(o:Obj):Stab A no no p w (qft p x w.heap.size) (w.alloc o):=by
 refine⟨by simp,fun b hb ha hf=>⟨by rw[hget,if_neg (by omega)],fun y hy=>?_⟩,fun y b _ hy=>?_,fun y b _ hy=>?_⟩
 ·by_cases hyx:y=x
  ·subst hyx;rw[q1u] at hy;injection hy with hy;omega
  ·rw[qac hyx] at hy;exact hf y hy
 ·rw[qac (fun e=>by rw[e,hx] at hy;cases hy)];exact hy
 ·have:=bd y b hy;rw[hget,if_neg (by omega)]
theorem qyk{x:Nat}(h:Bs A F w0 S0 p w){o:Obj}(ho:(∃cs T,o=.cells cs T)∨∃es clock,o=.map es clock):Bs A F w0 S0 (qft p x w.heap.size) (w.alloc o):=by
 have hsz:w0.heap.size≤w.heap.size:=h.but.size;refine⟨fun y z b hy hz=>?_,fun y b hy=>?_,h.but.alloc _,fun y b hy=>?_,h.new,fun y b hy=>?_,fun y b hy=>?_,h.flo.same fun k hk _=>by rw[hget,if_neg (by omega)]⟩
 ·by_cases h1:y=x
  ·subst h1;rw[q1u] at hy;injection hy with hy;by_cases h2:z=y
   ·exact h2.symm
   ·rw[qac h2] at hz;have:=h.bd z b hz;omega
  ·rw[qac h1] at hy;by_cases h2:z=x
   ·subst h2;rw[q1u] at hz;injection hz with hz;have:=h.bd y b hy;omega
   ·rw[qac h2] at hz;exact h.inj y z b hy hz
 ·by_cases h1:y=x
  ·subst h1;rw[q1u] at hy;injection hy with hy;simp;omega
  ·rw[qac h1] at hy;have:=h.bd y b hy;simp;omega
 ·by_cases h1:y=x
  ·subst h1;rw[q1u] at hy;injection hy with hy;exact .inr (by omega)
  ·rw[qac h1] at hy;exact h.pin y b hy
 ·by_cases h1:y=x
  ·subst h1;rw[q1u] at hy;injection hy with hy;exact(h.new b (by omega)).1
  ·rw[qac h1] at hy;exact h.pa y b hy
 ·by_cases h1:y=x
  ·subst h1;rw[q1u] at hy;injection hy with hy;subst hy;rcases ho with⟨cs,T,rfl⟩|⟨es,clock,rfl⟩
   ·exact .inl ⟨cs,T,q0h rfl⟩
   ·exact .inr ⟨es,clock,q0h rfl⟩
  ·rw[qac h1] at hy;have:=h.bd y b hy;rcases h.obj y b hy with⟨cs',T',h2⟩|⟨es,clock,h2⟩
   ·exact .inl ⟨cs',T',q2t h2⟩
   ·exact .inr ⟨es,clock,q2t h2⟩
theorem qfi{x:Nat}(h:Bs A F w0 S0 p w)(cs:Array Value)(T:TypeId):Bs A F w0 S0 (qft p x w.heap.size) (w.alloc (.cells cs T)):=qyk h (.inl ⟨cs,T,rfl⟩)
theorem q68{x:Nat}(inj:∀x y b,p x=some b→p y=some b→x=y)(hx:p x=some g)(cs:Array Value):Stab A (fun y=>uG y x) no p w p (w.setRow g cs):=by
 refine⟨by simp,fun b hb ha hf=>⟨setRow_other w g b cs (fun e=>hf x (by rw[e];exact hx)),hf⟩,fun y b _ hy=>hy,fun y b hz hy=>?_⟩;refine setRow_other w g b cs fun e=>?_;subst e;have:=inj y x b hy hx;simp[this] at hz
theorem q7s{S:Nat→Prop}(h:But S w0 w)(hg:S g∨w0.heap.size≤g)(cs:Array Value):But S w0 (w.setRow g cs):=
 ⟨h.os,h.tape,h.output,by simpa using h.size,fun k hk hn=>(setRow_other w g k cs (fun e=>by
  rcases hg with hS|hlt
  ·exact hn (e▸hS)
  ·omega)).trans (h.block k hk hn)⟩
def FlW(F:Flr)(w:World)(g:Nat)(cs:Array Value):Prop:=0<F.fl g→∀cur T,w.heap[g]? =some (.cells cur T (0,0))→cs.size=cur.size∧∀j,j<F.fl g→cs[j]? =cur[j]?
theorem Flo.setRow(h:Flo F w0 w){cs:Array Value}(hf:FlW F w g cs):Flo F w0 (w.setRow g cs):=fun k hk=>by
 obtain⟨c0,c1,T,te,h1,h2,h3,h4,h5,h6,h7,h8⟩:=h k hk;by_cases e:k=g
 ·subst e;obtain⟨q1,q2⟩:=hf hk c1 T h6;exact⟨c0,cs,T,te,h1,h2,h3,h4,h5,setRow_heap w k c1 cs T _ h6,q1.trans h7,fun j hj=>(q2 j hj).trans (h8 j hj)⟩
 ·exact⟨c0,c1,T,te,h1,h2,h3,h4,h5,(setRow_other w g k cs e).trans h6,h7,h8⟩
theorem FlW.var(h:Flo F w0 w){t:Ty}(hg:w.heap[g]? =some (.cells cur T (0,0)))(hT:qm T=some t)(hs:cur.size=t.w)(hnv:nvB t=true→F.mx t=0)(cs:Array Value):FlW F w g cs:=fun hk=>by
 obtain⟨c0,c1,T',te,h1,h2,h3,h4,h5,h6,h7,h8⟩:=h g hk;rw[hg] at h6;injection h6 with h6;injection h6 with e1 e2;subst e1 e2;rw[hT] at h3;injection h3 with h3;subst h3;rcases h5 with h5|⟨h5,-⟩
 ·omega
 ·rw[hnv h5] at h4;omega
theorem FlW.one(h:Flo F w0 w)(hg:w.heap[g]? =some (.cells #[u] T (0,0)))(cs:Array Value):FlW F w g cs:=fun hk=>by
 obtain⟨c0,c1,T',te,h1,h2,h3,h4,h5,h6,h7,h8⟩:=h g hk;rw[hg] at h6;injection h6 with h6;injection h6 with e1 e2;subst e1;have:=q3g h3;have h7:(1:Nat)=c0.size:=h7;rcases h5 with h5|⟨h5,h9⟩
 ·omega
 ·have:=zur h5;omega
theorem FlW.noTy(h:Flo F w0 w)(hg:w.heap[g]? =some (.cells cur T (0,0)))(hT:qm T=none)(cs:Array Value):FlW F w g cs:=fun hk=>by
 obtain⟨c0,c1,T',te,h1,h2,h3,h4,h5,h6,h7,h8⟩:=h g hk;rw[hg] at h6;injection h6 with h6;injection h6 with e1 e2;subst e1 e2;rw[hT] at h3;cases h3
theorem FlW.above(h:Flo F w0 w)(hg:w.heap[g]? =some (.cells cur T (0,0)))(hT:qm T=some te){ob:Nat}(hob:F.mx te * te.w≤ob){cs:Array Value}(hs:cs.size=cur.size)(hk:∀j,j<ob→cs[j]? =cur[j]?):FlW F w g cs:=fun hk0 cur' T' hg'=>by
 obtain⟨c0,c1,T1,te',h1,h2,h3,h4,h5,h6,h7,h8⟩:=h g hk0;rw[hg] at h6 hg';injection h6 with h6;injection h6 with e1 e2;injection hg' with hg';injection hg' with e3 e4;subst e1 e2 e3 e4;obtain rfl:=gnI (hT.symm.trans h3);exact⟨hs,fun j hj=>hk j (by omega)⟩
theorem q8c{x:Nat}(h:Bs A F w0 S0 p w)(hx:p x=some g){cs:Array Value}(hfl:FlW F w g cs):Bs A F w0 S0 p (w.setRow g cs):=by
 refine⟨h.inj,fun y b hy=>by simpa using h.bd y b hy,q7s h.but (h.pin x g hx) cs,h.pin,h.new,h.pa,fun y b hy=>?_,h.flo.setRow hfl⟩;by_cases hb:b=g
 ·subst hb;rcases h.obj y b hy with⟨cs',T',h2⟩|⟨es,clock,h2⟩
  ·exact .inl ⟨cs,T',setRow_heap w b cs' cs T' _ h2⟩
  ·refine .inr ⟨es,clock,?_⟩;have hlt:b<w.heap.size:=(uP.1 h2).1;have hv:w.heap[b]=.map es clock:=(uP.1 h2).2;unfold World.setRow;rw[uQ (by simpa using hlt),Array.getElem_modify];simp[hv]
 ·exact(h.obj y b hy).same (setRow_other w g b cs hb)
theorem Bs.no(h:Bs A F w0 S0 p w):Bs A .no w0 S0 p w:=⟨h.inj,h.bd,h.but,h.pin,fun b hb=>⟨(h.new b hb).1,trivial⟩,h.pa,h.obj,Flo.no⟩
theorem qa5{t:Ty}(hT:qm T=some t){o:Nat}{T':TypeId}(hg:w.heap[g]? =some (.cells cur T' (0,0))){c0 c1 c2 c:List Value}(hc:cur.toList=c0++(c1++c2))(ho:c0.length=o)(h1:c1.length=c.length)
  {F:Nat→Prop}(hd:Rd w F d t c){v:Value}(hp:jj t c v):(Instr.storeAt T (.pointer (some ⟨g,o,none⟩)) v).run uA w=.ok () (w.setRow g (c0++(c++c2)).toArray):=by
 obtain⟨hl,hone⟩:=Rd.len d hd;have hcells:=hp.cells hone;obtain⟨i,hi,hsz,-⟩:=q47 hT;have hsize:cur.size=c0.length+(c1.length+c2.length):=by rw[←vD,hc];simp
 have hst:=run_storeCells_at uA g o T' c 0 cur w hg (by omega) hone;have e1:cur.toList.take (o+0)++c++cur.toList.drop (o+0+c.length)=c0++(c++c2):=by
  have e2:(c0++(c1++c2)).drop (c0.length+c.length)=c2:=by
   rw[←h1,←kK,←uM,vO]
  rw[hc,Nat.add_zero,←ho,vM,e2,kK]
 rw[e1] at hst;simp only[Instr.storeAt,Instr.sureAddr,uE,uK,uB,storeVar,sizeOf,typeInfo,run_program,hi,hcells];rw[if_neg (by simp[hl,hsz])];exact hst
end
def z09(t:Ty)(own:List (Nat×Nat)):Option (Option Nat):=match t,own with
 |_,[]=>some none
 |.row _,[(0,pin)]=>some (some pin)
 |_,_=>none
def qgc(x:X)(t:Ty)(own:List (Nat×Nat))(xv:X)(ownv:List (Nat×Nat)):List Nat→Option (X×List (Nat×Nat))
 |[]=>some (xv,ownv)
 | j :: path => match t with
  | .st S => match flds S with
   | some fs => match fs[j]? with
    | some t' => match qgc (.fld x j) t' (qsi (lkA own j)) xv ownv path with
     |some (xj,ownj)=>match z09 t' ownj with
      |some o=>some (.set x j xj,qjk own j o)
      |none=>none
     |none=>none
    |none=>none
   |none=>none
  |_=>none
section
variable{A:Nat→Prop}{F:Flr}{p:qj}{w:World}{dep dep':List Nat}
theorem Fl.mono(hd:∀x∈dep,x∈dep'){t:Ty}(h:Fl A p w dep o d t cs):Fl A p w dep' o d t cs:=by
 cases o with
 |none=>exact Rd.mono (fun b _ hb=>hb.mono hd) h
 | some pin =>
  rcases h.symm with h|⟨E,te,l,v,e1,hte,e2,e3,hv⟩
  ·exact .inr h
  refine .inl ⟨E,te,l,v,e1,hte,e2,e3,?_⟩;rcases hv with hv|⟨g,cap,cur,e4,hg,hh,h1,h2,h3,h4,h5⟩
  ·exact .inl hv
  ·refine .inr ⟨g,cap,cur,e4,hg,hh,h1,h2,h3,h4,fun i hi=>?_⟩;obtain⟨cs,hr,hx⟩:=h5 i hi;exact⟨cs,hr,hx.mono fun b _ hb=>hb.mono hd⟩
theorem Fls.mono(hd:∀x∈dep,x∈dep'){own:List (Nat×Nat)}:∀{ds:List D}{j:Nat}{fs:List Ty}{cs:List Value},Fls A p w dep own j ds fs cs→Fls A p w dep' own j ds fs cs
 |[],_,_,_,h=>h
 |d::ds,j,fs,cs,⟨t,ts,c1,c2,e1,e2,h1,h2⟩=>⟨t,ts,c1,c2,e1,e2,Fl.mono hd h1,Fls.mono hd h2⟩
theorem Con.mono(hd:∀x∈dep,x∈dep'){own:List (Nat×Nat)}{t:Ty}(h:Con A p w d t own dep cs):Con A p w d t own dep' cs:=by
 unfold Con at h⊢;split
 ·obtain⟨fs,ds,hf,e,h⟩:=h;exact⟨fs,ds,hf,e,Fls.mono hd h⟩
 ·rename_i hne;split at h
  ·rename_i T;exact absurd rfl (hne T)
  ·exact Fl.mono hd h
theorem Fls.congr{own own':List (Nat×Nat)}:∀{ds:List D}{n:Nat}{fs:List Ty}{cs:List Value},(∀i,n≤i→lkA own i=lkA own' i)→Fls A p w dep own n ds fs cs→Fls A p w dep own' n ds fs cs
 |[],_,_,_,_,h=>h
 |d::ds,n,fs,cs,he,⟨t,ts,c1,c2,e1,e2,h1,h2⟩=>⟨t,ts,c1,c2,e1,e2,by rw[←he n (uU _)];exact h1,Fls.congr (fun i hi=>he i (by omega)) h2⟩
theorem Fls.set{own own':List (Nat×Nat)}:∀{l:List D}{n:Nat}{fs:List Ty}{vs:List Value}{j:Nat}{t:Ty}{d:D}{c:List Value},Fls A p w dep own n l fs vs→fs[j]? =some t→Fl A p w dep (lkA own' (n+j)) d t c→(∀i,i≠n+j→lkA own' i=lkA own i)→
  ∃c0 c1 c2,vs=c0++(c1++c2)∧c0.length=offs fs j∧c1.length=t.w∧Fls A p w dep own' n (l.set j d) fs (c0++(c++c2))
 |[],n,fs,vs,j,t,d,c,⟨h1,h2⟩,hj,_,_=>by subst h1;simp at hj
 | x :: l, n, fs, vs, j, t, d, c, ⟨t0, ts, c1, c2, h1, h2, h3, h4⟩, hj, hd, hown => by
  subst h1 h2;have hlen:c1.length=t0.w:=(Rd.len x (h3.rd (dep':=dep++own.map (·.2)) (fun x hx=>uD _ hx) (fun x hx=>uC _ (qab hx)))).1;cases j with
  |zero=>
   simp at hj;subst hj;refine⟨[],c1,c2,rfl,by simp[qak],hlen,t0,ts,c,c2,rfl,rfl,by simpa using hd,Fls.congr (fun i hi=>(hown i (by omega)).symm) h4⟩
  |succ j=>
   obtain⟨a0,a1,a2,e2,e3,e4,e5⟩:=Fls.set (own':=own') (d:=d) (c:=c) h4 (by simpa using hj) (by rw[show n+1+j=n+(j+1) by omega];exact hd) (fun i hi=>hown i (by omega));exact⟨c1++a0,a1,a2,by rw[e2];simp,by rw[uM,e3,hlen,qaf],e4,t0,ts,c1,a0++(c++a2),rfl,by simp,by rw[hown n (by omega)];exact h3,e5⟩
theorem Con.sup{t:Ty}{own:List (Nat×Nat)}(hs:z09 t own=some o)(h:Con A p w d t own dep cs):Fl A p w dep o d t cs:=by
 unfold z09 at hs;split at hs
 ·injection hs with hs;subst hs;have:=h.rd (dep':=dep) (fun x hx=>hx) (fun x hx=>by cases hx);exact this
 ·injection hs with hs;subst hs;exact h
 ·cases hs
theorem Fl.thin{t:Ty}(hf:zt 8 t=true)(h:Fl A p w dep o d t cs):Fl A p w dep2 o d t cs:=by
 cases o with
 |none=>exact Rd.flat 8 _ hf h
 |some pin=>
  rcases h with⟨E,te,l,v,rfl,-⟩|⟨K,V,kt,vt,l,g,es,clock,rfl,-⟩<;>simp[zt] at hf
theorem Fls.thin{own:List (Nat×Nat)}:∀{l:List D}{n:Nat}{fs:List Ty}{vs:List Value},(∀t∈fs,zt 8 t=true)→Fls A p w dep own n l fs vs→Fls A p w dep2 own n l fs vs
 |[],n,fs,vs,_,h=>h
 |x::l,n,fs,vs,hf,⟨t0,ts,c1,c2,h1,h2,h3,h4⟩=>by
  subst h1;exact⟨t0,ts,c1,c2,rfl,h2,h3.thin (hf t0 uL),Fls.thin (fun t ht=>hf t (uF _ ht)) h4⟩
theorem Fls.set2{own own':List (Nat×Nat)}:∀{l:List D}{n:Nat}{fs:List Ty}{vs:List Value}{j:Nat}{t:Ty}{d:D}{c:List Value},(∀i t,i≠j→fs[i]? =some t→zt 8 t=true)→Fls A p w dep own n l fs vs→fs[j]? =some t→Fl A p w dep2 (lkA own' (n+j)) d t c→(∀i,i≠n+j→lkA own' i=lkA own i)→
  ∃c0 c1 c2,vs=c0++(c1++c2)∧c0.length=offs fs j∧c1.length=t.w∧Fls A p w dep2 own' n (l.set j d) fs (c0++(c++c2))
 |[],n,fs,vs,j,t,d,c,_,⟨h1,h2⟩,hj,_,_=>by subst h1;simp at hj
 | x :: l, n, fs, vs, j, t, d, c, hf, ⟨t0, ts, c1, c2, h1, h2, h3, h4⟩, hj, hd, hown => by
  subst h1 h2;have hlen:c1.length=t0.w:=(Rd.len x (h3.rd (dep':=dep++own.map (·.2)) (fun x hx=>uD _ hx) (fun x hx=>uC _ (qab hx)))).1;cases j with
  |zero=>
   simp at hj;subst hj;refine⟨[],c1,c2,rfl,by simp[qak],hlen,t0,ts,c,c2,rfl,rfl,by simpa using hd,Fls.congr (fun i hi=>(hown i (by omega)).symm) (Fls.thin (fun t ht=>?_) h4)⟩;obtain⟨i,hi,rfl⟩:=List.getElem_of_mem ht;exact hf (i+1) _ (by omega) (by simp)
  |succ j=>
   obtain⟨a0,a1,a2,e2,e3,e4,e5⟩:=Fls.set2 (j:=j) (own':=own') (d:=d) (c:=c) (fun i t hi ht=>hf (i+1) t (by omega) (by simpa using ht)) h4 (by simpa using hj) (by rw[show n+1+j=n+(j+1) by omega];exact hd) (fun i hi=>hown i (by omega));exact⟨c1++a0,a1,a2,by rw[e2];simp,by rw[uM,e3,hlen,qaf],e4,t0,ts,c1,a0++(c++a2),rfl,by simp,by rw[hown n (by omega)];exact h3.thin (hf 0 t0 (by omega) rfl),e5⟩
theorem qoh{c:Cx}:∀(path:List Nat){x x' xv:X}{t tv:Ty}{own own' ownv ov:List (Nat×Nat)}{o:Nat}{vs cs:List Value}{xo:X},qgc x t own xv ownv path=some (x',own')→q53 x t own path=some (xo,tv,ov,o)→
  Con c.A p w (x.ev c.v) t own dep vs→Con c.A p w (xv.ev c.v) tv ownv dep cs→
  ∃c0 c1 c2,vs=c0++(c1++c2)∧c0.length=o∧c1.length=cs.length∧Con c.A p w (x'.ev c.v) t own' dep (c0++(cs++c2))
 |[],x,x',xv,t,tv,own,own',ownv,ov,o,vs,cs,xo,h,ha,hc,hv=>by
  simp only[qgc,gnS] at h;simp only[q53,gnS] at ha;obtain⟨rfl,rfl⟩:=h;obtain⟨rfl,rfl,rfl,rfl⟩:=ha;exact⟨[],vs,[],by simp,rfl,by rw[hc.len.1,hv.len.1],by simpa using hv⟩
 | j :: path, x, x', xv, t, tv, own, own', ownv, ov, o, vs, cs, xo, h, ha, hc, hv => by
  unfold qgc at h;unfold q53 at ha;split at h
  ·rename_i S;split at h
   ·rename_i fs hfs;simp only[hfs] at ha;split at h
    ·rename_i tj hj;simp only[hj] at ha;split at h
     ·rename_i xj ownj hr;split at h
      ·rename_i oj hoj;simp only[gnS] at h;obtain⟨rfl,rfl⟩:=h;split at ha
       ·rename_i x1 t1 own1 o1 hra;simp only[gnS] at ha;obtain⟨rfl,rfl,rfl,rfl⟩:=ha;obtain⟨c0,c1,c2,rfl,hl,hfl⟩:=hc.get hfs hj;obtain⟨b0,b1,b2,rfl,hl',hl2,hcc⟩:=qoh path hr hra (Con.sub hfl) hv;obtain⟨fs',ds,hf',hds,hfls⟩:=hc;obtain rfl:=gnI (hf'.symm.trans hfs);obtain⟨e0,e1,e2,q1,q2,q3,q4⟩:=Fls.set (own':=qjk own j oj) (d:=xj.ev c.v) (c:=b0++(cs++b2)) hfls hj (by rw[uZ,qah,if_pos rfl];exact Con.sup hoj hcc) (fun i hi=>by rw[uZ] at hi;rw[qah,if_neg hi]);have hlb:(b0++(b1++b2)).length=tj.w:=by
         have:=hcc.len.1;simp only[uM] at this⊢;omega
        have hce:c0=e0∧(b0++(b1++b2))++c2=e1++e2:=kP q1 (by rw[hl,q2]);obtain⟨rfl,q5⟩:=hce;have hce2:b0++(b1++b2)=e1∧c2=e2:=kP q5 (by rw[hlb,q3]);obtain⟨rfl,rfl⟩:=hce2;refine⟨c0++b0,b1,b2++c2,by simp,by simp[hl,hl'],hl2,_,_,hfs,rfl,?_⟩;have:(x.ev c.v).fs=ds:=by rw[hds];rfl
        rw[this];simpa using q4
       ·cases ha
      ·cases h
     ·cases h
    ·cases h
   ·cases h
  ·cases h
end
end
end Go.Proofs.Ytdaadonfbnedaaa
