/-
 Lemmas of the walk and plain laws, put together. No condition.
-/
import Derived.Deep.MidRow
import Derived.Laws.BytesArg
import Derived.Laws.Concat
import Derived.Laws.Slices
import Derived.Laws.StructEq
import Derived.Lib.Hide
import Derived.Maps.Keyed
import Derived.WalkKit
import Derived.WalkLawsBesides
import Derived.WalkSpells
import Derived.Test.YtokkfpalbpnpeaaProg
namespace Go.Proofs.Ytokkfpalbpnpeaa
open Go.RowKit
set_option linter.unusedVariables false
set_option linter.unusedSimpArgs false
set_option maxRecDepth 100000
open _root_.Go.Proofs.Try renaming prog→uA
open _root_.List renaming mem_append_right→uB,mem_append_left→uC,mem_cons_of_mem→uD,mem_cons_self→uF,all_eq_true→uG,length_append→uR,filter_cons→uY,mem_cons→kC,all_cons→kE,getElem?_append_right→kR,getD_eq_getElem?_getD→kS,getElem?_eq_some_iff→kU,getElem?_append_left→kV,getElem?_eq_getElem→kW,take_append_drop→vA,mem_of_getElem?→vB,not_mem_nil→vF,any_eq_true→vG,mem_filter→vI,replicate→vK,map_cons→vL
open Result renaming andThen_ok→uE,andThen→kA
open Sem renaming run_bind→uH,run_pure→uL,run→vR
open _root_.Nat renaming beq→uI,le_refl→uO,blt_eq→uZ,zero_le→kB,add_assoc→kF,lt_of_lt_of_le→kG,zero_add→kH,sub_zero→kI,le_trans→kJ,add_comm→kK,blt→kQ,lt_or_ge→vO,add_mul→vQ
open _root_.Option renaming map_eq_some_iff→uJ,isSome_iff_exists→uM,bind_eq_some_iff→uQ,map_none→kL,isNone_iff_eq_none→kO
open _root_.Bool renaming eq_iff_iff→uK,not_eq_true'→uT,or_eq_true→kN,false_and→kT,false_eq_true→vC,and_eq_true→vH
open _root_.Prod.mk renaming injEq→uN
open _root_.Option.some renaming injEq→uP,inj→vE
open _root_.Int renaming eq_ofNat_of_zero_le→uS
open Builtin renaming len_→uU,cap_→vJ
open _root_.Array renaming getD_eq_getD_getElem?→uV,getElem?_eq_getElem→uX,getElem?_eq_some_iff→kP,getElem?_eq_none→kX,getElem?_toList→kY,ext'→vP
open _root_.And renaming intro→uW
open World renaming cell?_of_block→kZ,cell?→vM
section
theorem gnS:type_of% (uW @uP.{0} @uN.{0,0}):=uW @uP.{0} @uN.{0,0}
theorem gnM:type_of% (uW @kC.{0} (uW @uN.{0,0} (uW @vF.{0} @or_false))):=uW @kC.{0} (uW @uN.{0,0} (uW @vF.{0} @or_false))
theorem gnN{n m:Nat}(h:uI n m=true):n=m:=Nat.eq_of_beq_eq_true h
theorem gnB:type_of% @vH:=@vH
theorem gnI:type_of% @vE.{0}:=@vE.{0}
theorem gnF:type_of% @vC:=@vC
theorem gnD:type_of% @decide_eq_true_eq:=@decide_eq_true_eq
theorem gnG:type_of% @kS.{0}:=@kS.{0}
theorem gnH:type_of% @kU.{0}:=@kU.{0}
theorem gnK:type_of% @kW.{0}:=@kW.{0}
theorem str_inj{a b:ByteArray}(h:a.toList=b.toList):a=b:=by
 rw[ByteArray.toList_eq,ByteArray.toList_eq] at h;cases a;cases b;simpa using h
theorem qkt{w:World}{p:Addr}{v:Value}(h:w.cell? p=some v):p.block<w.heap.size:=by
 rcases vO p.block w.heap.size with hlt|hge
 ·exact hlt
 ·unfold vM at h;rw[kX hge] at h;cases h
theorem zd{w:World}{k:Nat}{o:Obj}(h:w.heap[k]? =some o):k<w.heap.size:=by
 rcases vO k w.heap.size with hlt|hge
 ·exact hlt
 ·rw[kX hge] at h;cases h
structure But(S:Nat→Prop)(w w':World):Prop where
 os:w'.os=w.os
 tape:w'.tape=w.tape
 output:w'.output=w.output
 size:w.heap.size≤w'.heap.size
 block:∀k,k<w.heap.size→¬S k→w'.heap[k]? =w.heap[k]?
def Nil:Nat→Prop:=fun _=>False
section
variable{S S':Nat→Prop}{a b c w w':World}
theorem But.refl(S:Nat→Prop)(w:World):But S w w:=⟨rfl,rfl,rfl,uO _,fun _ _ _=>rfl⟩
theorem But.trans(h:But S a b)(k:But S' b c)(hs:∀i,S' i→i<b.heap.size→S i∨a.heap.size≤i):But S a c:=
 ⟨k.os.trans h.os,k.tape.trans h.tape,k.output.trans h.output,kJ h.size k.size,fun i hi hn=>
  (k.block i (kG hi h.size) (fun hs'=>(hs i hs' (kG hi h.size)).elim hn (fun hge=>by omega))).trans (h.block i hi hn)⟩
theorem But.mono(h:But S a b)(hs:∀i,S i→i<a.heap.size→S' i):But S' a b:=
 ⟨h.os,h.tape,h.output,h.size,fun i hi hn=>h.block i hi fun hS=>hn (hs i hS hi)⟩
theorem But.drew(h:But S a w):But S a w.drew:=⟨h.os,h.tape,h.output,h.size,h.block⟩
theorem But.alloc(h:But S a w)(o:Obj):But S a (w.alloc o):=
 ⟨h.os,h.tape,h.output,kJ h.size (by simp),fun k hk hn=>(Below.heap_alloc _ _ _ (kG hk h.size)).trans (h.block k hk hn)⟩
theorem But.below(h:But Nil w w'):Below w.heap.size w w':=⟨h.os,h.tape,h.output,h.size,fun k hk=>h.block k hk id⟩
end
theorem hget{w:World}{o:Obj}{k:Nat}:(w.alloc o).heap[k]? =if k=w.heap.size then some o else w.heap[k]? :=by
 show(w.heap.push o)[k]? =_
 rw[Array.getElem?_push]
theorem hsize{w:World}{o:Obj}:(w.alloc o).heap.size=w.heap.size+1:=by simp
theorem q0x{w:World}{o:Obj}{k:Nat}(h:k=w.heap.size):(w.alloc o).heap[k]? =some o:=by rw[hget,if_pos h]
theorem q8n{w:World}{o x:Obj}{k:Nat}(h:w.heap[k]? =some x):(w.alloc o).heap[k]? =some x:=by
 have:=zd h;rw[hget,if_neg (by omega),h]
end
inductive D where
 |u
 |i(n:Int)
 |b(x:Bool)
 |s(x:ByteArray)
 |a(l:List D)
 |r(l:List D)
 |mp(l:List D)
namespace D
def int:D→Int|.i n=>n|_=>0
def tt:D→Bool|.b x=>x|_=>false
def str:D→ByteArray|.s x=>x|_=>⟨#[]⟩
def fs:D→List D|.a l=>l|_=>[]
def rs:D→List D|.r l=>l|_=>[]
def ms:D→List D|.mp l=>l|_=>[]
def fld(d:D)(j:Nat):D:=d.fs.getD j .u
def get(d:D)(i:Int):D:=d.rs.getD i.toNat .u
theorem ind{P:D→Prop}(hu:P .u)(hi:∀n,P (.i n))(hb:∀x,P (.b x))(hs:∀x,P (.s x))(ha:∀l,(∀d∈l,P d)→P (.a l))(hr:∀l,(∀d∈l,P d)→P (.r l))(hm:∀l,(∀d∈l,P d)→P (.mp l))(d:D):P d:=
 D.rec (motive_1:=P) (motive_2:=fun l=>∀d∈l,P d) hu hi hb hs (fun l h=>ha l h) (fun l h=>hr l h) (fun l h=>hm l h) (by simp)
  (fun d l hd hl x hx=>by
   rcases kC.1 hx with rfl|h'
   ·exact hd
   ·exact hl x h') d
mutual
def beq:D→D→Bool
 |.u,.u=>true
 |.i m,.i n=>decide (m=n)
 |.b x,.b y=>x==y
 |.s x,.s y=>decide (x=y)
 |.a l,.a m=>beqs l m
 |.r l,.r m=>beqs l m
 |.mp l,.mp m=>beqs l m
 |_,_=>false
def beqs:List D→List D→Bool
 |[],[]=>true
 |x::l,y::m=>beq x y&&beqs l m
 |_,_=>false
end
theorem beq_iff(d:D):∀e,beq d e=true↔d=e:=by
 have key:∀l:List D,(∀d∈l,∀e,beq d e=true↔d=e)→∀m,beqs l m=true↔l=m:=by
  intro l
  induction l with
  |nil=>intro _ m;cases m<;>simp[beqs]
  | cons x l ih =>
   intro h m;cases m with
   |nil=>simp[beqs]
   |cons y m=>
    unfold beqs;rw[gnB,h x (uF),ih (fun d hd=>h d (uD _ hd))];simp
 induction d using D.ind with
 |hu=>intro e;cases e<;>simp[beq]
 |hi n=>intro e;cases e<;>simp[beq]
 |hb x=>intro e;cases e<;>simp[beq]
 |hs x=>intro e;cases e<;>simp[beq]
 |ha l ih=>intro e;cases e<;>simp[beq,key l ih]
 |hr l ih=>intro e;cases e<;>simp[beq,key l ih]
 |hm l ih=>intro e;cases e<;>simp[beq,key l ih]
instance:DecidableEq D:=fun d e=>if h:beq d e=true then .isTrue ((beq_iff d e).1 h) else .isFalse fun he=>h ((beq_iff d e).2 he)
end D
inductive Ty where
 |int(k:IntKind)
 |bool
 |str
 |st(T:TypeId)
 |row(E:TypeId)
 |map(K V:TypeId)
 |fnv
def Ty.beq:Ty→Ty→Bool
 |.int j,.int k=>decide (j=k)
 |.bool,.bool=>true
 |.str,.str=>true
 |.st S,.st T=>uI S T
 |.row S,.row T=>uI S T
 |.map K V,.map K' V'=>uI K K'&&uI V V'
 |.fnv,.fnv=>true
 |_,_=>false
theorem Ty.beq_iff(s:Ty):∀t,Ty.beq s t=true↔s=t:=by
 intro t;cases s<;>cases t<;>simp[Ty.beq]
instance:DecidableEq Ty:=fun d e=>if h:Ty.beq d e=true then .isTrue ((Ty.beq_iff d e).1 h) else .isFalse fun he=>h ((Ty.beq_iff d e).2 he)
def lkA{α:Type}:List (Nat×α)→Nat→Option α
  |[],_=>none
  |(k,x)::l,n=>if uI k n then some x else lkA l n
theorem y3{α:Type}{l:List (Nat×α)}{n:Nat}{x:α}(h:lkA l n=some x):(n,x)∈l:=by
 induction l with
 |nil=>cases h
 | cons e l ih =>
  unfold lkA at h;split at h
  ·rename_i hk;injection h with h;have:=gnN hk;subst h this;exact uF
  ·exact uD _ (ih h)
inductive X where
 |tok(n:Nat)
 |lit(d:D)
 |fld(x:X)(j:Nat)
 |get(x i:X)
 |len(x:X)
 |slen(x:X)
 |sget(x i:X)
 |add(x y:X)
 |sub(x y:X)
 |mul(x y:X)
 |lt(x y:X)
 |le(x y:X)
 |eq(x y:X)
 |not(x:X)
 |and(x y:X)
 |or(x y:X)
 |imp(x y:X)
 |ite(c x y:X)
 |mk(l:List X)
 |row(l:List X)
 |app(x y:X)
 |cut(x lo hi:X)
 |set(x:X)(j:Nat)(y:X)
 |put(x i y:X)
 |rep(n x:X)
 |rng(k:IntKind)(x:X)
 |call(f j:Nat)(l:List X)
 |ok(f:Nat)(l:List X)
 |fn(o:Nat)(l:List X)
namespace X
mutual
def beq:X→X→Bool
 |.tok a,.tok b=>uI a b
 |.lit a,.lit b=>D.beq a b
 |.fld x j,.fld y k=>uI j k&&beq x y
 |.get x i,.get y j=>beq i j&&beq x y
 |.len x,.len y=>beq x y
 |.slen x,.slen y=>beq x y
 |.sget x i,.sget y j=>beq x y&&beq i j
 |.add x y,.add z t=>beq x z&&beq y t
 |.sub x y,.sub z t=>beq x z&&beq y t
 |.mul x y,.mul z t=>beq x z&&beq y t
 |.lt x y,.lt z t=>beq x z&&beq y t
 |.le x y,.le z t=>beq x z&&beq y t
 |.eq x y,.eq z t=>beq x z&&beq y t
 |.not x,.not y=>beq x y
 |.and x y,.and z t=>beq x z&&beq y t
 |.or x y,.or z t=>beq x z&&beq y t
 |.imp x y,.imp z t=>beq x z&&beq y t
 |.ite c x y,.ite d z t=>beq c d&&(beq x z&&beq y t)
 |.mk l,.mk m=>beqs l m
 |.row l,.row m=>beqs l m
 |.app x y,.app z t=>beq x z&&beq y t
 |.cut x y z,.cut t u v=>beq x t&&(beq y u&&beq z v)
 |.set x j y,.set z k t=>uI j k&&(beq x z&&beq y t)
 |.put x y z,.put t u v=>beq x t&&(beq y u&&beq z v)
 |.rep x y,.rep z t=>beq x z&&beq y t
 |.rng k x,.rng l y=>decide (k=l)&&beq x y
 |.call f j l,.call g k m=>uI f g&&(uI j k&&beqs l m)
 |.ok f l,.ok g m=>uI f g&&beqs l m
 |.fn f l,.fn g m=>uI f g&&beqs l m
 |_,_=>false
def beqs:List X→List X→Bool
 |[],[]=>true
 |x::l,y::m=>beq x y&&beqs l m
 |_,_=>false
end
mutual
theorem beq_ok:∀(x y:X),beq x y=true→x=y
 |.tok a,y,h=>by cases y<;>simp_all [beq]
 |.lit a,y,h=>by
  cases y<;>simp only[beq,gnF] at h;rw[(D.beq_iff _ _).1 h]
 |.fld x j,y,h=>by
  cases y<;>simp only[beq,gnF,gnB] at h;rw[gnN h.1,beq_ok x _ h.2]
 |.get x i,y,h=>by
  cases y<;>simp only[beq,gnF,gnB] at h;rw[beq_ok i _ h.1,beq_ok x _ h.2]
 |.len x,y,h=>by
  cases y<;>simp only[beq,gnF] at h;rw[beq_ok x _ h]
 |.slen x,y,h=>by
  cases y<;>simp only[beq,gnF] at h;rw[beq_ok x _ h]
 |.sget x i,y,h=>by
  cases y<;>simp only[beq,gnF,gnB] at h;rw[beq_ok x _ h.1,beq_ok i _ h.2]
 |.add x i,y,h=>by
  cases y<;>simp only[beq,gnF,gnB] at h;rw[beq_ok x _ h.1,beq_ok i _ h.2]
 |.sub x i,y,h=>by
  cases y<;>simp only[beq,gnF,gnB] at h;rw[beq_ok x _ h.1,beq_ok i _ h.2]
 |.mul x i,y,h=>by
  cases y<;>simp only[beq,gnF,gnB] at h;rw[beq_ok x _ h.1,beq_ok i _ h.2]
 |.lt x i,y,h=>by
  cases y<;>simp only[beq,gnF,gnB] at h;rw[beq_ok x _ h.1,beq_ok i _ h.2]
 |.le x i,y,h=>by
  cases y<;>simp only[beq,gnF,gnB] at h;rw[beq_ok x _ h.1,beq_ok i _ h.2]
 |.eq x i,y,h=>by
  cases y<;>simp only[beq,gnF,gnB] at h;rw[beq_ok x _ h.1,beq_ok i _ h.2]
 |.not x,y,h=>by
  cases y<;>simp only[beq,gnF] at h;rw[beq_ok x _ h]
 |.and x i,y,h=>by
  cases y<;>simp only[beq,gnF,gnB] at h;rw[beq_ok x _ h.1,beq_ok i _ h.2]
 |.or x i,y,h=>by
  cases y<;>simp only[beq,gnF,gnB] at h;rw[beq_ok x _ h.1,beq_ok i _ h.2]
 |.imp x i,y,h=>by
  cases y<;>simp only[beq,gnF,gnB] at h;rw[beq_ok x _ h.1,beq_ok i _ h.2]
 |.ite c x i,y,h=>by
  cases y<;>simp only[beq,gnF,gnB] at h;rw[beq_ok c _ h.1,beq_ok x _ h.2.1,beq_ok i _ h.2.2]
 |.mk l,y,h=>by
  cases y<;>simp only[beq,gnF] at h;rw[beqs_ok l _ h]
 |.row l,y,h=>by
  cases y<;>simp only[beq,gnF] at h;rw[beqs_ok l _ h]
 |.app x i,y,h=>by
  cases y<;>simp only[beq,gnF,gnB] at h;rw[beq_ok x _ h.1,beq_ok i _ h.2]
 |.cut c x i,y,h=>by
  cases y<;>simp only[beq,gnF,gnB] at h;rw[beq_ok c _ h.1,beq_ok x _ h.2.1,beq_ok i _ h.2.2]
 |.set x j i,y,h=>by
  cases y<;>simp only[beq,gnF,gnB] at h;rw[gnN h.1,beq_ok x _ h.2.1,beq_ok i _ h.2.2]
 |.put c x i,y,h=>by
  cases y<;>simp only[beq,gnF,gnB] at h;rw[beq_ok c _ h.1,beq_ok x _ h.2.1,beq_ok i _ h.2.2]
 |.rep x i,y,h=>by
  cases y<;>simp only[beq,gnF,gnB] at h;rw[beq_ok x _ h.1,beq_ok i _ h.2]
 |.rng k x,y,h=>by
  cases y<;>simp only[beq,gnF,gnB,gnD] at h;rw[h.1,beq_ok x _ h.2]
 |.call f j l,y,h=>by
  cases y<;>simp only[beq,gnF,gnB] at h;rw[gnN h.1,gnN h.2.1,beqs_ok l _ h.2.2]
 |.ok f l,y,h=>by
  cases y<;>simp only[beq,gnF,gnB] at h;rw[gnN h.1,beqs_ok l _ h.2]
 |.fn f l,y,h=>by
  cases y<;>simp only[beq,gnF,gnB] at h;rw[gnN h.1,beqs_ok l _ h.2]
theorem beqs_ok:∀(l m:List X),beqs l m=true→l=m
 |[],m,h=>by cases m<;>simp_all [beqs]
 | x :: l, m, h => by
  cases m with
  |nil=>simp[beqs] at h
  |cons y m=>
   simp only[beqs,gnB] at h;rw[beq_ok x _ h.1,beqs_ok l _ h.2]
end
end X
def yy(k:IntKind)(n:Int):Bool:=match k with
 |.i64=>decide (-9223372036854775808≤n)&&decide (n≤9223372036854775807)
 |.u8=>decide (0≤n)&&decide (n≤255)
 |.u64=>decide (0≤n)&&decide (n≤18446744073709551615)
 |.i32=>decide (-2147483648≤n)&&decide (n≤2147483647)
 |_=>false
def mfind(k:D):List D→Option D
 |[]=>none
 |p::l=>if p.fld 0=k then some (p.fld 1) else mfind k l
def mset(k v:D):List D→List D
 |[]=>[.a [k,v]]
 |p::l=>if p.fld 0=k then .a [k,v]::l else p::mset k v l
def qzl:Nat→List D→D→D
 |_,[],d=>d
 |lo,e::es,d=>qzl (lo+1) es (.r (d.rs.set lo e))
def z0g(j:Nat):Nat→List D→D→D
 |_,[],d=>d
 |lo,e::es,d=>z0g j (lo+1) es (.a (d.fs.set j (.r ((d.fld j).rs.set lo e))))
def qsh(top:Int)(l:List D):List D:=l.filter fun y=>decide ((y.fld 0).int<top)
def zU:D:=.a [.i 0,.a [.i 0,.i 0]]
def qaa(l:List D):ByteArray:=⟨(l.map fun d=>UInt8.ofNat d.int.toNat).toArray⟩
def z0d(k x:D):List D→List D
 |[]=>[.a [k,.r [x]]]
 |p::l=>if p.fld 0=k then .a [k,.r ((p.fld 1).rs++[x])]::l else p::z0d k x l
def z0w(l:List D):List D:=l.foldl (fun m y=>z0d (y.fld 0) (y.fld 1) m) []
def fnD:Nat→List D→D
 |0,[m,k,z]=>(mfind k m.ms).getD z
 |1,[m,k]=>.b (mfind k m.ms).isSome
 |2,[m,k,v]=>.mp (mset k v m.ms)
 |3,[m]=>.i (m.ms.length:Nat)
 |4,[x,i,es]=>qzl i.int.toNat es.rs x
 |5,[l,top]=>.r (qsh top.int l.rs++vK (l.rs.length - (qsh top.int l.rs).length) zU)
 |6,[x,j,i,es]=>z0g j.int.toNat i.int.toNat es.rs x
 |7,[l,top]=>.r (qsh top.int l.rs)
 |8,[x,m]=>.i (x.int.fdiv (2^m.int.toNat))
 |9,[x,y]=>.i (IntKind.wrap .i64 (x.int+y.int))
 |10,[x]=>.s (qaa x.rs)
 |11,[x,y]=>.s (x.str++y.str)
 |12,[x,hi]=>.s (x.str.extract 0 hi.int.toNat)
 |13,[x,y]=>.i ((x.int.toNat &&& y.int.toNat:Nat):Int)
 |14,[x,y]=>.i ((x.int.toNat ||| y.int.toNat:Nat):Int)
 |15,[x,y]=>.i ((x.int * 2^y.int.toNat) % 18446744073709551616)
 |16,[l]=>.mp (z0w l.rs)
 |17,[x,y]=>.i (x.int / y.int)
 |18,[x,y]=>.i (IntKind.wrap .i64 (x.int - y.int))
 |_,_=>.u
structure Ev where
 E:Nat→D
 S:Nat→List D→Option (List D)
namespace X
mutual
def ev(e:Ev):X→D
 |.tok n=>e.E n
 |.lit d=>d
 |.fld x j=>(ev e x).fld j
 |.get x i=>(ev e x).get (ev e i).int
 |.len x=>.i ((ev e x).rs.length:Nat)
 |.slen x=>.i ((ev e x).str.size:Nat)
 |.sget x i=>.i (((ev e x).str.data.getD (ev e i).int.toNat 0).toNat:Nat)
 |.add x y=>.i ((ev e x).int+(ev e y).int)
 |.sub x y=>.i ((ev e x).int - (ev e y).int)
 |.mul x y=>.i ((ev e x).int * (ev e y).int)
 |.lt x y=>.b (decide ((ev e x).int<(ev e y).int))
 |.le x y=>.b (decide ((ev e x).int≤(ev e y).int))
 |.eq x y=>.b (decide (ev e x=ev e y))
 |.not x=>.b (!(ev e x).tt)
 |.and x y=>.b ((ev e x).tt&&(ev e y).tt)
 |.or x y=>.b ((ev e x).tt||(ev e y).tt)
 |.imp x y=>.b (!(ev e x).tt||(ev e y).tt)
 |.ite c x y=>if(ev e c).tt then ev e x else ev e y
 |.mk l=>.a (evs e l)
 |.row l=>.r (evs e l)
 |.app x y=>.r ((ev e x).rs++(ev e y).rs)
 |.cut x lo hi=>.r (((ev e x).rs.take (ev e hi).int.toNat).drop (ev e lo).int.toNat)
 |.set x j y=>.a ((ev e x).fs.set j (ev e y))
 |.put x i y=>.r ((ev e x).rs.set (ev e i).int.toNat (ev e y))
 |.rep n x=>.r (vK (ev e n).int.toNat (ev e x))
 |.rng k x=>.b (yy k (ev e x).int)
 |.call f j l=>((e.S f (evs e l)).getD []).getD j .u
 |.ok f l=>.b (e.S f (evs e l)).isSome
 |.fn o l=>fnD o (evs e l)
def evs(e:Ev):List X→List D
 |[]=>[]
 |x::l=>ev e x::evs e l
end
end X
def qq8:X→Option D
 |.lit d=>some d
 |.fld x j=>(qq8 x).map fun d=>d.fld j
 |.get (.row l) (.lit (.i n))=>(match l[n.toNat]? with
  |some (.lit d)=>some d
  |_=>none)
 |_=>none
theorem qmz{e:Ev}:∀{l:List X}{n:Nat}{d:D},l[n]? =some (.lit d)→(X.evs e l).getD n .u=d
 |[],n,d,h=>by simp at h
 |x::l,0,d,h=>by
  simp only[List.getElem?_cons_zero,uP] at h;subst h;rfl
 |x::l,n+1,d,h=>by
  simp only[List.getElem?_cons_succ] at h;have:=qmz (e:=e) h;simpa[X.evs] using this
theorem qo1{e:Ev}:∀{x:X}{d:D},qq8 x=some d→x.ev e=d:=fun{x}=>by
 fun_induction qq8 x with
 |case1 d=>intro d' h;injection h
 |case2 x j ih=>
  intro d' h;obtain⟨d,h1,rfl⟩:=uJ.1 h
  show(x.ev e).fld j=_
  rw[ih h1]
 |case3 l n d hl=>
  intro d' h;injection h with h;subst h;exact qmz hl
 |case4=>intro d h;cases h
 |case5=>intro d h;cases h
def X.says(e:Ev)(x:X):Prop:=(x.ev e).tt=true
def qmr:List (Nat×Ty):=[(2,.int .i64),(3,.int .i64),(4,.bool),(5,.int .u8),(6,.int .u8),(7,.st 7),(8,.st 7),(9,.str),(10,.str),(11,.str),(21,.int .i32),(22,.row 24),(23,.st 23),(24,.st 23),(32,.row 9),(67,.int .u8),(68,.int .u8),(71,.int .i32),(72,.int .i32)]
def qi0:List (Nat×List Ty):=[(7,[.int .i64,.int .i64,.bool,.int .u8]),(23,[.int .i64,.int .i64,.str,.row 24])]
def z0c:List (Nat×Nat):=[(7,4),(23,4)]
def qz8:List (Nat×Nat):=[(7,24),(23,56)]
def nvL:List Nat:=[]
def fnL:List Nat:=[]
def wfL:List Nat:=[]
def qc(T:TypeId):Option Ty:=lkA qmr T
def flds(T:TypeId):Option (List Ty):=lkA qi0 T
def Ty.w:Ty→Nat
 |.st T=>(lkA z0c T).getD 0
 |_=>1
def nvB:Ty→Bool
 |.st T=>nvL.any (uI T)
 |_=>false
def qds(E:TypeId):Bool:=match qc E with
 |some (.st S)=>wfL.any (uI S)
 |_=>false
theorem qv6{E:TypeId}{te:Ty}(h:qds E=true)(ht:qc E=some te):∃S,te=.st S:=by
 unfold qds at h;rw[ht] at h;cases te with
 |st S=>exact⟨S,rfl⟩
 |_=>cases h
theorem qzj{t:Ty}(h:nvB t=true):1<t.w:=by
 unfold nvB at h;split at h
 ·rename_i T;have key:nvL.all (fun T=>kQ 1 (Ty.st T).w)=true:=by kernel_rfl
  obtain⟨T',h1,h2⟩:=vG.1 h;obtain rfl:=gnN h2;have:=uG.1 key _ h1;simpa[uZ] using this
 ·cases h
def Ty.by:Ty→Nat
 |.int .i64=>8
 |.int .u64=>8
 |.int .i32=>4
 |.int _=>1
 |.bool=>1
 |.str=>16
 |.row _=>24
 |.map _ _=>8
 |.fnv=>8
 |.st T=>(lkA qz8 T).getD 1
def widths(fs:List Ty):Nat:=(fs.map Ty.w).sum
def offs(fs:List Ty)(j:Nat):Nat:=widths (fs.take j)
def q0p:Nat→Ty→D
 |0,_=>.u
 |_+1,.int _=>.i 0
 |_+1,.bool=>.b false
 |_+1,.str=>.s ⟨#[]⟩
 |_+1,.row _=>.r []
 |n+1,.st T=>.a (((flds T).getD []).map (q0p n))
 |_+1,.map _ _=>.u
 |_+1,.fnv=>.i (-1)
def q3g(f:Ty→List Value→Option (D×List Value)):List Ty→List Value→Option (List D×List Value)
 |[],cs=>some ([],cs)
 | t :: ts, cs => match f t cs with
  |some (d,cs')=>match q3g f ts cs' with
   |some (l,r)=>some (d::l,r)
   |none=>none
  |none=>none
def jv:Nat→Ty→List Value→Option (D×List Value)
 |0,_,_=>none
 | n + 1, t, cs => match t, cs with
  |.int k,.int j m::cs=>if decide (j=k)&&yy k m then some (.i m,cs) else none
  |.bool,.bool x::cs=>some (.b x,cs)
  |.str,.string x::cs=>if decide (x.size≤1000000) then some (.s x,cs) else none
  |.fnv,.nilFunc::cs=>some (.i (-1),cs)
  |.row E,.slice none 0 0::cs=>if(qc E).isSome then some (.r [],cs) else none
  | .st T, cs => match flds T with
   |some fs=>match q3g (jv n) fs cs with
    |some (l,r)=>some (.a l,r)
    |none=>none
   |none=>none
  |_,_=>none
def jr:List Field→List Ty→Nat→Bool
 |[],[],_=>true
 |f::l,t::ts,o=>uI f.offset o&&(f.name != "_")&&(match qc f.type with|some t'=>Ty.beq t' t|none=>false)&&jr l ts (o+t.w)
 |_,_,_=>false
def qbk(P:Program)(T:TypeId)(t:Ty):Bool:=match P.info? T with
 |none=>false
 | some i => uI i.size t.w && kQ 0 t.w && (Nat.ble i.bytes 4096 && (uI i.bytes t.by && kQ 0 t.by)) && (match t, P.underlying T, i.zero with
  |.int k,some (.int k'),some (.int k2 n)=>decide (k=k')&&decide (k2=k)&&decide (n=0)&&yy k 0
  |.bool,some .bool,some (.bool b)=> !b
  |.str,some .string,some (.string s)=>uI s.size 0
  |.row E,some (.slice E'),some (.slice none 0 0)=>uI E E'&&(qc E).isSome
  | .st S, some (.struct fields), some (.agg zc) => (match flds S with
   |some fs=>jr fields.toList fs 0&&(match jv 8 t zc.toList with
    |some (d,[])=>D.beq d (q0p 8 t)
    |_=>false)&& !(P.stoodInHeld T)&& !(P.eqGuardType P.depth T)
   |none=>false)
  |.map K V,some (.map K' V'),some (.map none)=>uI K K'&&(uI V V'&&((qc K).isSome&&(qc V).isSome))
  |.fnv,some (.func _ _ _),some .nilFunc=>true
  |_,_,_=>false)
def qya(P:Program):Bool:=qmr.all (fun e=>qbk P e.1 e.2)&&qi0.all (fun e=>uI (Ty.st e.1).w (widths e.2)&&e.2.all fun t=>kQ 0 t.w)
theorem qtb:qya uA=true:=by kernel_rfl
def q36:Ty→Bool
 |.map _ _=>true
 |_=>false
def qx9:Bool:=qmr.all (fun e=>match e.2 with
 |.row E=>(match qc E with|some te=> !q36 te|none=>true)
 |_=>true)&&qi0.all (fun e=>e.2.all fun t=> !q36 t)
theorem qpv:qx9=true:=by kernel_rfl
def qli:Ty→Bool
 |.fnv=>true
 |.st T=>fnL.any (uI T)
 |_=>false
def qkm(t:Ty):Bool:=q36 t||qli t
def qxe:Bool:=qmr.all (fun e=>match e.2 with
 |.row E=>(match qc E with|some te=> !qli te|none=>true)
 |_=>true)&&qi0.all (fun e=>qli (.st e.1)||e.2.all fun t=> !qli t)
theorem qsg:qxe=true:=by kernel_rfl
theorem qvy{T E:TypeId}{te:Ty}(h:qc T=some (.row E))(h2:qc E=some te):q36 te=false:=by
 have:=qpv;simp only[qx9,gnB] at this;have:=uG.1 this.1 _ (y3 h);simpa[h2] using this
theorem quq{S:TypeId}{fs:List Ty}(h:flds S=some fs){t:Ty}(ht:t∈fs):q36 t=false:=by
 have:=qpv;simp only[qx9,gnB] at this;have:=uG.1 (uG.1 this.2 _ (y3 h)) _ ht;simpa using this
theorem qtk{T E:TypeId}{te:Ty}(h:qc T=some (.row E))(h2:qc E=some te):qkm te=false:=by
 have:=qsg;simp only[qxe,gnB] at this;have:=uG.1 this.1 _ (y3 h);have h3:qli te=false:=by simpa[h2] using this
 rw[qkm,qvy h h2,h3];rfl
theorem qtv{S:TypeId}{fs:List Ty}(h:flds S=some fs)(hs:qkm (.st S)=false){t:Ty}(ht:t∈fs):qkm t=false:=by
 have:=qsg;simp only[qxe,gnB] at this;have:=uG.1 this.2 _ (y3 h);have hs':qli (.st S)=false:=by simpa[qkm,q36] using hs
 rw[hs',Bool.false_or] at this;have h3:qli t=false:=by simpa using uG.1 this _ ht
 rw[qkm,quq h ht,h3];rfl
theorem q3j{T:TypeId}{t:Ty}(h:qc T=some t):qbk uA T t=true:=by
 have:=qtb;simp only[qya,gnB] at this;exact uG.1 this.1 _ (y3 h)
theorem qc2{T:TypeId}{fs:List Ty}(h:flds T=some fs):(Ty.st T).w=widths fs∧∀t∈fs,0<t.w:=by
 have:=qtb;simp only[qya,gnB] at this;have h1:=uG.1 this.2 _ (y3 h);simp only[gnB] at h1;refine⟨gnN h1.1,fun t ht=>?_⟩;have:=uG.1 h1.2 t ht;simpa[uZ] using this
theorem q02{T:TypeId}{t:Ty}(h:qc T=some t):∃i,uA.info? T=some i∧i.size=t.w∧0<t.w∧i.bytes≤4096:=by
 have h1:=q3j h;unfold qbk at h1;split at h1
 ·cases h1
 ·rename_i i hi;simp only[gnB] at h1;exact⟨i,hi,gnN h1.1.1.1,by simpa[uZ] using h1.1.1.2,by simpa using h1.1.2.1⟩
theorem qa6{T:TypeId}{t:Ty}(h:qc T=some t){i:TypeInfo}(hi:uA.info? T=some i):i.bytes=t.by:=by
 have h1:=q3j h;unfold qbk at h1;rw[hi] at h1;simp only[gnB] at h1;exact gnN h1.1.2.2.1
theorem qsw{T:TypeId}{t:Ty}(h:qc T=some t):0<t.by∧t.by≤4096:=by
 have h1:=q3j h;unfold qbk at h1;split at h1
 ·cases h1
 ·rename_i i hi;simp only[gnB] at h1;have h2:=gnN h1.1.2.2.1;have h3:i.bytes≤4096:=by simpa using h1.1.2.1
  exact⟨by simpa[uZ] using h1.1.2.2.2,by omega⟩
theorem q07{T:TypeId}{k:IntKind}(h:qc T=some (.int k)):uA.underlying T=some (.int k)∧yy k 0=true∧∃i,uA.info? T=some i∧i.size=1∧i.zero=some (.int k 0):=by
  have h1:=q3j h;unfold qbk at h1;split at h1
  · cases h1
  · rename_i i hi;simp only[gnB] at h1;have h3:=gnN h1.1.1.1;have h2:=h1.2;split at h2<;>first|(rename_i he;cases he;done)|skip
    · rename_i k0 k' k2 n he hu hz;injection he with he;subst he;simp only[gnB,gnD] at h2;obtain⟨⟨⟨rfl,rfl⟩,rfl⟩,hr0⟩:=h2;exact⟨hu,hr0,i,hi,h3,hz⟩
    all_goals first|(rename_i he _ _;cases he;done)|(rename_i he _;cases he;done)|(rename_i he;cases he;done)|(cases h2;done)
theorem q0e{T:TypeId}(h:qc T=some .bool):uA.underlying T=some .bool∧∃i,uA.info? T=some i∧i.size=1∧i.zero=some (.bool false):=by
 have h1:=q3j h;unfold qbk at h1;split at h1
 ·cases h1
 ·rename_i i hi;simp only[gnB] at h1;have h3:=gnN h1.1.1.1;have h2:=h1.2;split at h2
  ·rename_i he _ _;cases he
  ·rename_i b _ hu hz;have:b=false:=by simpa using h2
   subst this;exact⟨hu,i,hi,h3,hz⟩
  all_goals first|(rename_i he _ _;cases he;done)|(rename_i he _;cases he;done)|(rename_i he;cases he;done)|(cases h2;done)
theorem q04{T:TypeId}(h:qc T=some .str):uA.underlying T=some .string∧∃i,uA.info? T=some i∧i.size=1∧i.zero=some (.string ⟨#[]⟩):=by
 have h1:=q3j h;unfold qbk at h1;split at h1
 ·cases h1
 ·rename_i i hi;simp only[gnB] at h1;have h3:=gnN h1.1.1.1;have h2:=h1.2;split at h2
  ·rename_i he _ _;cases he
  ·rename_i he _ _;cases he
  ·rename_i s _ hu hz;have h0:=gnN h2;have:s=⟨#[]⟩:=by
    cases s with
    |mk data=>simp[ByteArray.size] at h0;rw[h0]
   subst this;exact⟨hu,i,hi,h3,hz⟩
  all_goals first|(rename_i he _ _;cases he;done)|(rename_i he _;cases he;done)|(rename_i he;cases he;done)|(cases h2;done)
theorem yi{T E:TypeId}(h:qc T=some (.row E)):uA.underlying T=some (.slice E)∧(∃te,qc E=some te)∧∃i,uA.info? T=some i∧i.size=1∧i.zero=some (.slice none 0 0):=by
 have h1:=q3j h;unfold qbk at h1;split at h1
 ·cases h1
 ·rename_i i hi;simp only[gnB] at h1;have h3:=gnN h1.1.1.1;have h2:=h1.2;split at h2
  ·rename_i he _ _;cases he
  ·rename_i he _ _;cases he
  ·rename_i he _ _;cases he
  ·rename_i E0 E' he hu hz;injection he with he;subst he;simp only[gnB] at h2;have:=gnN h2.1;subst this;exact⟨hu,uM.1 h2.2,i,hi,h3,hz⟩
  all_goals first|(rename_i he _ _;cases he;done)|(rename_i he _;cases he;done)|(rename_i he;cases he;done)|(cases h2;done)
theorem q0j{T S:TypeId}(h:qc T=some (.st S)):∃fields fs zc i,uA.underlying T=some (.struct fields)∧flds S=some fs∧jr fields.toList fs 0=true∧uA.info? T=some i∧i.size=(Ty.st S).w∧
  i.zero=some (.agg zc)∧jv 8 (.st S) zc.toList=some (q0p 8 (.st S),[])∧uA.stoodInHeld T=false∧uA.eqGuardType uA.depth T=false:=by
 have h1:=q3j h;unfold qbk at h1;split at h1
 ·cases h1
 ·rename_i i hi;simp only[gnB] at h1;have h3:=gnN h1.1.1.1;have h2:=h1.2;split at h2
  ·rename_i he _ _;cases he
  ·rename_i he _ _;cases he
  ·rename_i he _ _;cases he
  ·rename_i he _ _;cases he
  ·rename_i S0 fields zc he hu hz;injection he with he;subst he;split at h2
   ·rename_i fs hf;simp only[gnB,uT] at h2;obtain⟨⟨⟨ha,hb⟩,hc⟩,hg⟩:=h2;split at hb
    ·rename_i d hd;rw[(D.beq_iff _ _).1 hb] at hd;exact⟨fields,fs,zc,i,hu,hf,ha,hi,h3,hz,hd,hc,hg⟩
    ·cases hb
   ·cases h2
  all_goals first|(rename_i he _ _;cases he;done)|(rename_i he _;cases he;done)|(rename_i he;cases he;done)|(cases h2;done)
theorem q3b{T K V:TypeId}(h:qc T=some (.map K V)):uA.underlying T=some (.map K V)∧(∃kt,qc K=some kt)∧(∃vt,qc V=some vt)∧∃i,uA.info? T=some i∧i.size=1∧i.zero=some (.map none):=by
 have h1:=q3j h;unfold qbk at h1;split at h1
 ·cases h1
 ·rename_i i hi;simp only[gnB] at h1;have h3:=gnN h1.1.1.1;have h2:=h1.2;split at h2
  ·rename_i he _ _;cases he
  ·rename_i he _ _;cases he
  ·rename_i he _ _;cases he
  ·rename_i he _ _;cases he
  ·rename_i he _ _;cases he
  ·rename_i K0 V0 K' V' he hu hz;injection he with e1 e2;subst e1 e2;simp only[gnB] at h2;have e3:=gnN h2.1;have e4:=gnN h2.2.1;subst e3 e4;exact⟨hu,uM.1 h2.2.2.1,uM.1 h2.2.2.2,i,hi,h3,hz⟩
  ·rename_i he _ _;cases he
  ·cases h2
theorem qce{T:TypeId}(h:qc T=some .fnv):(∃a b c,uA.underlying T=some (.func a b c))∧(∃i,uA.info? T=some i∧i.size=1∧i.zero=some .nilFunc):=by
 have h1:=q3j h;unfold qbk at h1;split at h1
 ·cases h1
 ·rename_i i hi;simp only[gnB] at h1;have h3:=gnN h1.1.1.1;have h2:=h1.2;split at h2
  ·rename_i he _ _;cases he
  ·rename_i he _ _;cases he
  ·rename_i he _ _;cases he
  ·rename_i he _ _;cases he
  ·rename_i he _ _;cases he
  ·rename_i he _ _;cases he
  ·rename_i hu hz;exact⟨⟨_,_,_,hu⟩,i,hi,h3,hz⟩
  ·cases h2
theorem q1y:∀{l:List Field}{fs:List Ty}{o j:Nat}{t:Ty},jr l fs o=true→fs[j]? =some t→∃f,l[j]? =some f∧f.offset=o+offs fs j∧qc f.type=some t∧f.name≠ "_"
 |[],[],o,j,t,h,hj=>by simp at hj
 | f :: l, u :: ts, o, j, t, h, hj => by
  simp only[jr,gnB] at h;obtain⟨⟨⟨h1,h4⟩,h2⟩,h3⟩:=h;cases j with
  | zero =>
   simp at hj;subst hj;split at h2
   ·rename_i t' ht';rw[(Ty.beq_iff _ _).1 h2] at ht';exact⟨f,rfl,by rw[gnN h1];simp[offs,widths],ht',by simpa using h4⟩
   ·cases h2
  |succ j=>
   obtain⟨f',hf,ho,ht,hn⟩:=q1y h3 (by simpa using hj);refine⟨f',by simpa using hf,?_,ht,hn⟩;rw[ho];simp[offs,widths];omega
 |[],_::_,o,j,t,h,hj=>by cases h
 |_::_,[],o,j,t,h,hj=>by cases h
section
def LIM:Nat:=140737488351232
def LM(te:Ty):Nat:=LIM / te.by
theorem qo2(te:Ty):LM te≤LIM:=Nat.div_le_self _ _
def q58(f:Ty→D→Option (List Value)):List Ty→List D→Option (List Value)
 |[],[]=>some []
 |t::ts,d::ds=>match f t d,q58 f ts ds with
  |some a,some b=>some (a++b)
  |_,_=>none
 |_,_=>none
def q91:Nat→Ty→D→Option (List Value)
 |0,_,_=>none
 |_+1,.int k,.i n=>if yy k n then some [.int k n] else none
 |_+1,.bool,.b x=>some [.bool x]
 |_+1,.str,.s x=>if decide (x.size≤LIM) then some [.string x] else none
 |n+1,.st T,.a l=>match flds T with
  |some fs=>q58 (q91 n) fs l
  |none=>none
 |_,_,_=>none
def qn0(t:Ty)(cs:List Value):Option Value:=match t with
 |.st _=>some (.agg cs.toArray)
 |_=>match cs with
  |[v]=>some v
  |_=>none
def q7a(t:Ty)(d:D):Option Value:=(q91 8 t d).bind (qn0 t)
def q2r(kt vt:Ty):List D→List MapEntry→Prop
 |[],[]=>True
 |p::l,e::es=>(∃k v,p=.a [k,v]∧q7a kt k=some e.key∧q7a vt v=some e.val)∧q2r kt vt l es
 |_,_=>False
def z4(t:Ty)(cs:List Value)(v:Value):Prop:=match t with
 |.st _=>v=.agg cs.toArray
 |_=>cs=[v]
def fnV(n:Int):Value:=if n<0 then .nilFunc else .func (.func n.toNat) #[] #[]
theorem qvx(n:Int):(fnV n).oneCell'=true:=by
 unfold fnV;split<;>rfl
mutual
/-- The cells read as the data, of the type; every slice lies in a block of F. -/
def Rd(w:World)(F:Nat→Prop):D→Ty→List Value→Prop
 |.u,t,cs=>∃E te,t=.row E∧qds E=true∧qc E=some te∧cs=[.slice none 0 0]
 |.i n,t,cs=>(∃k,t=.int k∧cs=[.int k n]∧yy k n=true)∨(t=.fnv∧cs=[fnV n])
 |.b x,t,cs=>t=.bool∧cs=[.bool x]
 |.s x,t,cs=>t=.str∧cs=[.string x]∧x.size≤LIM
 |.a l,t,cs=>∃T fs,t=.st T∧flds T=some fs∧RdF w F l fs cs
 |.r l,t,cs=>∃E te A cap,t=.row E∧qc E=some te∧cs=[.slice A l.length cap]∧l.length≤cap∧l.length≤LM te∧cap≤maxLen∧RdE w F l te A 0
 |.mp l,t,cs=>∃K V kt vt g es clock,t=.map K V∧qc K=some kt∧qc V=some vt∧cs=[.map (some g)]∧F g∧w.heap[g]? =some (.map es clock)∧RdM w F l kt vt es.toList
def RdF(w:World)(F:Nat→Prop):List D→List Ty→List Value→Prop
 |[],fs,cs=>fs=[]∧cs=[]
 |d::l,fs,cs=>∃t ts c1 c2,fs=t::ts∧cs=c1++c2∧Rd w F d t c1∧RdF w F l ts c2
def RdE(w:World)(F:Nat→Prop):List D→Ty→Option Addr→Nat→Prop
 |[],_,_,_=>True
 |d::l,te,A,i=>(∃b o cs,A=some ⟨b,o,none⟩∧F b∧w.rangeAt b (o+i * te.w) cs∧Rd w F d te cs)∧RdE w F l te A (i+1)
def RdM(w:World)(F:Nat→Prop):List D→Ty→Ty→List MapEntry→Prop
 |[],_,_,es=>es=[]
 |d::l,kt,vt,es=>∃e r,es=e::r∧RdK w F d kt vt e∧RdM w F l kt vt r
def RdK(w:World)(F:Nat→Prop):D→Ty→Ty→MapEntry→Prop
 |.a l,kt,vt,e=>∃ck cv,ck.length=kt.w∧z4 kt ck e.key∧z4 vt cv e.val∧RdF w F l [kt,vt] (ck++cv)
 |_,_,_,_=>False
end
def qxj(w:World)(F:Nat→Prop)(d:D)(te:Ty)(A:Option Addr)(i:Nat):Prop:=
 ∃b o cs,A=some ⟨b,o,none⟩∧F b∧w.rangeAt b (o+i * te.w) cs∧Rd w F d te cs
theorem jg{w:World}{F:Nat→Prop}{te:Ty}{A:Option Addr}:∀{l:List D}{i:Nat},RdE w F l te A i↔∀j(h:j<l.length),qxj w F l[j] te A (i+j)
 |[],i=>by simp[RdE]
 | d :: l, i => by
  simp only[RdE];constructor
  ·rintro⟨h0,h1⟩j hj;rcases j with _|j
   ·exact h0
   ·have:=(jg (l:=l) (i:=i+1)).1 h1 j (by simpa using hj);simpa[kF,kK 1 j] using this
  ·intro h;refine⟨h 0 (by simp),(jg (l:=l) (i:=i+1)).2 fun j hj=>?_⟩;have:=h (j+1) (by simpa using hj);simpa[kF,kK 1 j] using this
theorem q1x(t:Ty)(ts:List Ty):widths (t::ts)=t.w+widths ts:=by simp[widths]
def One(cs:List Value):Prop:=∀c∈cs,c.oneCell'=true
theorem Rd.len{w:World}{F:Nat→Prop}(d:D):∀{t:Ty}{cs:List Value},Rd w F d t cs→cs.length=t.w∧One cs:=by
 have one:∀v:Value,v.oneCell'=true→One [v]:=fun v hv c hc=>by
  obtain rfl:c=v:=by simpa using hc
  exact hv
 induction d using D.ind with
 |hu=>rintro t cs⟨E,te,rfl,-,-,rfl⟩;exact⟨rfl,one _ rfl⟩
 |hi n=>
  rintro t cs(⟨k,rfl,rfl,-⟩|⟨rfl,rfl⟩)
  ·exact⟨rfl,one _ rfl⟩
  ·exact⟨rfl,one _ (qvx n)⟩
 |hb x=>rintro t cs⟨rfl,rfl⟩;exact⟨rfl,one _ rfl⟩
 |hs x=>rintro t cs⟨rfl,rfl,-⟩;exact⟨rfl,one _ rfl⟩
 |hr l ih=>rintro t cs⟨E,te,A,cap,rfl,-,rfl,-⟩;exact⟨rfl,one _ rfl⟩
 |hm l ih=>rintro t cs⟨K,V,kt,vt,g,es,clock,rfl,-,-,rfl,-⟩;exact⟨rfl,one _ rfl⟩
 | ha l ih =>
  rintro t cs⟨T,fs,rfl,hf,h⟩;have key:∀(l:List D),(∀d∈l,∀{t:Ty}{cs:List Value},Rd w F d t cs→cs.length=t.w∧One cs)→∀{fs:List Ty}{cs:List Value},RdF w F l fs cs→cs.length=widths fs∧One cs:=by
   intro l
   induction l with
   |nil=>
    rintro - fs cs ⟨rfl,rfl⟩;exact⟨rfl,fun c hc=>by cases hc⟩
   |cons d l ihl=>
    rintro hd fs cs⟨t,ts,c1,c2,rfl,rfl,h1,h2⟩;obtain⟨e1,o1⟩:=hd d uF h1;obtain⟨e2,o2⟩:=ihl (fun x hx=>hd x (uD _ hx)) h2;refine⟨by rw[uR,e1,e2,q1x],fun c hc=>?_⟩;rcases List.mem_append.1 hc with h|h
    ·exact o1 c h
    ·exact o2 c h
  have:=key l ih h;rw[(qc2 hf).1];exact this
theorem RdF.len{w:World}{F:Nat→Prop}:∀{l:List D}{fs:List Ty}{cs:List Value},RdF w F l fs cs→cs.length=widths fs∧l.length=fs.length
 |[],fs,cs,⟨h1,h2⟩=>by subst h1 h2;exact⟨rfl,rfl⟩
 |d::l,fs,cs,⟨t,ts,c1,c2,h1,h2,h3,h4⟩=>by
  subst h1 h2;obtain⟨e1,e2⟩:=RdF.len h4;exact⟨by rw[uR,(Rd.len d h3).1,e1,q1x],by simp[e2]⟩
def Kp(F F':Nat→Prop)(w w':World):Prop:=∀b o,F b→w.heap[b]? =some o→w'.heap[b]? =some o∧F' b
theorem qct{w:World}{b o:Nat}{cs:List Value}(h:w.rangeAt b o cs)(hp:0<cs.length):b<w.heap.size:=by
 have:=h 0 _ (gnK hp);exact qkt this
theorem Kp.range{F F':Nat→Prop}{w w':World}(h:Kp F F' w w'){b o:Nat}{cs:List Value}(hF:F b)(hr:w.rangeAt b o cs)(hp:0<cs.length):w'.rangeAt b o cs∧F' b:=by
 have hlt:=qct hr hp;obtain⟨h1,h2⟩:=h b _ hF (uX hlt);refine⟨fun j v hj=>?_,h2⟩;have:=hr j v hj;exact(kZ (w:=w) (by rw[h1,uX hlt])).trans this
theorem q0c{E:TypeId}{te:Ty}(h:qc E=some te):0<te.w:=by
 obtain⟨i,-,-,hp,-⟩:=q02 h;exact hp
theorem Rd.keeps0{F F':Nat→Prop}{w w':World}(hk:Kp F F' w w')(d:D):(∀{t:Ty}{cs:List Value},Rd w F d t cs→Rd w' F' d t cs)∧∀l,d=.a l→∀{fs:List Ty}{cs:List Value},RdF w F l fs cs→RdF w' F' l fs cs:=by
 induction d using D.ind with
 |hu=>exact⟨fun h=>h,fun l e=>by cases e⟩
 |hi n=>exact⟨fun h=>h,fun l e=>by cases e⟩
 |hb x=>exact⟨fun h=>h,fun l e=>by cases e⟩
 |hs x=>exact⟨fun h=>h,fun l e=>by cases e⟩
 |hr l ih=>
  refine⟨?_,fun l e=>by cases e⟩;rintro t cs⟨E,te,A,cap,rfl,hte,rfl,h1,h2,h3,h4⟩;refine⟨E,te,A,cap,rfl,hte,rfl,h1,h2,h3,?_⟩;rw[jg] at h4⊢;intro j hj;obtain⟨b,o,cs,e,hF,hr,hd⟩:=h4 j hj;have hp:0<cs.length:=by rw[(Rd.len _ hd).1];exact q0c hte
  exact⟨b,o,cs,e,(hk.range hF hr hp).2,(hk.range hF hr hp).1,(ih _ (List.getElem_mem hj)).1 hd⟩
 | hm l ih =>
  refine⟨?_,fun l e=>by cases e⟩;rintro t cs⟨K,V,kt,vt,g,es,clock,rfl,hK,hV,rfl,hF,hh,hl⟩;obtain⟨h1,h2⟩:=hk g _ hF hh;refine⟨K,V,kt,vt,g,es,clock,rfl,hK,hV,rfl,h2,h1,?_⟩;clear hh h1;generalize es.toList=ms at *
  induction l generalizing ms with
  |nil=>exact hl
  | cons d l ihl =>
   obtain⟨e,r,e1,hk1,hl1⟩:=hl;refine⟨e,r,e1,?_,ihl (fun x hx=>ih x (uD _ hx)) _ hl1⟩;cases d with
   |a m=>
    obtain⟨ck,cv,q1,q2,q3,q4⟩:=hk1;exact⟨ck,cv,q1,q2,q3,(ih _ uF).2 m rfl q4⟩
   |_=>exact hk1.elim
 | ha l ih =>
  have key:∀{fs:List Ty}{cs:List Value},RdF w F l fs cs→RdF w' F' l fs cs:=by
   intro fs cs h
   induction l generalizing fs cs with
   |nil=>exact h
   |cons d l ihl=>
    obtain⟨t,ts,c1,c2,rfl,rfl,h1,h2⟩:=h;exact⟨t,ts,c1,c2,rfl,rfl,(ih d uF).1 h1,ihl (fun x hx=>ih x (uD _ hx)) h2⟩
  refine⟨?_,fun m e=>by cases e;exact key⟩;rintro t cs⟨T,fs,rfl,hf,h⟩;exact⟨T,fs,rfl,hf,key h⟩
theorem Rd.keeps{F F':Nat→Prop}{w w':World}(hk:Kp F F' w w')(d:D){t:Ty}{cs:List Value}(h:Rd w F d t cs):Rd w' F' d t cs:=(Rd.keeps0 hk d).1 h
theorem Rd.mono{F F':Nat→Prop}{w:World}(hF:∀b,b<w.heap.size→F b→F' b){d:D}{t:Ty}{cs:List Value}(h:Rd w F d t cs):Rd w F' d t cs:=
 Rd.keeps (fun b o hb ho=>⟨ho,hF b (zd ho) hb⟩) d h
theorem q1j(fs:List Ty):offs fs 0=0:=by simp[offs,widths]
theorem q1g(t:Ty)(ts:List Ty)(j:Nat):offs (t::ts) (j+1)=t.w+offs ts j:=by simp[offs,widths]
theorem RdF.get{w:World}{F:Nat→Prop}:∀{l:List D}{fs:List Ty}{cs:List Value}{j:Nat}{t:Ty},RdF w F l fs cs→fs[j]? =some t→∃d c0 c1 c2,l[j]? =some d∧cs=c0++(c1++c2)∧c0.length=offs fs j∧Rd w F d t c1
 |[],fs,cs,j,t,⟨h1,h2⟩,hj=>by subst h1;simp at hj
 | d :: l, fs, cs, j, t, ⟨t0, ts, c1, c2, h1, h2, h3, h4⟩, hj => by
  subst h1 h2;cases j with
  |zero=>
   simp at hj;subst hj;exact⟨d,[],c1,c2,rfl,rfl,by simp[q1j],h3⟩
  |succ j=>
   obtain⟨d',a0,a1,a2,e1,e2,e3,e4⟩:=RdF.get h4 (by simpa using hj);exact⟨d',c1++a0,a1,a2,by simpa using e1,by rw[e2];simp,by rw[uR,e3,(Rd.len d h3).1,q1g],e4⟩
theorem qke(w:World)(F:Nat→Prop):∀(n:Nat){t:Ty}{cs r:List Value}{d:D},jv n t cs=some (d,r)→∃c1,cs=c1++r∧Rd w F d t c1:=by
 intro n
 induction n with
 |zero=>intro t cs r d h;simp[jv] at h
 | succ n ih =>
  intro t cs r d h;unfold jv at h;split at h
  ·rename_i k j m cs';split at h
   ·rename_i hok;simp only[gnB,gnD] at hok;injection h with h;injection h with h1 h2;subst h1 h2;obtain⟨rfl,hr⟩:=hok;exact⟨[.int j m],rfl,.inl ⟨j,rfl,rfl,hr⟩⟩
   ·cases h
  ·injection h with h;injection h with h1 h2;subst h1 h2;exact⟨[_],rfl,rfl,rfl⟩
  ·rename_i x cs';split at h
   ·rename_i hx;injection h with h;injection h with h1 h2;subst h1 h2;have hx':x.size≤1000000:=by simpa using hx
    exact⟨[_],rfl,rfl,rfl,by unfold LIM;omega⟩
   ·cases h
  ·injection h with h;injection h with h1 h2;subst h1 h2;exact⟨[_],rfl,.inr ⟨rfl,rfl⟩⟩
  ·rename_i E cs';split at h
   ·rename_i hx;injection h with h;injection h with h1 h2;subst h1 h2;obtain⟨te,hte⟩:=uM.1 hx;exact⟨[_],rfl,E,te,none,0,rfl,hte,rfl,by simp,by simp,by simp[maxLen],by simp[RdE]⟩
   ·cases h
  ·rename_i cs' T;split at h
   ·rename_i fs hf;split at h
    ·rename_i l r' hp;injection h with h;injection h with h1 h2;subst h1 h2;have key:∀(fs:List Ty){cs r:List Value}{l:List D},q3g (jv n) fs cs=some (l,r)→∃c1,cs=c1++r∧RdF w F l fs c1:=by
      intro fs
      induction fs with
      |nil=>
       intro cs r l h;simp only[q3g,gnS] at h;obtain⟨rfl,rfl⟩:=h;exact⟨[],rfl,rfl,rfl⟩
      | cons t ts ihf =>
       intro cs r l h;unfold q3g at h;split at h
       ·rename_i d cs' hd;split at h
        ·rename_i l' r' hl;simp only[gnS] at h;obtain⟨rfl,rfl⟩:=h;obtain⟨c1,e1,h1⟩:=ih hd;obtain⟨c2,e2,h2⟩:=ihf hl;exact⟨c1++c2,by rw[e1,e2];simp,t,ts,c1,c2,rfl,rfl,h1,h2⟩
        ·cases h
       ·cases h
     obtain⟨c1,e1,h1⟩:=key fs hp;exact⟨c1,e1,T,fs,rfl,hf,h1⟩
    ·cases h
   ·cases h
  ·cases h
def Wf(d:D)(t:Ty):Prop:=∃w F cs,Rd w F d t cs
theorem z4.cells{t:Ty}{cs:List Value}{v:Value}(h:z4 t cs v)(hn:∀c∈cs,c.oneCell'=true):v.cells=cs.toArray:=by
 unfold z4 at h;split at h
 ·subst h;rfl
 ·subst h;have:=hn v (by simp);cases v<;>first|rfl|(simp[Value.oneCell'] at this)
def qm:Nat→Ty→Bool
 |0,_=>false
 |_+1,.row _=>false
 |_+1,.map _ _=>false
 |_+1,.fnv=>false
 |n+1,.st T=>match flds T with
  |some fs=>fs.all (qm n)
  |none=>false
 |_+1,_=>true
theorem Rd.flat{w w':World}{F F':Nat→Prop}:∀(n:Nat)(d:D){t:Ty}{cs:List Value},qm n t=true→Rd w F d t cs→Rd w' F' d t cs:=by
 intro n
 induction n with
 |zero=>intro d t cs h;simp[qm] at h
 | succ n ih =>
  intro d t cs hb h;cases d with
  |u=>obtain⟨E,te,rfl,-⟩:=h;simp[qm] at hb
  |i m=>exact h
  |b x=>exact h
  |s x=>exact h
  |r l=>obtain⟨E,te,A,cap,rfl,-⟩:=h;simp[qm] at hb
  |mp l=>obtain⟨K,V,kt,vt,g,es,clock,rfl,-⟩:=h;simp[qm] at hb
  | a l =>
   obtain⟨T,fs,rfl,hf,h⟩:=h;simp only[qm,hf] at hb;refine⟨T,fs,rfl,hf,?_⟩;clear hf
   induction l generalizing fs cs with
   |nil=>exact h
   |cons d l ihl=>
    obtain⟨t,ts,c1,c2,rfl,rfl,h1,h2⟩:=h;simp only[kE,gnB] at hb;exact⟨t,ts,c1,c2,rfl,rfl,ih d hb.1 h1,ihl _ h2 hb.2⟩
section
variable{w:World}{F:Nat→Prop}
theorem qu0:∀(n:Nat){t:Ty}{d:D}{cs:List Value},q91 n t d=some cs→Rd w F d t cs:=by
 intro n
 induction n with
 |zero=>intro t d cs h;simp[q91] at h
 | succ n ih =>
  intro t d cs h;unfold q91 at h;split at h
  ·cases h
  ·rename_i k m _;split at h
   ·rename_i hr;injection h with h;subst h;exact .inl ⟨_,rfl,rfl,hr⟩
   ·cases h
  ·injection h with h;subst h;exact⟨rfl,rfl⟩
  ·split at h
   ·rename_i hr;injection h with h;subst h;exact⟨rfl,rfl,of_decide_eq_true hr⟩
   ·cases h
  ·rename_i n' T l heq;obtain rfl:n=n':=by injection heq
   split at h
   ·rename_i fs hf;refine⟨T,fs,rfl,hf,?_⟩;clear hf
    induction l generalizing fs cs with
    | nil =>
     cases fs with
     |nil=>
      simp only[q58,uP] at h;subst h;exact⟨rfl,rfl⟩
     |cons t ts=>simp[q58] at h
    | cons d l ihl =>
     cases fs with
     |nil=>simp[q58] at h
     | cons t ts =>
      unfold q58 at h;split at h
      ·rename_i a b ha hb;injection h with h;subst h;exact⟨t,ts,a,b,rfl,rfl,ih ha,ihl _ hb⟩
      ·cases h
   ·cases h
  ·cases h
theorem qg4{t:Ty}{cs:List Value}{v:Value}:qn0 t cs=some v↔z4 t cs v:=by
 unfold qn0 z4;split
 ·simp[eq_comm]
 ·match cs with
  |[]=>simp
  |[x]=>simp
  |x::y::l=>simp
theorem qhu{t:Ty}{d:D}{v:Value}(h:q7a t d=some v):∃cs,Rd w F d t cs∧z4 t cs v:=by
 unfold q7a at h;obtain⟨cs,h1,h2⟩:=uQ.1 h;exact⟨cs,qu0 8 h1,qg4.1 h2⟩
theorem qh5{d:D}{kt vt:Ty}{e:MapEntry}:RdK w F d kt vt e↔∃k v ck cv,d=.a [k,v]∧Rd w F k kt ck∧z4 kt ck e.key∧Rd w F v vt cv∧z4 vt cv e.val:=by
 constructor
 ·intro h;cases d with
  | a l =>
   obtain⟨ck,cv,h1,h2,h3,h4⟩:=h;cases l with
   |nil=>obtain⟨h,-⟩:=h4;cases h
   | cons k l =>
    obtain⟨t,ts,c1,c2,e1,e2,h5,h6⟩:=h4;injection e1 with e1 e3;subst e1 e3;cases l with
    |nil=>obtain⟨h,-⟩:=h6;cases h
    | cons v l =>
     obtain⟨t',ts',c3,c4,e4,e5,h7,h8⟩:=h6;injection e4 with e4 e6;subst e4 e6;cases l with
     |nil=>
      obtain⟨-,rfl⟩:=h8;rw[List.append_nil] at e5;subst e5;obtain⟨e7,e8⟩:=List.append_inj e2 (by rw[h1,(Rd.len _ h5).1]);subst e7 e8;exact⟨k,v,ck,cv,rfl,h5,h2,h7,h3⟩
     |cons x l=>obtain⟨t,ts,c1,c2,e1,-⟩:=h8;cases e1
  |_=>exact h.elim
 ·rintro⟨k,v,ck,cv,rfl,h1,h2,h3,h4⟩;exact⟨ck,cv,(Rd.len _ h1).1,h2,h4,kt,[vt],ck,cv,rfl,rfl,h1,vt,[],cv,[],rfl,by simp,h3,rfl,rfl⟩
theorem q2r.rdM{kt vt:Ty}:∀{l:List D}{es:List MapEntry},q2r kt vt l es→RdM w F l kt vt es
 |[],[],_=>rfl
 |p::l,e::es,⟨⟨k,v,hp,hk,hv⟩,h⟩=>by
  obtain⟨ck,h1,h2⟩:=qhu (w:=w) (F:=F) hk;obtain⟨cv,h3,h4⟩:=qhu (w:=w) (F:=F) hv;exact⟨e,es,rfl,qh5.2 ⟨k,v,ck,cv,hp,h1,h2,h3,h4⟩,q2r.rdM h⟩
 |[],_::_,h=>h.elim
 |_::_,[],h=>h.elim
theorem qo0{kt vt:Ty}:∀{l:List D}{es:List MapEntry},RdM w F l kt vt es→l.length=es.length
 |[],es,h=>by rw[show es=[] from h];rfl
 |p::l,es,⟨e,r,h1,_,h2⟩=>by rw[h1];simp[qo0 h2]
end
end
section
abbrev qe:=Nat→Option Nat
def q3n(p:qe)(b:Nat):Prop:=∀x,p x≠some b
structure Bk where
 r:Nat→Prop
 o:Nat→Prop
 d:∀b,o b→¬r b
 k:Bool
instance:CoeFun Bk fun _=>Nat→Prop:=⟨Bk.r⟩
def Bk.all(A:Nat→Prop):Bk:=⟨A,fun _=>False,fun _ h=>h.elim,false⟩
abbrev q0d:Nat:=159999999
def FFD(A:Bk)(p:qe)(dep:List Nat)(b:Nat):Prop:=(A b∧q3n p b)∨(∃x,x∈dep∧p x=some b)∨(q0d∈dep∧A.o b)
theorem qx2{T:TypeId}{t:Ty}(h:qc T=some t){n:Nat}(hn:n≤34359738367):n≤LM t:=by
 obtain⟨h1,h2⟩:=qsw h;refine(Nat.le_div_iff_mul_le h1).2 ?_;have:n * t.by≤34359738367 * 4096:=Nat.mul_le_mul hn h2;unfold LIM;omega
def qbj(A:Bk)(p:qe)(w:World)(dep:List Nat)(pin:Nat)(E:TypeId)(te:Ty)(l:List D)(v:Value):Prop:=
 (v=.slice none 0 0∧l=[])∨
 ∃g cap cur,v=.slice (some ⟨g,0,none⟩) l.length cap∧p pin=some g∧w.heap[g]? =some (.cells cur E (0,0))∧l.length≤cap∧cap≤maxLen∧cur.size=cap * te.w∧l.length≤LM te∧
  ∀i(h:i<l.length),∃cs,w.rangeAt g (i * te.w) cs∧Rd w (FFD A p dep) l[i] te cs
def z0p(p:qe)(w:World)(pin:Nat)(d:D)(t:Ty)(cs:List Value):Prop:=∃K V kt vt l g es clock,t=.map K V∧qc K=some kt∧qc V=some vt∧d=.mp l∧cs=[.map (some g)]∧p pin=some g∧w.heap[g]? =some (.map es clock)∧q2r kt vt l es.toList
def Fl(A:Bk)(p:qe)(w:World)(dep:List Nat)(o:Option Nat)(d:D)(t:Ty)(cs:List Value):Prop:=match o with
 |none=>Rd w (FFD A p dep) d t cs
 |some pin=>(∃E te l v,t=.row E∧qc E=some te∧d=.r l∧cs=[v]∧qbj A p w dep pin E te l v)∨z0p p w pin d t cs
def Fls(A:Bk)(p:qe)(w:World)(dep:List Nat)(own:List (Nat×Nat)):Nat→List D→List Ty→List Value→Prop
 |_,[],fs,cs=>fs=[]∧cs=[]
 |j,d::ds,fs,cs=>∃t ts c1 c2,fs=t::ts∧cs=c1++c2∧Fl A p w dep (lkA own j) d t c1∧Fls A p w dep own (j+1) ds ts c2
def q8z:Ty→Bool
 |.st _=>true
 |_=>false
def Con(A:Bk)(p:qe)(w:World)(d:D)(t:Ty)(own:List (Nat×Nat))(dep:List Nat)(cs:List Value):Prop:=match t with
 |.st T=>∃fs ds,flds T=some fs∧d=.a ds∧Fls A p w dep own 0 ds fs cs
 |t=>Fl A p w dep (lkA own 0) d t cs
section
variable{A:Bk}{p p':qe}{w w':World}{dep:List Nat}
theorem FFD.mono{dep':List Nat}(h:∀x∈dep,x∈dep'){b:Nat}(hb:FFD A p dep b):FFD A p dep' b:=hb.imp id (Or.imp (fun⟨x,hx,e⟩=>⟨x,h x hx,e⟩) fun q=>⟨h _ q.1,q.2⟩)
theorem qbj.rd{pin:Nat}{E:TypeId}{te:Ty}{l:List D}{v:Value}{dep':List Nat}(hte:qc E=some te)(h:qbj A p w dep pin E te l v)(hd:∀x∈dep,x∈dep')(hp:pin∈dep'):Rd w (FFD A p dep') (.r l) (.row E) [v]:=by
 rcases h with⟨rfl,rfl⟩|⟨g,cap,cur,rfl,hg,hh,h1,h2,h3,h4,h5⟩
 ·exact⟨E,te,none,0,rfl,hte,rfl,by simp,by simp,by simp[maxLen],by simp[RdE]⟩
 ·refine⟨E,te,some ⟨g,0,none⟩,cap,rfl,hte,rfl,h1,h4,h2,jg.2 fun j hj=>?_⟩;obtain⟨cs,hr,hx⟩:=h5 j hj;exact⟨g,0,cs,rfl,.inr (.inl ⟨pin,hp,hg⟩),by simpa using hr,hx.mono fun b _ hb=>hb.mono hd⟩
theorem Fl.rd{o:Option Nat}{d:D}{t:Ty}{cs:List Value}{dep':List Nat}(h:Fl A p w dep o d t cs)(hd:∀x∈dep,x∈dep')(hp:∀x,o=some x→x∈dep'):Rd w (FFD A p dep') d t cs:=by
 cases o with
 |none=>exact Rd.mono (fun b _ hb=>hb.mono hd) h
 |some pin=>
  rcases h with⟨E,te,l,v,rfl,hte,rfl,rfl,hv⟩|⟨K,V,kt,vt,l,g,es,clock,rfl,hK,hV,rfl,rfl,hg,hh,hl⟩
  ·exact hv.rd hte hd (hp pin rfl)
  ·exact⟨K,V,kt,vt,g,es,clock,rfl,hK,hV,rfl,.inr (.inl ⟨pin,hp pin rfl,hg⟩),hh,hl.rdM⟩
theorem q18{own:List (Nat×Nat)}{j x:Nat}(h:lkA own j=some x):x∈own.map (·.2):=List.mem_map.2 ⟨_,y3 h,rfl⟩
theorem Fls.rd{own:List (Nat×Nat)}{dep':List Nat}(hd:∀x∈dep,x∈dep')(hp:∀x∈own.map (·.2),x∈dep'):∀{ds:List D}{j:Nat}{fs:List Ty}{cs:List Value},Fls A p w dep own j ds fs cs→RdF w (FFD A p dep') ds fs cs
 |[],_,_,_,h=>h
 |d::ds,j,fs,cs,⟨t,ts,c1,c2,e1,e2,h1,h2⟩=>⟨t,ts,c1,c2,e1,e2,h1.rd hd fun x hx=>hp x (q18 hx),Fls.rd hd hp h2⟩
theorem Con.rd{own:List (Nat×Nat)}{d:D}{t:Ty}{cs:List Value}{dep':List Nat}(h:Con A p w d t own dep cs)(hd:∀x∈dep,x∈dep')(hp:∀x∈own.map (·.2),x∈dep'):Rd w (FFD A p dep') d t cs:=by
 unfold Con at h;split at h
 ·rename_i T;obtain⟨fs,ds,hf,rfl,h⟩:=h;exact⟨T,fs,rfl,hf,h.rd hd hp⟩
 ·exact h.rd hd fun x hx=>hp x (q18 hx)
theorem Fls.of_rd:∀{ds:List D}{j:Nat}{fs:List Ty}{cs:List Value},RdF w (FFD A p dep) ds fs cs→Fls A p w dep [] j ds fs cs
 |[],_,_,_,h=>h
 |d::ds,j,fs,cs,⟨t,ts,c1,c2,e1,e2,h1,h2⟩=>⟨t,ts,c1,c2,e1,e2,h1,Fls.of_rd h2⟩
theorem Con.of_rd{d:D}{t:Ty}{cs:List Value}(h:Rd w (FFD A p dep) d t cs):Con A p w d t [] dep cs:=by
 unfold Con;split
 ·rename_i T;cases d with
  |a l=>
   obtain⟨T',fs,e,hf,h⟩:=h;injection e with e;subst e;exact⟨fs,l,hf,rfl,Fls.of_rd h⟩
  |u=>obtain⟨E,te,e,-⟩:=h;cases e
  |i n=>rcases h with⟨k,e,-⟩|⟨e,-⟩<;>cases e
  |b x=>cases h.1
  |s x=>cases h.1
  |r l=>obtain⟨E,te,A,cap,e,-⟩:=h;cases e
  |mp l=>obtain⟨K,V,kt,vt,g,es,clock,e,-⟩:=h;cases e
 ·exact h
theorem Con.len{own:List (Nat×Nat)}{d:D}{t:Ty}{cs:List Value}(h:Con A p w d t own dep cs):cs.length=t.w∧One cs:=
 Rd.len d (h.rd (dep':=dep++own.map (·.2)) (fun x hx=>uC _ hx) (fun x hx=>uB _ hx))
def q6y(w:World)(b:Nat):Prop:=(∃cs T,w.heap[b]? =some (.cells cs T (0,0)))∨∃es clock,w.heap[b]? =some (.map es clock)
theorem q6y.cells{w:World}{b o:Nat}{v:Value}(h:q6y w b)(hc:w.cell? ⟨b,o,none⟩=some v):∃cs T,w.heap[b]? =some (.cells cs T (0,0)):=by
 rcases h with h|⟨es,clock,h⟩
 ·exact h
 ·unfold vM at hc;simp[h] at hc
theorem q6y.same{w w':World}{b:Nat}(h:q6y w b)(he:w'.heap[b]? =w.heap[b]?):q6y w' b:=by
 rcases h with⟨cs,T,h⟩|⟨es,clock,h⟩
 ·exact .inl ⟨cs,T,he.trans h⟩
 ·exact .inr ⟨es,clock,he.trans h⟩
structure Stab(A:Bk)(Z L:Nat→Bool)(p:qe)(w:World)(p':qe)(w':World):Prop where
 size:w.heap.size≤w'.heap.size
 free:∀b,b<w.heap.size→A b→q3n p b→w'.heap[b]? =w.heap[b]?∧q3n p' b
 loc:∀x b,L x=false→p x=some b→p' x=some b
 con:∀x b,Z x=false→p x=some b→w'.heap[b]? =w.heap[b]?
 old:∀b,b<w.heap.size→A.o b→w'.heap[b]? =w.heap[b]?
def no:Nat→Bool:=fun _=>false
theorem Stab.kp{Z L:Nat→Bool}(h:Stab A Z L p w p' w')(hz:∀x∈dep,Z x=false∧L x=false):Kp (FFD A p dep) (FFD A p' dep) w w':=fun b o hb ho=>by
 rcases hb with⟨ha,hf⟩|⟨x,hx,e⟩|⟨hm,hao⟩
 ·obtain⟨h1,h2⟩:=h.free b (zd ho) ha hf;exact⟨h1.trans ho,.inl ⟨ha,h2⟩⟩
 ·exact⟨(h.con x b (hz x hx).1 e).trans ho,.inr (.inl ⟨x,hx,h.loc x b (hz x hx).2 e⟩)⟩
 ·exact⟨(h.old b (zd ho) hao).trans ho,.inr (.inr ⟨hm,hao⟩)⟩
theorem q3e{b o:Nat}{cs:List Value}(h:w.rangeAt b o cs)(he:w'.heap[b]? =w.heap[b]?):w'.rangeAt b o cs:=fun j v hj=>(kZ (w:=w) he).trans (h j v hj)
theorem qbj.kept{Z L:Nat→Bool}{pin:Nat}{E:TypeId}{te:Ty}{l:List D}{v:Value}(h:qbj A p w dep pin E te l v)(hs:Stab A Z L p w p' w')(hz:∀x∈dep,Z x=false∧L x=false)(hp:Z pin=false∧L pin=false):qbj A p' w' dep pin E te l v:=by
 rcases h with h|⟨g,cap,cur,rfl,hg,hh,h1,h2,h3,h4,h5⟩
 ·exact .inl h
 ·have he:=hs.con pin g hp.1 hg;refine .inr ⟨g,cap,cur,rfl,hs.loc pin g hp.2 hg,he.trans hh,h1,h2,h3,h4,fun i hi=>?_⟩;obtain⟨cs,hr,hx⟩:=h5 i hi;exact⟨cs,q3e hr he,Rd.keeps (hs.kp hz) _ hx⟩
theorem Fl.kept{Z L:Nat→Bool}{o:Option Nat}{d:D}{t:Ty}{cs:List Value}(h:Fl A p w dep o d t cs)(hs:Stab A Z L p w p' w')(hz:∀x∈dep,Z x=false∧L x=false)(hp:∀x,o=some x→Z x=false∧L x=false):Fl A p' w' dep o d t cs:=by
 cases o with
 |none=>exact Rd.keeps (hs.kp hz) _ h
 |some pin=>
  rcases h with⟨E,te,l,v,e1,e2,e3,e4,hv⟩|⟨K,V,kt,vt,l,g,es,clock,e1,hK,hV,e2,e3,hg,hh,hl⟩
  ·exact .inl ⟨E,te,l,v,e1,e2,e3,e4,hv.kept hs hz (hp pin rfl)⟩
  ·exact .inr ⟨K,V,kt,vt,l,g,es,clock,e1,hK,hV,e2,e3,hs.loc pin g (hp pin rfl).2 hg,(hs.con pin g (hp pin rfl).1 hg).trans hh,hl⟩
theorem Fls.kept{Z L:Nat→Bool}{own:List (Nat×Nat)}(hs:Stab A Z L p w p' w')(hz:∀x∈dep,Z x=false∧L x=false)(hp:∀x∈own.map (·.2),Z x=false∧L x=false):∀{ds:List D}{j:Nat}{fs:List Ty}{cs:List Value},Fls A p w dep own j ds fs cs→Fls A p' w' dep own j ds fs cs
 |[],_,_,_,h=>h
 |d::ds,j,fs,cs,⟨t,ts,c1,c2,e1,e2,h1,h2⟩=>⟨t,ts,c1,c2,e1,e2,h1.kept hs hz fun x hx=>hp x (q18 hx),Fls.kept hs hz hp h2⟩
theorem Con.kept{Z L:Nat→Bool}{own:List (Nat×Nat)}{d:D}{t:Ty}{cs:List Value}(h:Con A p w d t own dep cs)(hs:Stab A Z L p w p' w')(hz:∀x∈dep,Z x=false∧L x=false)(hp:∀x∈own.map (·.2),Z x=false∧L x=false):Con A p' w' d t own dep cs:=by
 unfold Con at h⊢;split
 ·obtain⟨fs,ds,hf,e,h⟩:=h;exact⟨fs,ds,hf,e,h.kept hs hz hp⟩
 ·rename_i hn;split at h
  ·rename_i T;exact absurd rfl (hn T)
  ·exact h.kept hs hz fun x hx=>hp x (q18 hx)
end
section
variable{A:Bk}{p:qe}{w:World}{dep:List Nat}
theorem Fl.flat1{o:Option Nat}{d:D}{t:Ty}{cs:List Value}(h:Fl A p w dep o d t cs)(hf:qm 8 t=true∨(o≠none∧∃E te,t=.row E∧qc E=some te∧qm 8 te=true)):Fl A p w [] o d t cs:=by
 cases o with
 |none=>
  rcases hf with hf|⟨h0,-⟩
  ·exact Rd.flat 8 _ hf h
  ·exact absurd rfl h0
 | some pin =>
  rcases h.symm with h|⟨E,te,l,v,rfl,hte,e2,e3,hv⟩
  ·exact .inr h
  have hfl:qm 8 te=true:=by
   rcases hf with hf|⟨-,E',te',e,hte',hfl⟩
   ·simp[qm] at hf
   ·injection e with e;subst e;obtain rfl:=gnI (hte'.symm.trans hte);exact hfl
  refine .inl ⟨E,te,l,v,rfl,hte,e2,e3,?_⟩;rcases hv with hv|⟨g,cap,cur,e4,hg,hh,q1,q2,q3,q4,q5⟩
  ·exact .inl hv
  ·refine .inr ⟨g,cap,cur,e4,hg,hh,q1,q2,q3,q4,fun i hi=>?_⟩;obtain⟨vs,hr1,hd⟩:=q5 i hi;exact⟨vs,hr1,Rd.flat 8 _ hfl hd⟩
theorem Con.flatT{t:Ty}{own:List (Nat×Nat)}{d:D}{cs:List Value}(h:Con A p w d t own dep cs)(hf:qm 8 t=true):Con A p w d t own [] cs:=by
 unfold Con at h⊢;split
 ·rename_i S;obtain⟨fs,ds,hfs,e,h⟩:=h;refine⟨fs,ds,hfs,e,?_⟩;simp only[qm,hfs] at hf;clear hfs e;have key:∀{ds:List D}{n:Nat}{fs:List Ty}{cs:List Value},(fs.all (qm 7))=true→Fls A p w dep own n ds fs cs→Fls A p w [] own n ds fs cs:=by
   intro ds
   induction ds with
   |nil=>intro n fs cs _ h;exact h
   | cons d ds ih =>
    rintro n fs cs hall⟨t,ts,c1,c2,rfl,rfl,h1,h2⟩;simp only[kE,gnB] at hall;refine⟨t,ts,c1,c2,rfl,rfl,?_,ih hall.2 h2⟩;cases ho:lkA own n with
    |none=>
     rw[ho] at h1;exact Rd.flat 7 _ hall.1 h1
    |some pin=>
     rw[ho] at h1;rcases h1 with⟨E,te,l,v,rfl,-⟩|⟨K,V,kt,vt,l,g,es,clock,rfl,-⟩<;>simp[qm] at hall
  exact key hf h
 ·rename_i hne;split at h
  ·rename_i T;exact absurd rfl (hne T)
  ·exact h.flat1 (.inl hf)
def depF(t:Ty)(l:List Nat):List Nat:=if qm 8 t then[] else l
theorem Con.depF{t:Ty}{own:List (Nat×Nat)}{d:D}{cs:List Value}(h:Con A p w d t own dep cs):Con A p w d t own (depF t dep) cs:=by
 unfold Proofs.Ytokkfpalbpnpeaa.depF;split
 ·rename_i hf;exact h.flatT hf
 ·exact h
end
structure ElI where
 k:Nat
 j:Nat
 x:X
 t:Ty
 own:List (Nat×Nat)
 dep:List Nat
 y:X
def ElI.pins(e:ElI):List Nat:=e.k * 16::(e.own.map (·.2)++e.dep)
def qhr:Option ElI→List Nat
 |none=>[]
 |some e=>e.pins
inductive AV where
 |any
 |undef
 |v(x:X)(t:Ty)(own:List (Nat×Nat))(dep:List Nat)
 |nilS
 |nilP
 |ref(k:Nat)(path:List Nat)(o:Nat)(t:Ty)
 |rd(x:X)(t:Ty)(dep:List Nat)(wr:Option (Nat×X×List Nat×Nat×Ty))
 |tup(l:List AV)
 |gd(c:List (X×Bool))(a:AV)
 |fn(f:FuncId)(l:List AV)
 |nb(x:X)(neg:Bool)
 |bx(k:Nat)(T:TypeId)(a:AV)
 |fr(T:TypeId)(a:AV)
 |ff(f:FuncId)(T1:TypeId)(x1:X)(t1:Ty)(T2:TypeId)(x2:X)(t2:Ty)(dep:List Nat)
 |sn(t:Nat)(a:AV)
 |pt(pin:Nat)(i:X)(E:TypeId)(a:AV)
 |ar(E:TypeId)(xs:List X)(dep:List Nat)
 |lv(k:Nat)(t:Ty)
 |ax(k:Nat)(T:TypeId)(n:Nat)(a:AV)
 |wf(k j:Nat)(x:X)(t:Ty)(own:List (Nat×Nat))(dep:List Nat)(a:AV)
 |el(o:Option ElI)(r:Nat)(i:X)(a:AV)
 |hd(r:Nat)(E:TypeId)(x:X)
structure Ent where
 x:X
 t:Ty
 own:List (Nat×Nat)
 dep:List Nat
structure St where
 t:List (Nat×AV)
 m:List (Nat×Ent)
abbrev VB:Nat:=100000
structure Flr where
 fl:Nat→Nat
 mx:Ty→Nat
 fr:Nat→Prop
def Flr.no:Flr:=⟨fun _=>0,fun _=>0,fun _=>True⟩
def FlT(te:Ty)(n:Nat):Prop:=te.w<n∨(nvB te=true∧te.w≤n)
def Flo(F:Flr)(w0 w:World):Prop:=∀k,0<F.fl k→∃cs cs' T te,k<w0.heap.size∧w0.heap[k]? =some (.cells cs T (0,0))∧qc T=some te∧F.fl k≤F.mx te * te.w∧FlT te cs.size∧
 w.heap[k]? =some (.cells cs' T (0,0))∧cs'.size=cs.size∧∀j,j<F.fl k→cs'[j]? =cs[j]?
theorem Flo.no{w0 w:World}:Flo .no w0 w:=fun k h=>absurd h (Nat.lt_irrefl 0)
structure Cx where
 v:Ev
 A:Bk
 F:Flr
 lo:Nat
 At:Nat→Nat→Prop
 new:∀k g,lo≤k→k<VB→At k g
 snap:Nat→Value:=fun _=>undef
def hold(e:Ev)(c:List (X×Bool)):Bool:=c.all fun y=>(y.1.ev e).tt==y.2
def qzn(c:Cx)(p:qe)(w:World)(b o:Nat):Option (Nat×X×List Nat×Nat×Ty)→Prop
 |none=>True
 |some (pin,i,_,q,te)=>p pin=some b∧o=(i.ev c.v).int.toNat * te.w+q∧∃cur E,w.heap[b]? =some (.cells cur E (0,0))∧qc E=some te
def z0o(c:Cx)(p:qe)(pin:Nat)(i:X)(E:TypeId)(v:Value):Prop:=∃te A n cap,qc E=some te∧v=.slice A n cap∧(0<n→∃g,p pin=some g∧A=some ⟨g,(i.ev c.v).int.toNat * te.w,none⟩)
def qlc(c:Cx)(p:qe)(w:World)(E:TypeId)(xs:List X)(dep:List Nat)(v:Value):Prop:=∃(te:Ty)(cs:List Value),qc E=some te∧v=.agg cs.toArray∧cs.length=xs.length * te.w∧∀(j:Nat)(d:D),(X.evs c.v xs)[j]? =some d→Rd w (FFD c.A p dep) d te ((cs.drop (j * te.w)).take te.w)
def qs2(c:Cx)(p:qe)(w:World)(f:FuncId)(T1:TypeId)(x1:X)(t1:Ty)(T2:TypeId)(x2:X)(t2:Ty)(dep:List Nat)(v:Value):Prop:=∃(g:Nat)(cs1 cs2:List Value),v=.func (.func f) #[] #[.pointer (some ⟨g,0,none⟩),.pointer (some ⟨g+1,0,none⟩)]∧(c.A g∧q3n p g)∧(c.A (g+1)∧q3n p (g+1))∧(c.F.fr g∧c.F.fr (g+1))∧w.heap[g]? =some (.cells cs1.toArray T1 (0,0))∧w.heap[g+1]? =some (.cells cs2.toArray T2 (0,0))∧Rd w (fun b=>FFD c.A p dep b∧b<g) (x1.ev c.v) t1 cs1∧Rd w (fun b=>FFD c.A p dep b∧b<g) (x2.ev c.v) t2 cs2
theorem Kp.and{F F' P:Nat→Prop}{w w':World}(h:Kp F F' w w'):Kp (fun b=>F b∧P b) (fun b=>F' b∧P b) w w':=fun b o hb ho=>⟨(h b o hb.1 ho).1,(h b o hb.1 ho).2,hb.2⟩
theorem qs2.kept{c:Cx}{p p':qe}{w w':World}{Z L:Nat→Bool}(hs:Stab c.A Z L p w p' w'){f:FuncId}{T1:TypeId}{x1:X}{t1:Ty}{T2:TypeId}{x2:X}{t2:Ty}{dep:List Nat}{v:Value}(h1:∀x∈dep,Z x=false∧L x=false)(h:qs2 c p w f T1 x1 t1 T2 x2 t2 dep v):qs2 c p' w' f T1 x1 t1 T2 x2 t2 dep v:=by
 obtain⟨g,cs1,cs2,e,ha,hb,hfr,hg,hg2,r1,r2⟩:=h;obtain⟨k1,k2⟩:=hs.free g (zd hg) ha.1 ha.2;obtain⟨k3,k4⟩:=hs.free (g+1) (zd hg2) hb.1 hb.2;exact⟨g,cs1,cs2,e,⟨ha.1,k2⟩,⟨hb.1,k4⟩,hfr,k1.trans hg,k3.trans hg2,Rd.keeps (hs.kp h1).and _ r1,Rd.keeps (hs.kp h1).and _ r2⟩
def q1r(A:Bk)(p:qe)(w:World)(dep:List Nat)(own:List (Nat×Nat))(J:Nat):Nat→List D→List Ty→List Value→Prop
 |_,[],fs,cs=>fs=[]∧cs=[]
 |j,d::ds,fs,cs=>∃t ts c1 c2,fs=t::ts∧cs=c1++c2∧c1.length=t.w∧(j≠J→Fl A p w dep (lkA own j) d t c1)∧q1r A p w dep own J (j+1) ds ts c2
theorem q1r.kept{A:Bk}{p p':qe}{w w':World}{dep:List Nat}{Z L:Nat→Bool}{own:List (Nat×Nat)}{J:Nat}(hs:Stab A Z L p w p' w')(hz:∀x∈dep,Z x=false∧L x=false)(hp:∀x∈own.map (·.2),Z x=false∧L x=false):∀{ds:List D}{j:Nat}{fs:List Ty}{cs:List Value},q1r A p w dep own J j ds fs cs→q1r A p' w' dep own J j ds fs cs
 |[],_,_,_,h=>h
 |d::ds,j,fs,cs,⟨t,ts,c1,c2,e1,e2,hl,h1,h2⟩=>⟨t,ts,c1,c2,e1,e2,hl,fun hj=>(h1 hj).kept hs hz fun x hx=>hp x (q18 hx),q1r.kept hs hz hp h2⟩
def qr6(c:Cx)(p:qe)(w:World)(k j:Nat)(x:X)(t:Ty)(own:List (Nat×Nat))(dep:List Nat):Prop:=∃g cs T S fs ds,p (k * 16)=some g∧w.heap[g]? =some (.cells cs T (0,0))∧qc T=some t∧t=.st S∧flds S=some fs∧x.ev c.v=.a ds∧q1r c.A p w dep own j 0 ds fs cs.toList
theorem qr6.kept{c:Cx}{p p':qe}{w w':World}{Z L:Nat→Bool}(hs:Stab c.A Z L p w p' w'){k j:Nat}{x:X}{t:Ty}{own:List (Nat×Nat)}{dep:List Nat}(h1:∀y∈k * 16::(own.map (·.2)++dep),Z y=false∧L y=false)(h:qr6 c p w k j x t own dep):qr6 c p' w' k j x t own dep:=by
 obtain⟨g,cs,T,S,fs,ds,hg,hh,e1,e2,e3,e4,hf⟩:=h;exact⟨g,cs,T,S,fs,ds,hs.loc _ _ (h1 _ uF).2 hg,(hs.con _ _ (h1 _ uF).1 hg).trans hh,e1,e2,e3,e4,hf.kept hs (fun y hy=>h1 y (uD _ (uB _ hy))) fun y hy=>h1 y (uD _ (uC _ hy))⟩
def HdR(p:qe)(w:World)(pin:Nat)(E:TypeId)(te:Ty)(l:List D)(v:Value):Prop:=
 (v=.slice none 0 0∧l=[])∨
 ∃g cap cur,v=.slice (some ⟨g,0,none⟩) l.length cap∧p pin=some g∧w.heap[g]? =some (.cells cur E (0,0))∧l.length≤cap∧cap≤maxLen∧cur.size=cap * te.w∧l.length≤LM te
theorem HdR.kept{A:Bk}{p p':qe}{w w':World}{Z L:Nat→Bool}{pin:Nat}{E:TypeId}{te:Ty}{l:List D}{v:Value}(hs:Stab A Z L p w p' w')(hp:Z pin=false∧L pin=false)(h:HdR p w pin E te l v):HdR p' w' pin E te l v:=by
 rcases h with h|⟨g,cap,cur,rfl,hg,hh,h1,h2,h3,h4⟩
 ·exact .inl h
 ·exact .inr ⟨g,cap,cur,rfl,hs.loc pin g hp.2 hg,(hs.con pin g hp.1 hg).trans hh,h1,h2,h3,h4⟩
def qs1(c:Cx)(p:qe)(w:World)(r:Nat)(E:TypeId)(x:X)(v:Value):Prop:=∃te l,qc E=some te∧x.ev c.v=.r l∧HdR p w r E te l v
def ql4(c:Cx)(p:qe)(w:World)(r:Nat)(i:X)(v:Value):Prop:=∃g cur E te,p r=some g∧w.heap[g]? =some (.cells cur E (0,0))∧qc E=some te∧te.w=1∧cur[(i.ev c.v).int.toNat]? =some v
theorem ql4.kept{c:Cx}{A:Bk}{p p':qe}{w w':World}{Z L:Nat→Bool}{r:Nat}{i:X}{v:Value}(hs:Stab A Z L p w p' w')(hp:Z r=false∧L r=false)(h:ql4 c p w r i v):ql4 c p' w' r i v:=by
 obtain⟨g,cur,E,te,h1,h2,h3⟩:=h;exact⟨g,cur,E,te,hs.loc _ _ hp.2 h1,(hs.con _ _ hp.1 h1).trans h2,h3⟩
def qfd(c:Cx)(p:qe)(w:World)(r:Nat)(i:X)(e:ElI):Prop:=∃g cs T S fs ds E te l v1,p (e.k * 16)=some g∧w.heap[g]? =some (.cells cs T (0,0))∧qc T=some e.t∧e.t=.st S∧flds S=some fs∧e.x.ev c.v=.a ds∧q1r c.A p w e.dep e.own e.j 0 ds fs cs.toList∧
 fs[e.j]? =some (.row E)∧qc E=some te∧ds[e.j]? =some (.r l)∧cs.toList[offs fs e.j]? =some v1∧HdR p w r E te l v1∧(∀d,l[(i.ev c.v).int.toNat]? =some d→d=e.y.ev c.v)∧
 ∀n(h:n<l.length),n≠(i.ev c.v).int.toNat→∃g1 vs,p r=some g1∧w.rangeAt g1 (n * te.w) vs∧Rd w (FFD c.A p e.dep) l[n] te vs
theorem qfd.kept{c:Cx}{p p':qe}{w w':World}{Z L:Nat→Bool}(hs:Stab c.A Z L p w p' w'){r:Nat}{i:X}{e:ElI}(h1:∀y∈e.pins,Z y=false∧L y=false)(h2:Z r=false∧L r=false)(h:qfd c p w r i e):qfd c p' w' r i e:=by
 obtain⟨g,cs,T,S,fs,ds,E,te,l,v1,hg,hh,e1,e2,e3,e4,hf,e5,e6,e7,e8,e9,e10,e11⟩:=h;have hk:=h1 _ uF;have ho:∀y∈e.own.map (·.2),Z y=false∧L y=false:=fun y hy=>h1 y (uD _ (uC _ hy));have hd:∀y∈e.dep,Z y=false∧L y=false:=fun y hy=>h1 y (uD _ (uB _ hy));refine⟨g,cs,T,S,fs,ds,E,te,l,v1,hs.loc _ _ hk.2 hg,(hs.con _ _ hk.1 hg).trans hh,e1,e2,e3,e4,hf.kept hs hd ho,e5,e6,e7,e8,e9.kept hs h2,e10,fun n hn hne=>?_⟩;obtain⟨g1,vs,q1,q2,q3⟩:=e11 n hn hne;exact⟨g1,vs,hs.loc _ _ h2.2 q1,q3e q2 (hs.con _ _ h2.1 q1),Rd.keeps (hs.kp hd) _ q3⟩
def ElO(c:Cx)(p:qe)(w:World)(r:Nat)(i:X):Option ElI→Prop
 |none=>True
 |some e=>qfd c p w r i e
theorem ElO.kept{c:Cx}{p p':qe}{w w':World}{Z L:Nat→Bool}(hs:Stab c.A Z L p w p' w'){r:Nat}{i:X}:∀{o:Option ElI},(∀y∈qhr o,Z y=false∧L y=false)→(Z r=false∧L r=false)→ElO c p w r i o→ElO c p' w' r i o
 |none,_,_,_=>trivial
 |some e,h1,h2,h=>qfd.kept hs h1 h2 h
mutual
def AV.pd(c:Cx)(p:qe)(w:World):AV→Value→Prop
 |.any,_=>True
 |.undef,v=>v=Go.undef
 |.v x t own dep,v=>∃cs,z4 t cs v∧Con c.A p w (x.ev c.v) t own dep cs
 |.nilS,v=>v=.slice none 0 0
 |.nb x neg,v=>∃b,v=.bool b∧(b= !neg→(x.ev c.v).rs=[])
 |.nilP,v=>v=.pointer none
 |.ref k _ o _,v=>∃g,p (k * 16)=some g∧v=.pointer (some ⟨g,o,none⟩)∧c.At k g
 |.rd x t dep wr,v=>∃b o cs,v=.pointer (some ⟨b,o,none⟩)∧FFD c.A p dep b∧w.rangeAt b o cs∧0<cs.length∧Rd w (FFD c.A p dep) (x.ev c.v) t cs∧qzn c p w b o wr
 |.tup l,v=>∃vs,v=.tuple vs.toArray∧pds c p w l vs
 |.gd cs a,v=>(hold c.v cs=true→AV.pd c p w a v)∧(hold c.v cs=false→v=Go.undef)
 |.fn f l,v=>∃vs,v=.func (.func f) #[] vs.toArray∧pds c p w l vs
 |.bx k T a,v=>∃g u,(p (k * 16)=some g∧c.At k g)∧v=.pointer (some ⟨g,0,none⟩)∧w.heap[g]? =some (.cells #[u] T (0,0))∧AV.pd c p w a u
 |.sn t a,v=>v=c.snap t∧AV.pd c p w a v
 |.pt pin i E a,v=>z0o c p pin i E v∧AV.pd c p w a v
 |.ar E xs dep,v=>qlc c p w E xs dep v
 |.lv k t,v=>∃g cs T,(p (k * 16)=some g∧c.At k g)∧v=.pointer (some ⟨g,0,none⟩)∧w.heap[g]? =some (.cells cs T (0,0))∧qc T=some t∧cs.size=t.w
 |.ax k T n a,v=>∃g cs,(p (k * 16)=some g∧c.At k g)∧v=.pointer (some ⟨g,0,none⟩)∧w.heap[g]? =some (.cells cs T (0,0))∧cs.size=n∧AV.pd c p w a (.agg cs)
 |.fr T a,v=>∃g u,c.A g∧q3n p g∧v=.pointer (some ⟨g,0,none⟩)∧w.heap[g]? =some (.cells #[u] T (0,0))∧AV.pd c p w a u
 |.ff f T1 x1 t1 T2 x2 t2 dep,v=>qs2 c p w f T1 x1 t1 T2 x2 t2 dep v
 |.wf k j x t own dep a,v=>qr6 c p w k j x t own dep∧AV.pd c p w a v
 |.el o r i a,v=>(ql4 c p w r i v∧ElO c p w r i o)∧AV.pd c p w a v
 |.hd r E x,v=>qs1 c p w r E x v
def pds(c:Cx)(p:qe)(w:World):List AV→List Value→Prop
 |[],vs=>vs=[]
 |a::l,vs=>∃v r,vs=v::r∧AV.pd c p w a v∧pds c p w l r
end
mutual
/-- The slices and variables that a fact hangs on. -/
def AV.pins:AV→List Nat
 |.v _ _ own dep=>own.map (·.2)++dep
 |.rd _ _ dep wr=>(match wr with|some (pin,_)=>[pin]|none=>[])++dep
 |.tup l=>qii l
 |.gd _ a=>AV.pins a
 |.fn _ l=>qii l
 |.bx k _ a=>k * 16::AV.pins a
 |.ax k _ _ a=>k * 16::AV.pins a
 |.fr _ a=>AV.pins a
 |.ff _ _ _ _ _ _ _ dep=>dep
 |.sn _ a=>AV.pins a
 |.wf k _ _ _ own dep a=>(k * 16::(own.map (·.2)++dep))++AV.pins a
 |.el o r _ a=>(r::qhr o)++AV.pins a
 |.hd r _ _=>[r]
 |.pt pin _ _ a=>pin::AV.pins a
 |.ar _ _ dep=>dep
 |.lv k _=>[k * 16]
 |_=>[]
def qii:List AV→List Nat
 |[]=>[]
 |a::l=>AV.pins a++qii l
end
mutual
/-- The variables that a fact points to. -/
def AV.keys:AV→List Nat
 |.ref k _ _ _=>[k * 16]
 |.tup l=>qh1 l
 |.gd _ a=>AV.keys a
 |.fn _ l=>qh1 l
 |.bx k _ a=>k * 16::AV.keys a
 |.ax k _ _ a=>k * 16::AV.keys a
 |.fr _ a=>AV.keys a
 |.sn _ a=>AV.keys a
 |.wf k _ _ _ _ _ a=>k * 16::AV.keys a
 |.el _ _ _ a=>AV.keys a
 |.pt _ _ _ a=>AV.keys a
 |.lv k _=>[k * 16]
 |_=>[]
def qh1:List AV→List Nat
 |[]=>[]
 |a::l=>AV.keys a++qh1 l
end
mutual
theorem AV.kept{c:Cx}{p p':qe}{w w':World}{Z L:Nat→Bool}(hs:Stab c.A Z L p w p' w'):∀(a:AV)(v:Value),(∀x∈a.pins,Z x=false∧L x=false)→(∀x∈a.keys,L x=false)→a.pd c p w v→a.pd c p' w' v
 |.any,v,_,_,h=>h
 |.undef,v,_,_,h=>h
 |.nilS,v,_,_,h=>h
 |.nb x neg,v,_,_,h=>h
 |.nilP,v,_,_,h=>h
 |.v x t own dep,v,h1,h2,⟨cs,hp,hc⟩=>⟨cs,hp,hc.kept hs (fun x hx=>h1 x (uB _ hx)) (fun x hx=>h1 x (uC _ hx))⟩
 |.ref k pt o t,v,h1,h2,⟨g,hg,e⟩=>⟨g,hs.loc _ _ (h2 (k * 16) (by simp[AV.keys])) hg,e⟩
 |.rd x t dep wr,v,h1,h2,⟨b,o,cs,e,hb,hr,h0,hd,hw⟩=>by
  have hk:=hs.kp (dep:=dep) fun x hx=>h1 x (uB _ hx);obtain⟨hr',hb'⟩:=hk.range hb hr h0;refine⟨b,o,cs,e,hb',hr',h0,Rd.keeps hk _ hd,?_⟩
  match wr,hw with
  |none,hw=>exact hw
  |some (pin,i,pt,q,te),hw=>exact⟨hs.loc _ _ (h1 pin (by simp[AV.pins])).2 hw.1,hw.2.1,hw.2.2.imp fun cur h=>h.imp fun E h=>⟨(hs.con _ _ (h1 pin (by simp[AV.pins])).1 hw.1).trans h.1,h.2⟩⟩
 |.tup l,v,h1,h2,⟨vs,e,h⟩=>⟨vs,e,qea hs l vs h1 h2 h⟩
 |.gd cs a,v,h1,h2,h=>⟨fun hc=>AV.kept hs a v h1 h2 (h.1 hc),h.2⟩
 |.fn f l,v,h1,h2,⟨vs,e,h⟩=>⟨vs,e,qea hs l vs h1 h2 h⟩
 |.bx k T a,v,h1,h2,⟨g,u,hg,e,hh,h⟩=>⟨g,u,⟨hs.loc _ _ (h2 (k * 16) (by simp[AV.keys])) hg.1,hg.2⟩,e,(hs.con _ _ (h1 (k * 16) (by simp[AV.pins])).1 hg.1).trans hh,AV.kept hs a u (fun x hx=>h1 x (uD _ hx)) (fun x hx=>h2 x (uD _ hx)) h⟩
 |.ax k T n a,v,h1,h2,⟨g,u,hg,e,hh,hn,h⟩=>⟨g,u,⟨hs.loc _ _ (h2 (k * 16) (by simp[AV.keys])) hg.1,hg.2⟩,e,(hs.con _ _ (h1 (k * 16) (by simp[AV.pins])).1 hg.1).trans hh,hn,AV.kept hs a (.agg u) (fun x hx=>h1 x (uD _ hx)) (fun x hx=>h2 x (uD _ hx)) h⟩
 |.sn t a,v,h1,h2,⟨e,h⟩=>⟨e,AV.kept hs a v h1 h2 h⟩
 |.wf k j x t own dep a,v,h1,h2,⟨e,h⟩=>⟨e.kept hs fun y hy=>h1 y (uC _ hy),AV.kept hs a v (fun y hy=>h1 y (uB _ hy)) (fun y hy=>h2 y (uD _ hy)) h⟩
 |.el o r i a,v,h1,h2,⟨⟨e1,e2⟩,h⟩=>⟨⟨e1.kept hs (h1 _ uF),e2.kept hs (fun y hy=>h1 y (uC _ (uD _ hy))) (h1 _ uF)⟩,AV.kept hs a v (fun y hy=>h1 y (uB _ hy)) h2 h⟩
 |.hd r E x,v,h1,h2,⟨te,l,e1,e2,e3⟩=>⟨te,l,e1,e2,e3.kept hs (h1 _ uF)⟩
 |.lv k t,v,h1,h2,⟨g,cs,T,hg,e,hh,hs'⟩=>⟨g,cs,T,⟨hs.loc _ _ (h2 (k * 16) (by simp[AV.keys])) hg.1,hg.2⟩,e,(hs.con _ _ (h1 (k * 16) (by simp[AV.pins])).1 hg.1).trans hh,hs'⟩
 |.ar E xs dep,v,h1,h2,⟨te,cs,e1,e2,h3,h⟩=>⟨te,cs,e1,e2,h3,fun j d hj=>Rd.keeps (hs.kp (dep:=dep) fun x hx=>h1 x hx) _ (h j d hj)⟩
 | .pt pin i E a, v, h1, h2, ⟨⟨te, A, n, cap, e1, e2, h3⟩, h⟩ => ⟨⟨te, A, n, cap, e1, e2, fun hn => by
   obtain⟨g,hg,e⟩:=h3 hn;exact⟨g,hs.loc _ _ (h1 pin uF).2 hg,e⟩⟩,AV.kept hs a v (fun x hx=>h1 x (uD _ hx)) h2 h⟩
 |.fr T a,v,h1,h2,⟨g,u,ha,hf,e,hh,h⟩=>⟨g,u,ha,(hs.free g (kP.1 hh).1 ha hf).2,e,(hs.free g (kP.1 hh).1 ha hf).1.trans hh,AV.kept hs a u h1 h2 h⟩
 |.ff f T1 x1 t1 T2 x2 t2 dep,v,h1,h2,h=>qs2.kept hs (fun x hx=>h1 x hx) h
theorem qea{c:Cx}{p p':qe}{w w':World}{Z L:Nat→Bool}(hs:Stab c.A Z L p w p' w'):∀(l:List AV)(vs:List Value),(∀x∈qii l,Z x=false∧L x=false)→(∀x∈qh1 l,L x=false)→pds c p w l vs→pds c p' w' l vs
 |[],vs,_,_,h=>h
 | a :: l, vs, h1, h2, ⟨v, r, e, ha, hl⟩ => ⟨v, r, e, AV.kept hs a v (fun x hx => h1 x (uC _ hx)) (fun x hx => h2 x (uC _ hx)) ha,
   qea hs l r (fun x hx=>h1 x (uB _ hx)) (fun x hx=>h2 x (uB _ hx)) hl⟩
end
def ju(c:Cx)(p:qe)(w:World)(k:Nat)(e:Ent):Prop:=∃g cs T,p (k * 16)=some g∧w.heap[g]? =some (.cells cs T (0,0))∧qc T=some e.t∧Con c.A p w (e.x.ev c.v) e.t e.own e.dep cs.toList
def Ent.pins(e:Ent):List Nat:=e.own.map (·.2)++e.dep
theorem ju.kept{c:Cx}{p p':qe}{w w':World}{Z L:Nat→Bool}{k:Nat}{e:Ent}(hs:Stab c.A Z L p w p' w')(h1:∀x∈e.pins,Z x=false∧L x=false)(h2:Z (k * 16)=false∧L (k * 16)=false)(h:ju c p w k e):ju c p' w' k e:=by
 obtain⟨g,cs,T,hg,hh,hty,hc⟩:=h;exact⟨g,cs,T,hs.loc _ _ h2.2 hg,(hs.con _ _ h2.1 hg).trans hh,hty,hc.kept hs (fun x hx=>h1 x (uB _ hx)) (fun x hx=>h1 x (uC _ hx))⟩
structure SF(c:Cx)(σ:St)(p:qe)(w:World)(a:Act):Prop where
 t:∀t x,lkA σ.t t=some x→∃v,a.tmps[t]? =some v∧x.pd c p w v
 m:∀k e,lkA σ.m k=some e→ju c p w k e
theorem Flo.same{F:Flr}{w0 w w':World}(h:Flo F w0 w)(hs:∀k,k<w.heap.size→0<F.fl k→w'.heap[k]? =w.heap[k]?):Flo F w0 w':=fun k hk=>by
 obtain⟨cs,cs',T,te,h1,h2,h3,h4,h5,h6,h7,h8⟩:=h k hk;exact⟨cs,cs',T,te,h1,h2,h3,h4,h5,(hs k (zd h6) hk).trans h6,h7,h8⟩
structure Bs(A:Bk)(F:Flr)(w0:World)(S0:Nat→Prop)(p:qe)(w:World):Prop where
 inj:∀x y b,p x=some b→p y=some b→x=y
 bd:∀x b,p x=some b→b<w.heap.size
 but:But S0 w0 w
 pin:∀x b,p x=some b→S0 b∨w0.heap.size≤b
 new:∀b,w0.heap.size≤b→A b∧F.fr b
 pa:∀x b,p x=some b→A b
 obj:∀x b,p x=some b→q6y w b
 flo:Flo F w0 w
 sp:A.k=true→∀b,A b→S0 b∨w0.heap.size≤b
 uf:∀b cs T f,(S0 b∨w0.heap.size≤b)→w.heap[b]? =some (.cells cs T f)→f=(0,0)
end
section
section
variable{w:World}{F:Nat→Prop}
theorem qrn{t:Ty}{cs:List Value}{v:Value}(ht:q8z t=false)(h:z4 t cs v):cs=[v]:=by
 cases t<;>first|exact h|(cases ht;done)
theorem qes{t:Ty}{v:Value}(ht:q8z t=false):z4 t [v] v:=by
 cases t<;>first|rfl|(cases ht;done)
theorem qei{T:TypeId}{t:Ty}(h:qc T=some t):(isAgg T).run uA w=.ok (q8z t) w:=by
 cases t with
 |int k=>simp[isAgg,run_underlying (q07 h).1,q8z]
 |bool=>simp[isAgg,run_underlying (q0e h).1,q8z]
 |str=>simp[isAgg,run_underlying (q04 h).1,q8z]
 |row E=>simp[isAgg,run_underlying (yi h).1,q8z]
 |map K V=>simp[isAgg,run_underlying (q3b h).1,q8z]
 |fnv=>
  obtain⟨⟨a,b,c,hu⟩,-⟩:=qce h;simp[isAgg,run_underlying hu,q8z]
 |st S=>
  obtain⟨fields,fs,zc,i,hu,-⟩:=q0j h;simp[isAgg,run_underlying hu,q8z]
theorem y6{T:TypeId}{t:Ty}(h:qc T=some t):(sizeOf T).run uA w=.ok t.w w:=by
 obtain⟨i,hi,hs,-⟩:=q02 h;simp[sizeOf,typeInfo,hi,hs]
theorem Rd.single{d:D}{t:Ty}{cs:List Value}(h:Rd w F d t cs)(ht:q8z t=false):∃v,cs=[v]:=by
 have hl:=(Rd.len d h).1;have:t.w=1:=by cases t<;>first|rfl|(cases ht;done)
 rw[this] at hl;exact List.length_eq_one_iff.1 hl
theorem q1z{T:TypeId}{t:Ty}(h:qc T=some t){c0 c1 c2:List Value}{o:Nat}(ho:c0.length=o){d:D}(hd:Rd w F d t c1):∃v,(part T (c0++(c1++c2)).toArray o).run uA w=.ok v w∧z4 t c1 v:=by
 have hl:=(Rd.len d hd).1;cases hs:q8z t with
 |true=>
  obtain⟨S,rfl⟩:∃S,t=.st S:=by cases t<;>first|exact⟨_,rfl⟩|(cases hs;done)
  refine⟨.agg c1.toArray,?_,rfl⟩;simp only[part,uH,qei h,hs,uE,if_true,y6 h,uL]
  congr 2
  apply vP;subst ho;simp only[Array.toList_extract,List.extract_eq_take_drop];rw[show c0.length+(Ty.st S).w - c0.length=c1.length by omega,List.drop_left,List.take_left]
 |false=>
  obtain⟨v,rfl⟩:=hd.single hs;refine⟨v,?_,qes hs⟩;have:(c0++([v]++c2)).toArray[o]? =some v:=by subst ho;simp
  simp only[part,uH,qei h,hs,uE,this];simp
theorem q50{T:TypeId}{t:Ty}(h:qc T=some t){b o:Nat}{cs:List Value}(hr:w.rangeAt b o cs){d:D}(hd:Rd w F d t cs):∃v,(Instr.loadAt T (.pointer (some ⟨b,o,none⟩))).run uA w=.ok v w∧z4 t cs v:=by
 have hl:=(Rd.len d hd).1;obtain⟨i,hi,hsz,-⟩:=q02 h;cases hs:q8z t with
 |true=>
  obtain⟨S,rfl⟩:∃S,t=.st S:=by cases t<;>first|exact⟨_,rfl⟩|(cases hs;done)
  obtain⟨fields,fs,zc,i',hu,-⟩:=q0j h;exact⟨_,run_loadAt_mid w b o T cs (.struct fields) hr hu rfl (by rw[hi];simp[hsz,hl]),rfl⟩
 |false=>
  obtain⟨v,rfl⟩:=hd.single hs;refine⟨v,?_,qes hs⟩;have hc:w.cell? ⟨b,o,none⟩=some v:=by simpa using hr 0 v rfl
  simp only[Instr.loadAt,Instr.sureAddr,loadVar,uH,uL,uE,qei h,hs];simp[load,vR,hc]
theorem Addr.mid_eq(b o j:Nat):(⟨b,o,none⟩:Addr).add j=⟨b,o+j,none⟩:=Addr.add_mid b o j
theorem q4t{T S:TypeId}(h:qc T=some (.st S)){fs:List Ty}(hf:flds S=some fs){j:Nat}{t:Ty}(hj:fs[j]? =some t)(b o:Nat):(Instr.fieldAt T (.pointer (some ⟨b,o,none⟩)) j).run uA w=.ok (.pointer (some ⟨b,o+offs fs j,none⟩)) w:=by
 obtain⟨fields,fs',zc,i,hu,hf',hb,-⟩:=q0j h;obtain rfl:fs'=fs:=gnI (hf'.symm.trans hf);obtain⟨f,hfl,hoff,hty,-⟩:=q1y hb hj;have hfl':fields[j]? =some f:=by simpa using hfl
 have hpos:=q0c hty;have hoff':f.offset=offs fs' j:=by omega
 have hne:t.w≠0:=by omega
 simp only[Instr.fieldAt,uH,run_underlying hu,uE,hfl',Instr.sureAddr,uL,fieldPlace,y6 hty,hne,if_false,hoff',Addr.mid_eq]
theorem qil{T S:TypeId}(h:qc T=some (.st S)){fs:List Ty}(hf:flds S=some fs){j:Nat}{t:Ty}(hj:fs[j]? =some t){c0 c1 c2:List Value}(ho:c0.length=offs fs j){d:D}(hd:Rd w F d t c1):
  ∃v,(Instr.field T (.agg (c0++(c1++c2)).toArray) j).run uA w=.ok v w∧z4 t c1 v:=by
 obtain⟨fields,fs',zc,i,hu,hf',hb,-⟩:=q0j h;obtain rfl:fs'=fs:=gnI (hf'.symm.trans hf);obtain⟨f,hfl,hoff,hty,-⟩:=q1y hb hj;have hfl':fields[j]? =some f:=by simpa using hfl
 obtain⟨v,hv,hp⟩:=q1z (c0:=c0) (c2:=c2) (o:=f.offset) hty (by omega) hd;refine⟨v,?_,hp⟩;simp only[Instr.field,uH,run_underlying hu,uE,hfl',asAgg,uL,hv]
theorem q8m:∀(n:Nat){T:TypeId}{t:Ty}{d d':D}{c c':List Value}{v v':Value}(dep:Nat),qc T=some t→qm n t=true→Rd w F d t c→Rd w F d' t c'→z4 t c v→z4 t c' v'→
  (Op.equalIn (dep+n) T v v').run uA w=.ok (decide (d=d')) w:=by
 intro n
 induction n with
 |zero=>intro T t d d' c c' v v' dep h hb;simp[qm] at hb
 | succ n ih =>
  intro T t d d' c c' v v' dep h hb hd hd' hp hp';cases t with
  |row E=>simp[qm] at hb
  |map K V=>simp[qm] at hb
  |fnv=>simp[qm] at hb
  |int k=>
   cases d<;>simp only[Rd,reduceCtorEq,false_and,exists_false,and_false,or_false,false_or] at hd;cases d'<;>simp only[Rd,reduceCtorEq,false_and,exists_false,and_false,or_false,false_or] at hd';obtain⟨k1,e1,rfl,-⟩:=hd;obtain⟨k2,e2,rfl,-⟩:=hd';injection e1 with e1;injection e2 with e2;subst e1 e2;obtain rfl:_=v:=by simpa[z4] using hp
   obtain rfl:_=v':=by simpa[z4] using hp'
   rw[show dep+(n+1)=(dep+n)+1 from rfl,run_equalIn_int w _ T _ _ _ _ (q07 h).1]
   congr 1
   rw[uK];simp
  |bool=>
   cases d<;>simp only[Rd,reduceCtorEq,false_and,exists_false,and_false,or_false,false_or] at hd;cases d'<;>simp only[Rd,reduceCtorEq,false_and,exists_false,and_false,or_false,false_or] at hd';obtain⟨e1,rfl⟩:=hd;obtain⟨e2,rfl⟩:=hd';obtain rfl:_=v:=by simpa[z4] using hp
   obtain rfl:_=v':=by simpa[z4] using hp'
   rw[show dep+(n+1)=(dep+n)+1 from rfl,run_equalIn_bool' w _ T _ _ (q0e h).1]
   congr 1
   rw[uK];simp
  |str=>
   cases d<;>simp only[Rd,reduceCtorEq,false_and,exists_false,and_false,or_false,false_or] at hd;cases d'<;>simp only[Rd,reduceCtorEq,false_and,exists_false,and_false,or_false,false_or] at hd';obtain⟨e1,rfl,-⟩:=hd;obtain⟨e2,rfl,-⟩:=hd';obtain rfl:_=v:=by simpa[z4] using hp
   obtain rfl:_=v':=by simpa[z4] using hp'
   rw[show dep+(n+1)=(dep+n)+1 from rfl,run_equalIn_string w _ T _ _ (q04 h).1]
   congr 1
   rw[uK];simp only[beq_iff_eq,gnD,D.s.injEq];exact⟨str_inj,fun e=>by rw[e]⟩
  | st S =>
   obtain⟨fields,fs,zc,i,hu,hf,hfb,hi,hs,hz,hpz,hst,-⟩:=q0j h;cases d<;>simp only[Rd,reduceCtorEq,false_and,exists_false,and_false,or_false,false_or] at hd;cases d'<;>simp only[Rd,reduceCtorEq,false_and,exists_false,and_false,or_false,false_or] at hd';rename_i l l';obtain⟨S1,fs1,e1,hf1,hl⟩:=hd;obtain⟨S2,fs2,e2,hf2,hl'⟩:=hd';injection e1 with e1;injection e2 with e2;subst e1 e2;obtain rfl:=gnI (hf1.symm.trans hf);obtain rfl:=gnI (hf2.symm.trans hf);obtain rfl:v=.agg c.toArray:=hp;obtain rfl:v'=.agg c'.toArray:=hp';have hfs:uA.fieldsOf T=fields:=by simp[Program.fieldsOf,hu]
   rw[show dep+(n+1)=(dep+n)+1 from rfl,run_equalIn_agg w _ T _ _ (by rw[hfs];exact hu) hst,hfs];simp only[qm,hf] at hb
   have key:∀(fl:List Field)(fs:List Ty)(l l':List D)(c c' p p':List Value),jr fl fs p.length=true→p'.length=p.length→(fs.all (qm n))=true→RdF w F l fs c→RdF w F l' fs c'→
     (Op.eqFields (dep+n) (p++c).toArray (p'++c').toArray fl).run uA w=.ok (decide (l=l')) w:=by
    intro fl
    induction fl with
    | nil =>
     intro fs l l' c c' p p' hb hpp hall hl hl';cases fs with
     |cons t ts=>cases hb
     | nil =>
      cases l with
      |cons d l=>obtain⟨t,ts,c1,c2,e,-⟩:=hl;cases e
      |nil=>
       cases l' with
       |cons d l=>obtain⟨t,ts,c1,c2,e,-⟩:=hl';cases e
       |nil=>simp[Op.eqFields]
    | cons f fl ihf =>
     intro fs l l' c c' p p' hb hpp hall hl hl';cases fs with
     |nil=>cases hb
     | cons t ts =>
      cases l with
      |nil=>cases hl.1
      | cons d l =>
       cases l' with
       |nil=>cases hl'.1
       | cons d' l' =>
        obtain⟨t1,ts1,c1,c2,e1,rfl,h1,h2⟩:=hl;obtain⟨t2,ts2,c1',c2',e2,rfl,h1',h2'⟩:=hl';injection e1 with e1 e1';injection e2 with e2 e2';subst e1 e1' e2 e2';simp only[jr,gnB] at hb;obtain⟨⟨⟨hb1,hb2⟩,hb3⟩,hb4⟩:=hb;simp only[kE,gnB] at hall;have hoff:=gnN hb1;have hty:qc f.type=some t:=by
         split at hb3
         ·rename_i t' ht';rw[ht',(Ty.beq_iff _ _).1 hb3]
         ·cases hb3
        obtain⟨v1,hv1,hp1⟩:=q1z (c0:=p) (c2:=c2) (o:=f.offset) hty (by omega) h1;obtain⟨v2,hv2,hp2⟩:=q1z (c0:=p') (c2:=c2') (o:=f.offset) hty (by omega) h1';have hq:=ih dep hty hall.1 h1 h1' hp1 hp2
        have hn:f.name≠ "_" :=by simpa using hb2
        unfold Op.eqFields;rw[if_pos hn];simp only[uH,hv1,hv2,hq,uE];by_cases he:d=d'
        ·subst he;have l1:=(Rd.len d h1).1;have l2:=(Rd.len d h1').1;have:=ihf ts l l' c2 c2' (p++c1) (p'++c1') (by rw[uR,l1,←hoff,kK];rw[hoff] at *;rw[kK];exact hb4) (by simp[hpp,l1,l2]) hall.2 h2 h2';simp only[List.append_assoc] at this;simp[this]
        ·simp[he]
   have:=key fields.toList _ l l' c c' [] [] hfb rfl hb hl hl';simpa using this
theorem qec{T E:TypeId}{te:Ty}(h:qc T=some (.row E))(hte:qc E=some te){b o len cap:Nat}{k:IntKind}{i:Int}(h0:0≤i)(h1:i<len):
  (Instr.indexAt T (.slice (some ⟨b,o,none⟩) len cap) (.int k i)).run uA w=.ok (.pointer (some ⟨b,o+i.toNat * te.w,none⟩)) w:=by
 simp only[Instr.indexAt,asIntOf,uH,uL,run_underlying (yi h).1,uE];rw[if_pos ⟨h0,h1⟩];simp[y6 hte,Addr.mid_eq]
theorem qlv{T E:TypeId}(h:qc T=some (.row E))(A:Option Addr)(n c:Nat)(ty:TypeId):(uU #[T] ty #[.slice A n c]).run uA w=.ok (.int .i64 n) w:=by
 simp[uU,run_underlying (yi h).1,goInt]
theorem qku{T E:TypeId}(h:qc T=some (.row E))(A:Option Addr)(n c:Nat)(ty:TypeId):(vJ #[T] ty #[.slice A n c]).run uA w=.ok (.int .i64 c) w:=by
 obtain⟨hu,-⟩:=yi h;simp[vJ,run_underlying hu,goInt]
theorem qjo{T:TypeId}(h:qc T=some .str)(s:ByteArray)(ty:TypeId):(uU #[T] ty #[.string s]).run uA w=.ok (.int .i64 s.size) w:=by
 simp[uU,run_underlying (q04 h).1,goInt]
end
end
def qzw(cs:List (X×Bool))(e:X×Bool):Bool:=cs.any fun f=>X.beq f.1 e.1&&(f.2==e.2)
def qxy:AV→AV
 |.sn _ a=>a
 |.wf _ _ _ _ _ _ a=>a
 |.el _ _ _ a=>a
 |a=>a
def strip(cs:List (X×Bool)):AV→AV
 |.gd c a=>if c.all (qzw cs) then qxy a else .any
 |.sn _ a=>a
 |.wf _ _ _ _ _ _ a=>a
 |.el _ _ _ a=>a
 |a=>a
def cAV:Value→Option AV
 |.int k n=>if yy k n then some (.v (.lit (.i n)) (.int k) [] []) else none
 |.bool b=>some (.v (.lit (.b b)) .bool [] [])
 |.string s=>if decide (s.size≤1000000) then some (.v (.lit (.s s)) .str [] []) else none
 |.slice none 0 0=>some .nilS
 |.pointer none=>some .nilP
 |_=>none
def opd(σ:St)(cs:List (X×Bool)):Operand→Option AV
 |.tmp t=>(lkA σ.t t).map (strip cs)
 |.const v=>cAV v
 |.func f=>some (.fn f [])
 |.global _=>none
def qji:X→X
 |.lit (.b x)=>.lit (.b !x)
 |x=>.not x
def qnv(c a b:X):X:=match c with
 |.lit (.b true)=>a
 |.lit (.b false)=>b
 |_=>match a,b with
  |.lit (.b true),.lit (.b false)=>c
  |.lit (.b false),.lit (.b true)=>qji c
  |.lit (.b true),_=>.or c b
  |_,.lit (.b false)=>.and c a
  |_,_=>.ite c a b
def ltX:X→X→X
 |.lit (.i a),.lit (.i b)=>.lit (.b (decide (a<b)))
 |x,y=>.lt x y
def leX:X→X→X
 |.lit (.i a),.lit (.i b)=>.lit (.b (decide (a≤b)))
 |x,y=>.le x y
def eqX:X→X→X
 |.lit a,.lit b=>.lit (.b (D.beq a b))
 |x,y=>.eq x y
def qix:X→X→X
 |.lit (.i a),.lit (.i b)=>.lit (.i (a+b))
 |x,y=>.add x y
def qvi:X→X→X
 |.lit (.i a),.lit (.i b)=>.lit (.i (a - b))
 |x,y=>.sub x y
def que:X→X→X
 |.lit (.i a),.lit (.i b)=>.lit (.i (a * b))
 |x,y=>.mul x y
def q2l:X→X
 |.row l=>.lit (.i l.length)
 |.lit (.r l)=>.lit (.i l.length)
 |.put x _ _=>q2l x
 |x=>.len x
def q7f:Option Nat→List (Nat×Nat)
 |some pin=>[(0,pin)]
 |none=>[]
def jl(x:X)(t:Ty)(own:List (Nat×Nat)):List Nat→Option (X×Ty×List (Nat×Nat)×Nat)
 |[]=>some (x,t,own,0)
 | j :: path => match t with
  | .st S => match flds S with
   | some fs => match fs[j]? with
    |some t'=>match jl (.fld x j) t' (q7f (lkA own j)) path with
     |some (x',t'',own',o)=>some (x',t'',own',offs fs j+o)
     |none=>none
    |none=>none
   |none=>none
  |_=>none
def q5b(T:TypeId)(t:Ty):Bool:=match qc T with
 |some t'=>Ty.beq t' t
 |none=>false
def q6i(E:TypeId):AV→Option (X×List (Nat×Nat)×List Nat)
 |.v x (.row E') own dep=>if uI E' E then some (x,own,dep) else none
 |.nilS=>some (.lit (.r []),[],[])
 |.pt _ _ _ (.v x (.row E') own dep)=>if uI E' E then some (x,own,dep) else none
 |_=>none
def qzk(own:List (Nat×Nat))(i:X)(E:TypeId)(a:AV):AV:=match lkA own 0 with
 |some pin=>.pt pin i E a
 |none=>a
inductive CmpD where
 |rel(f:X→X→X)
 |ari(f:X→X→X)
 |no
def qz3:BinOp→CmpD
 |.lss=>.rel ltX
 |.leq=>.rel leX
 |.gtr=>.rel fun x y=>ltX y x
 |.geq=>.rel fun x y=>leX y x
 |.eql=>.rel eqX
 |.neq=>.rel fun x y=>qji (eqX x y)
 |.add=>.ari qix
 |.sub=>.ari qvi
 |.mul=>.ari que
 |_=>.no
def qwx(op:BinOp)(T:TypeId):AV→AV→Option (List X×AV)
 | .v x (.int k) _ _, .v y (.int k') _ _ => if decide (k = k') then (match qz3 op with
   |.rel f=>some ([],.v (f x y) .bool [] [])
   |.ari f=>some ([.rng k (f x y)],.v (f x y) (.int k) [] [])
   |.no=>none) else none
 | .v x .bool _ _, .v y .bool _ _ => if q5b T .bool then (match op with
   |.eql=>some ([],.v (eqX x y) .bool [] [])
   |.neq=>some ([],.v (qji (eqX x y)) .bool [] [])
   |_=>none) else none
 | .v x .str _ _, .v y .str _ _ => match op with
   |.eql=>some ([],.v (eqX x y) .bool [] [])
   |.neq=>some ([],.v (qji (eqX x y)) .bool [] [])
   |.add=>some ([leX (.add (.slen x) (.slen y)) (.lit (.i 140737488351232))],.v (.fn 11 [x,y]) .str [] [])
   |_=>none
 | .v x (.st S) _ _, .v y (.st S') _ _ => if q5b T (.st S) && (uI S S' && qm 8 (.st S)) then (match op with
   |.eql=>some ([],.v (eqX x y) .bool [] [])
   |.neq=>some ([],.v (qji (eqX x y)) .bool [] [])
   |_=>none) else none
 |_,_=>none
def qis(P:Program)(T:TypeId):Bool:=match P.underlying T with
 |some (.pointer _)=>true
 |_=>false
def isRow(P:Program)(T:TypeId):Bool:=match P.underlying T with
 |some (.slice _)=>true
 |_=>false
def qpt(c:X):AV→AV→Option AV
 |.v x t _ _,.v y u _ _=>if Ty.beq t u&&qm 8 t then some (.v (if Ty.beq t .bool then qnv c x y else .ite c x y) t [] []) else none
 |_,_=>none
def z05(own:List (Nat×Nat))(i:X)(te:Ty):Option (Nat×X×List Nat×Nat×Ty):=match lkA own 0 with
 |some pin=>some (pin,i,[],0,te)
 |none=>none
def opds(σ:St)(cs:List (X×Bool)):List Operand→Option (List AV)
 |[]=>some []
 |x::l=>match opd σ cs x,opds σ cs l with
  |some a,some r=>some (a::r)
  |_,_=>none
def qrj(P:Program)(op:BinOp)(T:TypeId):AV→AV→Option (List X×AV)
 | .rd _ _ _ _, .nilP => if qis P T then (match op with
   |.eql=>some ([],.v (.lit (.b false)) .bool [] [])
   |.neq=>some ([],.v (.lit (.b true)) .bool [] [])
   |_=>none) else none
 | .ref _ _ _ _, .nilP => if qis P T then (match op with
   |.eql=>some ([],.v (.lit (.b false)) .bool [] [])
   |.neq=>some ([],.v (.lit (.b true)) .bool [] [])
   |_=>none) else none
 | .nilP, .nilP => if qis P T then (match op with
   |.eql=>some ([],.v (.lit (.b true)) .bool [] [])
   |.neq=>some ([],.v (.lit (.b false)) .bool [] [])
   |_=>none) else none
 | .v x (.row _) _ _, .nilS => if isRow P T then (match op with
   |.eql=>some ([],.nb x false)
   |.neq=>some ([],.nb x true)
   |_=>none) else none
 |_,_=>none
def qwk(op:BinOp):AV→AV→Option (List X×AV)
 |.v x (.int k) _ _,.v (.lit (.i m)) (.int k2) _ _=>match op with
  |.shr=>if decide (0≤m)&&decide (m≤8) then some ([.rng k (.fn 8 [x,.lit (.i m)])],.v (.fn 8 [x,.lit (.i m)]) (.int k) [] []) else none
  |.quo=>if decide (k=.i64)&&(decide (k2=.i64)&&decide (0<m)) then some ([leX (.lit (.i 0)) x],.v (.fn 17 [x,.lit (.i m)]) (.int .i64) [] []) else none
  |_=>none
 |_,_=>none
def qwj(op:BinOp):AV→AV→Option (List X×AV)
 |.v x (.int k) _ _,.v y (.int k') _ _=>match op with
  |.shr=>if decide (k=.i64)||decide (k=.u64) then some ([leX (.lit (.i 0)) y,leX y (.lit (.i 64)),.rng k (.fn 8 [x,y])],.v (.fn 8 [x,y]) (.int k) [] []) else none
  |.and=>if decide (k=k')&&(decide (k=.i64)||decide (k=.u64)) then some ([leX (.lit (.i 0)) x,leX (.lit (.i 0)) y],.v (.fn 13 [x,y]) (.int k) [] []) else none
  |.or=>if decide (k=.u64)&&decide (k'=.u64) then some ([leX (.lit (.i 0)) x,leX (.lit (.i 0)) y],.v (.fn 14 [x,y]) (.int k) [] []) else none
  |.shl=>if decide (k=.u64) then some ([leX (.lit (.i 0)) y,leX y (.lit (.i 64))],.v (.fn 15 [x,y]) (.int k) [] []) else none
  |_=>none
 |_,_=>none
def z0r:X→X→Bool
 |.fld _ q,.len (.fld _ z)=>uI q 5&&uI z 0
 |.fld _ q,.lit (.i m)=>uI q 5&&decide (m=3)
 |_,_=>false
def qqq(op:BinOp):AV→AV→Option (List X×AV)
 |.v x (.int .i64) _ _,.v (.fld (.get l (.call f j xs)) q) (.int .i64) _ _=>match op with
  |.add=>some ([],.v (.fn 9 [x,.fld (.get l (.call f j xs)) q]) (.int .i64) [] [])
  |_=>none
 |.v x (.int .i64) _ _,.v y (.int .i64) _ _=>match op with
  |.sub=>if z0r x y then some ([],.v (.fn 18 [x,y]) (.int .i64) [] []) else none
  |_=>none
 |_,_=>none
def qlo(K V:TypeId):AV→Option (List X×AV)
 |.v x (.map K' V') _ _=>if uI K' K&&uI V' V then some ([.rng .i64 (.fn 3 [x])],.v (.fn 3 [x]) (.int .i64) [] []) else none
 |_=>none
def qlk(vt:Ty)(xm xk:X)(dep:List Nat):AV:=.v (.fn 0 [xm,xk,.lit (q0p 8 vt)]) vt [] (depF vt dep)
def qws(K V:TypeId)(kt vt:Ty)(ok:Bool):AV→AV→Option (List X×AV)
 | .v xm (.map K' V') own dep, .v xk kt' _ _ => if uI K' K && (uI V' V && Ty.beq kt' kt) then
   some ([],if ok then .tup [qlk vt xm xk (dep++own.map (·.2)),.v (.fn 1 [xm,xk]) .bool [] []] else qlk vt xm xk (dep++own.map (·.2))) else none
 |_,_=>none
def qw2(P:Program)(T:TypeId):Bool:=match P.underlying T with
 |some (.pointer _)=>true
 |some (.func _ _ _)=>true
 |_=>false
def qpe(P:Program)(T E:TypeId)(n:Nat):Bool:=match P.underlying T with
 |some (.array m E')=>uI m n&&uI E' E
 |_=>false
def qm5(P:Program)(T:TypeId):AV→AV→Option (List X×AV)
 |.ax k _ _ (.ar E xs dep),.v xi (.int _) _ _=>if qpe P T E xs.length then(match qc E with
  |some te=>some ([leX (.lit (.i 0)) xi,ltX xi (.lit (.i (xs.length:Nat)))],.rd (.get (.row xs) xi) te (k * 16::dep) none)
  |none=>none) else none
 |_,_=>none
def qsn(P:Program)(T:TypeId)(lo hi:Option Operand):AV→Option (List X×AV)
 |.ax k _ _ (.ar E xs dep)=>if lo.isNone&&(hi.isNone&&(qpe P T E xs.length&&(kQ 0 xs.length&&(kQ xs.length 1000&&(qc E).isSome)))) then some ([],.v (.row xs) (.row E) [] (k * 16::dep)) else none
 |_=>none
def qt8(σ:St)(cs:List (X×Bool))(x:Operand)(lo hi:Option Operand):Option (List X×AV):=match opd σ cs x,lo,hi with
 |some (.v xs .str _ _),none,some h=>(match opd σ cs h with
  |some (.v xh (.int _) _ _)=>some ([leX (.lit (.i 0)) xh,leX xh (.slen xs)],.v (.fn 12 [xs,xh]) .str [] [])
  |_=>none)
 |_,_,_=>none
def qrx(σ:St)(cs:List (X×Bool))(T:TypeId)(x:Operand)(lo hi:Option Operand):Bool:=match qc T,opd σ cs x,lo,hi with
 |some (.row _),some .nilS,none,some h=>(match opd σ cs h with
  |some (.v (.lit (.i 0)) (.int _) _ _)=>true
  |_=>false)
 |_,_,_,_=>false
def qb6:Ty→Bool
 |.row E=>(match qc E with|some te=>qm 8 te|none=>false)
 |_=>false
def qxs(σ:St)(cs:List (X×Bool))(y:Operand):Option AV:=match y with
 |.tmp t=>(match lkA σ.t t with
  |some (.sn q (.v x ty own dep))=>if qb6 ty then some (.sn q (.v x ty own dep)) else opd σ cs y
  |_=>opd σ cs y)
 |_=>opd σ cs y
def qym(k:Nat)(path:List Nat)(e:Ent)(own:List (Nat×Nat))(a:AV):AV:=match path,e.t,own with
 |[j],.st S,_::_=>if wfL.any (uI S) then .wf k j e.x e.t (e.own.filter fun y=>y.1 !=j) e.dep a else a
 |_,_,_=>a
def qxl(wr:Option (Nat×X×List Nat×Nat×Ty))(t:Ty)(a:AV):AV:=match wr,t with
 |some (r,i,[],0,te),.row E=>if qds E&&Ty.beq te t then .el none r i a else a
 |_,_=>a
def quiet(P:Program)(σ:St)(cs:List (X×Bool))(o:Oper):Option (List X×AV):=match o.op with
 |.move x=>(qxs σ cs x).map fun a=>([],a)
 |.assign x=>(opd σ cs x).map fun a=>([],a)
 | .pick c a b => match opd σ cs c with
  | some (.v xc .bool _ _) => match xc with
   |.lit (.b true)=>(opd σ cs a).map fun a=>([],a)
   |.lit (.b false)=>(opd σ cs b).map fun a=>([],a)
   |_=>match opd σ ((xc,true)::cs) a,opd σ ((xc,false)::cs) b with
    |some x,some y=>(qpt xc x y).map fun a=>([],a)
    |_,_=>none
  |_=>none
 |.unOp .not _ x=>match opd σ cs x with
  |some (.v x .bool _ _)=>some ([],.v (qji x) .bool [] [])
  |_=>none
 | .binOp op T x y _ => match opd σ cs x, opd σ cs y with
  | some a, some b => match qqq op a b with
   |some r=>some r
   | none => (match qwx op T a b with
    |some r=>some r
    | none => (match qwk op a b with
     |some r=>some r
     |none=>(match qwj op a b with
      |some r=>some r
      |none=>qrj P op T a b)))
  |_,_=>none
 | .load T x => match opd σ cs x with
  | some (.ref k path o t) => match lkA σ.m k with
   |some e=>match jl e.x e.t e.own path with
    |some (x',t',own',o')=>if Ty.beq t' t&&(uI o' o&&q5b T t) then some ([],qym k path e own' (.v x' t own' (depF t e.dep))) else none
    |none=>none
   |none=>none
  |some (.rd x t dep wr)=>if q5b T t then some ([],qxl wr t (.v x t [] (depF t dep))) else none
  |some (.bx _ _ a)=>if qw2 P T then some ([],a) else none
  |some (.fr _ a)=>if qw2 P T then some ([],a) else none
  |_=>none
 | .fieldAddr T x j => match qc T with
  | some (.st S) => match flds S with
   | some fs => match fs[j]? with
    |some t'=>match opd σ cs x with
     |some (.ref k path o (.st _))=>some ([],.ref k (path++[j]) (o+offs fs j) t')
     |some (.rd x (.st S') dep wr)=>if uI S' S then some ([],.rd (.fld x j) t' dep (wr.map fun(pin,i,path,q,te)=>(pin,i,path++[j],q+offs fs j,te))) else none
     |_=>none
    |none=>none
   |none=>none
  |_=>none
 | .field T x j => match qc T with
  | some (.st S) => match flds S with
   | some fs => match fs[j]? with
    |some t'=>match opd σ cs x with
     |some (.v x (.st S') own dep)=>if uI S' S then some ([],.v (.fld x j) t' (q7f (lkA own j)) dep) else none
     |_=>none
    |none=>none
   |none=>none
  |_=>none
 |.nilCheck x=>match opd σ cs x with
  |some (.ref k path o t)=>some ([],.ref k path o t)
  |some (.rd x t dep wr)=>some ([],.rd x t dep wr)
  |_=>none
 | .indexAddr T x i => match qc T with
  | some (.row E) => match qc E with
   |some te=>match(opd σ cs x).bind (q6i E),opd σ cs i with
    |some (xr,own,dep),some (.v xi (.int _) _ _)=>some ([leX (.lit (.i 0)) xi,ltX xi (q2l xr)],.rd (.get xr xi) te (own.map (·.2)++dep) (z05 own xi te))
    |_,_=>none
   |none=>none
  |_=>(match opd σ cs x,opd σ cs i with
   |some a,some b=>qm5 P T a b
   |_,_=>none)
 | .index T x i => match opd σ cs x, opd σ cs i with
  |some (.v xs .str _ _),some (.v xi (.int _) _ _)=>if q5b T .str then some ([leX (.lit (.i 0)) xi,ltX xi (.slen xs)],.v (.sget xs xi) (.int .u8) [] []) else none
  |some (.ar E xs dep),some (.v xi (.int _) _ _)=>if qpe P T E xs.length then(match qc E with
   |some te=>some ([leX (.lit (.i 0)) xi,ltX xi (.lit (.i (xs.length:Nat)))],.v (.get (.row xs) xi) te [] dep)
   |none=>none) else none
  |_,_=>none
 |.extract x i=>match opd σ cs x with
  |some (.tup l)=>(l[i]?).map fun a=>([],a)
  |_=>none
 | .slice T x lo hi none => if qrx σ cs T x lo hi then some ([], .nilS) else match qc T with
  | some (.row E) => match (opd σ cs x).bind (q6i E) with
   | some (xr, own, dep) => match lo, hi with
    |none,none=>some ([],.v xr (.row E) own dep)
    |none,some h=>match opd σ cs h with
     |some (.v xh (.int _) _ _)=>some ([leX (.lit (.i 0)) xh,leX xh (q2l xr)],.v (.cut xr (.lit (.i 0)) xh) (.row E) own dep)
     |_=>none
    |some l,none=>match opd σ cs l with
     |some (.v xl (.int _) _ _)=>some ([leX (.lit (.i 0)) xl,leX xl (q2l xr)],qzk own xl E (.v (.cut xr xl (q2l xr)) (.row E) [] (own.map (·.2)++dep)))
     |_=>none
    |some l,some h=>match opd σ cs l,opd σ cs h with
     |some (.v xl (.int _) _ _),some (.v xh (.int _) _ _)=>some ([leX (.lit (.i 0)) xl,leX xl xh,leX xh (q2l xr)],.v (.cut xr xl xh) (.row E) [] (own.map (·.2)++dep))
     |_,_=>none
   |none=>none
  |some .str=>qt8 σ cs x lo hi
  |_=>(opd σ cs x).bind (qsn P T lo hi)
 | .convert S T x => match opd σ cs x with
  |some (.v x (.int k) _ _)=>match qc T with
   |some (.int k')=>if(qc S).isSome then some ([.rng k' x],.v x (.int k') [] []) else none
   |_=>none
  |some (.v x (.row E) _ _)=>if q5b T .str&&(q5b S (.row E)&&q5b E (.int .u8)) then some ([],.v (.fn 10 [x]) .str [] []) else none
  |_=>none
 |.makeFunc (.func f) first captured=>if first.isEmpty then(opds σ cs captured.toList).map fun l=>([],.fn f l) else none
 | .call c => match c.callee, c.args.toList, c.argTypes.toList with
  | .builtin .len, [x], [T] => match opd σ cs x with
   |some (.v x .str _ _)=>if q5b T .str then some ([],.v (.slen x) (.int .i64) [] []) else none
   | some a => match qc T with
    |some (.row E)=>match q6i E a with
     |some (xr,_,_)=>some ([],.v (q2l xr) (.int .i64) [] [])
     |none=>none
    |some (.map K V)=>qlo K V a
    |_=>none
   |none=>none
  |.builtin .cap,[x],[T]=>match opd σ cs x,qc T with
   |some .nilS,some (.row _)=>some ([],.v (.lit (.i 0)) (.int .i64) [] [])
   |_,_=>none
  |.builtin .min,[x,y],_=>match opd σ cs x,opd σ cs y with
   |some (.v xa (.int k) _ _),some (.v xb (.int k') _ _)=>if Ty.beq (.int k) (.int k') then some ([],.v (.ite (.lt xb xa) xb xa) (.int k) [] []) else none
   |_,_=>none
  |.builtin .max,[x,y],_=>match opd σ cs x,opd σ cs y with
   |some (.v xa (.int k) _ _),some (.v xb (.int k') _ _)=>if Ty.beq (.int k) (.int k') then some ([],.v (.ite (.lt xa xb) xb xa) (.int k) [] []) else none
   |_,_=>none
  |_,_,_=>none
 | .lookup T m k ok => match qc T with
  | some (.map K V) => match qc K, qc V with
   |some kt,some vt=>if qm 8 kt&& !q36 vt then(match opd σ cs m,opd σ cs k with
    |some a,some b=>qws K V kt vt ok a b
    |_,_=>none) else none
   |_,_=>none
  |_=>none
 |_=>none
section
section
variable{e:Ev}
theorem qpk{cs:List (X×Bool)}(hc:hold e cs=true){y:X×Bool}(h:qzw cs y=true):(y.1.ev e).tt=y.2:=by
 obtain⟨f,hf,h1⟩:=vG.1 h;simp only[gnB,beq_iff_eq] at h1;have:=uG.1 hc f hf;simp only[beq_iff_eq] at this;rw[←X.beq_ok _ _ h1.1,←h1.2];exact this
theorem ql1(x y:X):(ltX x y).ev e=.b (decide ((x.ev e).int<(y.ev e).int)):=by unfold ltX;split<;>rfl
theorem qab(x y:X):(leX x y).ev e=.b (decide ((x.ev e).int≤(y.ev e).int)):=by unfold leX;split<;>rfl
theorem q5d(x y:X):(eqX x y).ev e=.b (decide (x.ev e=y.ev e)):=by
 unfold eqX;split
 ·rename_i a b
  show D.b (D.beq a b)=.b (decide (a=b))
  congr 1
  rw[uK,D.beq_iff];simp
 ·rfl
theorem qc6(x y:X):(qix x y).ev e=.i ((x.ev e).int+(y.ev e).int):=by unfold qix;split<;>rfl
theorem qnl(x y:X):(qvi x y).ev e=.i ((x.ev e).int - (y.ev e).int):=by unfold qvi;split<;>rfl
theorem qnq(x y:X):(que x y).ev e=.i ((x.ev e).int * (y.ev e).int):=by unfold que;split<;>rfl
theorem qh8(l:List X):(X.evs e l).length=l.length:=by
 induction l with
 |nil=>rfl
 |cons x l ih=>simp[X.evs,ih]
theorem q05:∀(x:X),(q2l x).ev e=.i ((x.ev e).rs.length:Nat)
 |.row l=>by
  show D.i l.length=.i ((D.r (X.evs e l)).rs.length:Nat)
  simp[D.rs,qh8]
 |.put x i y=>by
  show(q2l x).ev e=.i (((x.ev e).rs.set (i.ev e).int.toNat (y.ev e)).length:Nat)
  rw[q05 x,List.length_set]
 |.lit d=>by cases d<;>rfl
 |.tok _=>rfl
 |.fld _ _=>rfl
 |.get _ _=>rfl
 |.len _=>rfl
 |.slen _=>rfl
 |.sget _ _=>rfl
 |.add _ _=>rfl
 |.sub _ _=>rfl
 |.mul _ _=>rfl
 |.lt _ _=>rfl
 |.le _ _=>rfl
 |.eq _ _=>rfl
 |.not _=>rfl
 |.and _ _=>rfl
 |.or _ _=>rfl
 |.imp _ _=>rfl
 |.ite _ _ _=>rfl
 |.mk _=>rfl
 |.app _ _=>rfl
 |.cut _ _ _=>rfl
 |.set _ _ _=>rfl
 |.rep _ _=>rfl
 |.rng _ _=>rfl
 |.call _ _ _=>rfl
 |.ok _ _=>rfl
 |.fn _ _=>rfl
theorem q62{x:X}{z:Bool}(h:x.ev e=.b z):(qji x).ev e=.b (!z):=by
 unfold qji;split
 ·rename_i y;have:D.b y=.b z:=h;injection this with this;subst this;rfl
 ·show D.b (!(x.ev e).tt)=_
  rw[h];rfl
theorem qpp{c x y:X}{z b':Bool}(hc:c.ev e=.b z)(h:(if z then x.ev e else y.ev e)=.b b'):(qnv c x y).ev e=.b b':=by
  unfold qnv;split
  · have:D.b true=.b z:=hc;injection this with this;subst this;exact h
  · have:D.b false=.b z:=hc;injection this with this;subst this;exact h
  · split
    · rw[hc,←h];cases z<;>rfl
    · rw[q62 hc,←h];cases z<;>rfl
    · show D.b ((c.ev e).tt||(y.ev e).tt)=_
      rw[hc];cases z with
      |true=>rw[←h];rfl
      | false =>
        have h':y.ev e=.b b':=h;rw[h'];rfl
    · show D.b ((c.ev e).tt&&(x.ev e).tt)=_
      rw[hc];cases z with
      |false=>rw[←h];rfl
      | true =>
        have h':x.ev e=.b b':=h;rw[h'];rfl
    · show(if(c.ev e).tt then x.ev e else y.ev e)=_
      rw[hc];exact h
end
section
variable{c:Cx}{p:qe}{w:World}{a:Act}{σ:St}{cs:List (X×Bool)}
theorem Con.int{d:D}{k:IntKind}{own:List (Nat×Nat)}{dep:List Nat}{vs:List Value}(h:Con c.A p w d (.int k) own dep vs):∃n,d=.i n∧vs=[.int k n]∧yy k n=true:=by
 have h1:Fl c.A p w dep (lkA own 0) d (.int k) vs:=h;cases ho:lkA own 0 with
 |some pin=>
  rw[ho] at h1;rcases h1 with⟨E,te,l,v,e,-⟩|⟨K,V,kt,vt,l,g,es,clock,e,-⟩<;>cases e
 |none=>
  rw[ho] at h1;have h2:Rd w (FFD c.A p dep) d (.int k) vs:=h1;cases d<;>simp only[Rd,reduceCtorEq,false_and,exists_false,and_false,or_false,false_or] at h2;obtain⟨k',e,rfl,hr⟩:=h2;injection e with e;subst e;exact⟨_,rfl,rfl,hr⟩
theorem Con.bool{d:D}{own:List (Nat×Nat)}{dep:List Nat}{vs:List Value}(h:Con c.A p w d .bool own dep vs):∃z,d=.b z∧vs=[.bool z]:=by
 have h1:Fl c.A p w dep (lkA own 0) d .bool vs:=h;cases ho:lkA own 0 with
 |some pin=>
  rw[ho] at h1;rcases h1 with⟨E,te,l,v,e,-⟩|⟨K,V,kt,vt,l,g,es,clock,e,-⟩<;>cases e
 |none=>
  rw[ho] at h1;have h2:Rd w (FFD c.A p dep) d .bool vs:=h1;cases d<;>simp only[Rd,reduceCtorEq,false_and,exists_false,and_false,or_false,false_or] at h2;exact⟨_,rfl,h2.2⟩
theorem Con.str{d:D}{own:List (Nat×Nat)}{dep:List Nat}{vs:List Value}(h:Con c.A p w d .str own dep vs):∃s,d=.s s∧vs=[.string s]∧s.size≤LIM:=by
 have h1:Fl c.A p w dep (lkA own 0) d .str vs:=h;cases ho:lkA own 0 with
 |some pin=>
  rw[ho] at h1;rcases h1 with⟨E,te,l,v,e,-⟩|⟨K,V,kt,vt,l,g,es,clock,e,-⟩<;>cases e
 |none=>
  rw[ho] at h1;have h2:Rd w (FFD c.A p dep) d .str vs:=h1;cases d<;>simp only[Rd,reduceCtorEq,false_and,exists_false,and_false,or_false,false_or] at h2;exact⟨_,rfl,h2.2⟩
theorem zt{x:X}{k:IntKind}{own:List (Nat×Nat)}{dep:List Nat}{v:Value}(h:(AV.v x (.int k) own dep).pd c p w v):∃n,x.ev c.v=.i n∧v=.int k n∧yy k n=true:=by
 obtain⟨vs,hp,hc⟩:=h;obtain⟨n,e,rfl,hr⟩:=hc.int;have:[Value.int k n]=[v]:=hp;injection this with this;exact⟨n,e,this.symm,hr⟩
theorem q0v{x:X}{own:List (Nat×Nat)}{dep:List Nat}{v:Value}(h:(AV.v x .bool own dep).pd c p w v):∃z,x.ev c.v=.b z∧v=.bool z:=by
 obtain⟨vs,hp,hc⟩:=h;obtain⟨n,e,rfl⟩:=hc.bool;have:[Value.bool n]=[v]:=hp;injection this with this;exact⟨n,e,this.symm⟩
theorem qdq{x:X}{own:List (Nat×Nat)}{dep:List Nat}{v:Value}(h:(AV.v x .str own dep).pd c p w v):∃s,x.ev c.v=.s s∧v=.string s∧s.size≤LIM:=by
 obtain⟨vs,hp,hc⟩:=h;obtain⟨n,e,rfl,hr⟩:=hc.str;have:[Value.string n]=[v]:=hp;injection this with this;exact⟨n,e,this.symm,hr⟩
theorem jd{x:X}{k:IntKind}{n:Int}(h:x.ev c.v=.i n)(hr:yy k n=true):(AV.v x (.int k) [] []).pd c p w (.int k n):=⟨[.int k n],rfl,by
 rw[h];exact .inl ⟨k,rfl,rfl,hr⟩⟩
theorem y7{x:X}{z:Bool}(h:x.ev c.v=.b z):(AV.v x .bool [] []).pd c p w (.bool z):=⟨[.bool z],rfl,by
 rw[h];exact⟨rfl,rfl⟩⟩
theorem qhg{x:X}{s:ByteArray}(h:x.ev c.v=.s s)(hr:s.size≤LIM):(AV.v x .str [] []).pd c p w (.string s):=⟨[.string s],rfl,by
 rw[h];exact⟨rfl,rfl,hr⟩⟩
theorem qxw{v:Value}{x:AV}(h:cAV v=some x):x.pd c p w v:=by
 unfold cAV at h;split at h
 ·split at h
  ·rename_i hr;injection h with h;subst h;exact jd rfl hr
  ·cases h
 ·injection h with h;subst h;exact y7 rfl
 ·split at h
  ·rename_i s hr;injection h with h;subst h;have hr':s.size≤1000000:=by simpa using hr
   exact qhg rfl (by unfold LIM;omega)
  ·cases h
 ·injection h with h;subst h;rfl
 ·injection h with h;subst h;rfl
 ·cases h
theorem quj{x:AV}{v:Value}(h:x.pd c p w v):(qxy x).pd c p w v:=by
 unfold qxy;split
 ·exact h.2
 ·exact h.2
 ·exact h.2
 ·exact h
theorem qse(hc:hold c.v cs=true){x:AV}{v:Value}(h:x.pd c p w v):(strip cs x).pd c p w v:=by
 unfold strip;split
 ·rename_i c' a';split
  ·rename_i hm;refine quj (h.1 (uG.2 fun y hy=>?_));have:=qpk hc (uG.1 hm y hy);simp[this]
  ·trivial
 ·exact h.2
 ·exact h.2
 ·exact h.2
 ·exact h
theorem qd(hf:SF c σ p w a)(hc:hold c.v cs=true){y:Operand}{x:AV}(h:opd σ cs y=some x):x.pd c p w (a.eval y):=by
 cases y with
 | tmp t =>
  simp only[opd,uJ] at h;obtain⟨z,hz,rfl⟩:=h;obtain⟨v,h1,h2⟩:=hf.t t z hz;have:a.eval (.tmp t)=v:=by
   show a.tmps.getD t undef=v
   rw[uV,h1];rfl
  rw[this];exact qse hc h2
 |const v=>exact qxw h
 |func f=>
  simp only[opd,uP] at h;subst h;exact⟨[],rfl,rfl⟩
 |global g=>cases h
theorem qcb(hf:SF c σ p w a)(hc:hold c.v cs=true):∀{l:List Operand}{r:List AV},opds σ cs l=some r→pds c p w r (l.map a.eval)
 |[],r,h=>by
  simp only[opds,uP] at h;subst h;rfl
 | x :: l, r, h => by
  simp only[opds] at h;split at h
  ·rename_i y z hy hz;injection h with h;subst h;exact⟨_,_,rfl,qd hf hc hy,qcb hf hc hz⟩
  ·cases h
theorem Con.sub{d:D}{t:Ty}{dep:List Nat}{o:Option Nat}{vs:List Value}(h:Fl c.A p w dep o d t vs):Con c.A p w d t (q7f o) dep vs:=by
 cases o with
 |none=>exact Con.of_rd h
 |some pin=>
  rcases h with⟨E,te,l,v,rfl,h1⟩|⟨K,V,kt,vt,l,g,es,clock,rfl,h1⟩
  ·exact .inl ⟨E,te,l,v,rfl,h1⟩
  ·exact .inr ⟨K,V,kt,vt,l,g,es,clock,rfl,h1⟩
theorem Fls.get{own:List (Nat×Nat)}{dep:List Nat}:∀{l:List D}{n:Nat}{fs:List Ty}{vs:List Value}{j:Nat}{t:Ty},Fls c.A p w dep own n l fs vs→fs[j]? =some t→
  ∃c0 c1 c2,vs=c0++(c1++c2)∧c0.length=offs fs j∧Fl c.A p w dep (lkA own (n+j)) (l.getD j .u) t c1
 |[],n,fs,vs,j,t,⟨h1,h2⟩,hj=>by subst h1;simp at hj
 | d :: l, n, fs, vs, j, t, ⟨t0, ts, c1, c2, h1, h2, h3, h4⟩, hj => by
  subst h1 h2;cases j with
  |zero=>
   simp at hj;subst hj;exact⟨[],c1,c2,rfl,by simp[q1j],h3⟩
  |succ j=>
   obtain⟨a0,a1,a2,e2,e3,e4⟩:=Fls.get h4 (by simpa using hj);have hl:c1.length=t0.w:=(Rd.len d (h3.rd (dep':=dep++own.map (·.2)) (fun x hx=>uC _ hx) (fun x hx=>uB _ (q18 hx)))).1;refine⟨c1++a0,a1,a2,by rw[e2];simp,by rw[uR,e3,hl,q1g],?_⟩;rw[show n+(j+1)=n+1+j by omega];simpa using e4
theorem Con.get{S:TypeId}{fs:List Ty}{d:D}{own:List (Nat×Nat)}{dep:List Nat}{vs:List Value}{j:Nat}{t:Ty}(h:Con c.A p w d (.st S) own dep vs)(hf:flds S=some fs)(hj:fs[j]? =some t):
  ∃c0 c1 c2,vs=c0++(c1++c2)∧c0.length=offs fs j∧Fl c.A p w dep (lkA own j) (d.fld j) t c1:=by
 obtain⟨fs',ds,hf',rfl,h⟩:=h;obtain rfl:=gnI (hf'.symm.trans hf);have:=Fls.get h hj;rw[kH] at this;exact this
theorem qda:∀(path:List Nat){x x':X}{t t':Ty}{own own':List (Nat×Nat)}{dep:List Nat}{o:Nat}{vs:List Value},jl x t own path=some (x',t',own',o)→Con c.A p w (x.ev c.v) t own dep vs→
  ∃c0 c1 c2,vs=c0++(c1++c2)∧c0.length=o∧Con c.A p w (x'.ev c.v) t' own' dep c1
 |[],x,x',t,t',own,own',dep,o,vs,h,hc=>by
  simp only[jl,gnS] at h;obtain⟨rfl,rfl,rfl,rfl⟩:=h;exact⟨[],vs,[],by simp,rfl,hc⟩
 | j :: path, x, x', t, t', own, own', dep, o, vs, h, hc => by
  unfold jl at h;split at h
  ·rename_i S;split at h
   ·rename_i fs hfs;split at h
    ·rename_i tj hj;split at h
     ·rename_i x1 t1 own1 o1 hr;simp only[gnS] at h;obtain⟨rfl,rfl,rfl,rfl⟩:=h;obtain⟨c0,c1,c2,rfl,hl,hfl⟩:=hc.get hfs hj;obtain⟨b0,b1,b2,rfl,hl',hcc⟩:=qda path (x:=.fld x j) hr (Con.sub hfl);exact⟨c0++b0,b1,b2++c2,by simp,by simp[hl,hl'],hcc⟩
     ·cases h
    ·cases h
   ·cases h
  ·cases h
theorem j6{T:TypeId}{t:Ty}(h:q5b T t=true):qc T=some t:=by
 unfold q5b at h;split at h
 ·rename_i t' ht;rw[ht,(Ty.beq_iff _ _).1 h]
 ·cases h
theorem q20{E:TypeId}{te:Ty}(hte:qc E=some te){y:AV}{x:X}{own:List (Nat×Nat)}{dep:List Nat}{v:Value}(h:q6i E y=some (x,own,dep))(hy:y.pd c p w v):Con c.A p w (x.ev c.v) (.row E) own dep [v]:=by
 unfold q6i at h;split at h
 ·rename_i x' E' own' dep';split at h
  ·rename_i he;have:=gnN he;subst this;simp only[gnS] at h;obtain⟨rfl,rfl,rfl⟩:=h;obtain⟨vs,hp,hc⟩:=hy;obtain rfl:vs=[v]:=hp;exact hc
  ·cases h
 ·simp only[gnS] at h;obtain⟨rfl,rfl,rfl⟩:=h;obtain rfl:v=.slice none 0 0:=hy;exact⟨E,te,none,0,rfl,hte,rfl,by simp,by simp,by simp[maxLen],by simp[RdE]⟩
 ·rename_i pin i0 E0 x' E' own' dep';split at h
  ·rename_i he;have:=gnN he;subst this;simp only[gnS] at h;obtain⟨rfl,rfl,rfl⟩:=h;obtain⟨-,vs,hp,hc⟩:=hy;obtain rfl:vs=[v]:=hp;exact hc
  ·cases h
 ·cases h
theorem Rd.asR{w:World}{F:Nat→Prop}{d:D}{E:TypeId}{cs:List Value}(h:Rd w F d (.row E) cs):Rd w F (.r d.rs) (.row E) cs:=by
 cases d with
 |u=>
  obtain⟨E',te,e,-,hte,e2⟩:=h;injection e with e;subst e;exact⟨E,te,none,0,rfl,hte,e2,uO _,kB _,by simp[maxLen],by simp[RdE,D.rs]⟩
 |r l=>exact h
 |i n=>rcases h with⟨k,e,-⟩|⟨e,-⟩<;>cases e
 |b x=>cases h.1
 |s x=>cases h.1
 |a l=>obtain⟨T',fs0,e1,-⟩:=h;cases e1
 |mp l=>obtain⟨K,V,kt,vt,g,es,clock,e,-⟩:=h;cases e
theorem Con.row{E:TypeId}{d:D}{own:List (Nat×Nat)}{dep:List Nat}{v:Value}(h:Con c.A p w d (.row E) own dep [v]):∃te A cap,qc E=some te∧(d=.r d.rs∨(d=.u∧qds E=true∧∃S,te=.st S))∧v=.slice A d.rs.length cap∧d.rs.length≤cap∧d.rs.length≤LM te∧cap≤maxLen∧RdE w (FFD c.A p (own.map (·.2)++dep)) d.rs te A 0:=by
  have h1:=h.rd (dep':=own.map (·.2)++dep) (fun x hx=>uB _ hx) (fun x hx=>uC _ hx);cases d with
  | u =>
    obtain⟨E',te,e,hnb,hte,e2⟩:=h1;injection e with e;subst e;injection e2 with e2;exact⟨te,none,0,hte,.inr ⟨rfl,hnb,qv6 hnb hte⟩,e2,uO _,kB _,by simp[maxLen],by simp[RdE,D.rs]⟩
  | _ =>
    simp only[Rd,reduceCtorEq,false_and,exists_false,and_false,or_false,false_or] at h1
    try (obtain⟨E',te,A,cap,e,hte,e2,h2,h3,h4,h5⟩:=h1
         injection e with e;subst e;injection e2 with e2;exact⟨te,A,cap,hte,.inl rfl,e2,h2,h3,h4,h5⟩)
end
end
section
section
variable{c:Cx}{p:qe}{w:World}{a:Act}{σ:St}{cs:List (X×Bool)}{o:Oper}
def q1b(o:Oper)(a:Act)(c:Cx)(p:qe)(w:World)(x:AV):Prop:=∃v,(execOp a.eval o).run uA w=.ok (.value v) w∧x.pd c p w v
theorem qc7{x y:X}(h:(ltX x y).says c.v):(x.ev c.v).int<(y.ev c.v).int:=by
 unfold X.says at h;rw[ql1] at h;simpa[D.tt] using h
theorem zq{x y:X}(h:(leX x y).says c.v):(x.ev c.v).int≤(y.ev c.v).int:=by
 unfold X.says at h;rw[qab] at h;simpa[D.tt] using h
theorem q7z{T T':TypeId}(h:qw2 uA T=true){g:Nat}{u:Value}(hh:w.heap[g]? =some (.cells #[u] T' (0,0))):(Instr.loadAt T (.pointer (some ⟨g,0,none⟩))).run uA w=.ok u w:=by
 have ha:(isAgg T).run uA w=.ok false w:=by
  unfold qw2 at h;split at h
  ·rename_i e hu;simp[isAgg,run_underlying hu]
  ·rename_i e _ _ hu;simp[isAgg,run_underlying hu]
  ·cases h
 have hc:w.cell? ⟨g,0,none⟩=some u:=by
  rw[cell_of_row w g 0 _ T' (0,0) hh];rfl
 simp only[Instr.loadAt,Instr.sureAddr,loadVar,uH,uL,uE,ha];simp[hc]
theorem qre{α:Type}{k i:Nat}{x:α}{l:List (Nat×α)}(h:k≠i):lkA ((k,x)::l) i=lkA l i:=by
 show(if uI k i then some x else lkA l i)=_
 rw[if_neg (fun e=>h (gnN e))]
theorem qwu{α:Type}{k:Nat}{x:α}{l:List (Nat×α)}:lkA ((k,x)::l) k=some x:=by
 show(if uI k k then some x else lkA l k)=_
 rw[if_pos (Nat.beq_refl k)]
theorem qwr{own:List (Nat×Nat)}{j i:Nat}(h:i≠j):lkA (own.filter fun y=>y.1 !=j) i=lkA own i:=by
 induction own with
 |nil=>rfl
 | cons e l ih =>
  obtain⟨a,b⟩:=e;by_cases ha:a=j
  ·subst ha;rw[List.filter_cons_of_neg (by simp),qre (Ne.symm h)];exact ih
  ·rw[List.filter_cons_of_pos (by simpa using ha)];by_cases hi:a=i
   ·subst hi;rw[qwu,qwu]
   ·rw[qre hi,qre hi];exact ih
theorem q1r.of0{A:Bk}{p:qe}{w:World}{dep:List Nat}{own own0:List (Nat×Nat)}{J:Nat}(ho:∀i,i≠J→lkA own0 i=lkA own i):∀{l:List D}{n:Nat}{fs:List Ty}{vs:List Value},Fls A p w dep own n l fs vs→q1r A p w dep own0 J n l fs vs
 |[],_,_,_,h=>h
 |d::l,n,fs,vs,⟨t,ts,c1,c2,e1,e2,h1,h2⟩=>⟨t,ts,c1,c2,e1,e2,(Rd.len d (h1.rd (dep':=dep++own.map (·.2)) (fun x hx=>uC _ hx) (fun x hx=>uB _ (q18 hx)))).1,fun hn=>by rw[ho n hn];exact h1,q1r.of0 ho h2⟩
theorem qup{k g:Nat}{path:List Nat}{e:Ent}{own:List (Nat×Nat)}{b:AV}{v:Value}{cs:Array Value}{T:TypeId}(hg:p (k * 16)=some g)(hh:w.heap[g]? =some (.cells cs T (0,0)))(hty:qc T=some e.t)(hcon:Con c.A p w (e.x.ev c.v) e.t e.own e.dep cs.toList)(h:b.pd c p w v):(qym k path e own b).pd c p w v:=by
 unfold qym;split
 ·rename_i j S _ _ hS;split
  ·rw[hS] at hcon;obtain⟨fs,ds,hf,hd,hfl⟩:=hcon;exact⟨⟨g,cs,T,S,fs,ds,hg,hh,hty,hS,hf,hd,q1r.of0 (fun i hi=>qwr hi) hfl⟩,h⟩
  ·exact h
 ·exact h
theorem qu9{wr:Option (Nat×X×List Nat×Nat×Ty)}{t:Ty}{x:AV}{v:Value}{vs:List Value}{b o1:Nat}(hw:qzn c p w b o1 wr)(hr:w.rangeAt b o1 vs)(hp:z4 t vs v)(ha:x.pd c p w v):(qxl wr t x).pd c p w v:=by
 unfold qxl;split
 ·rename_i r i te E;split
  ·rename_i hok;simp only[gnB] at hok;have h2:=(Ty.beq_iff _ _).1 hok.2;subst h2;obtain⟨h1,ho,cur,E',hh,hE'⟩:=hw;have hvs:vs=[v]:=hp;subst hvs;refine⟨⟨⟨b,cur,E',.row E,h1,hh,hE',rfl,?_⟩,trivial⟩,ha⟩;have:=hr 0 v rfl;rw[cell_of_row w b _ cur E' (0,0) hh] at this;rw[ho] at this;simpa[Ty.w] using this
  ·exact ha
 ·exact ha
theorem qys(hf:SF c σ p w a)(hc:hold c.v cs=true){T:TypeId}{y:Operand}(heq:o.op=.load T y){ns:List X}{x:AV}(h:quiet uA σ cs o=some (ns,x)):q1b o a c p w x:=by
 simp only[quiet,heq] at h;split at h
 ·rename_i k path o' t hy;obtain⟨g,hg,hev,hat0⟩:=qd hf hc hy;split at h
  ·rename_i e he;obtain⟨g',vs,T',hg',hh,hty,hcon⟩:=hf.m k e he;obtain rfl:g=g':=gnI (hg.symm.trans hg');split at h
   ·rename_i x' t' own' o1 hat;split at h
    ·rename_i hok;simp only[gnB] at hok;obtain⟨h1,h2,h3⟩:=hok;rw[Ty.beq_iff] at h1;have h2':=gnN h2;subst h1 h2';simp only[gnS] at h;obtain⟨rfl,rfl⟩:=h;obtain⟨c0,c1,c2,hvs,hl,hcc⟩:=qda path hat hcon;have hr:w.rangeAt g o1 c1:=fun j v hj=>by
      rw[cell_of_row w g (o1+j) vs T' (0,0) hh,←kY,hvs,←hl,kR (by omega),kV (by have:=(gnH.1 hj).1;omega)];simpa using hj
     obtain⟨v,hv,hp⟩:=q50 (j6 h3) hr (hcc.rd (dep':=own'.map (·.2)++e.dep) (fun x hx=>uB _ hx) (fun x hx=>uC _ hx));refine⟨v,?_,qup hg hh hty hcon ⟨c1,hp,hcc.depF⟩⟩;generalize a.eval=r at *;simp[execOp,heq,hev,hv]
    ·cases h
   ·cases h
  ·cases h
 ·rename_i x' t dep wr hy;obtain⟨b,o1,vs,hev,hb,hr,h0,hd,hw⟩:=qd hf hc hy;split at h
  ·rename_i h3;simp only[gnS] at h;obtain⟨rfl,rfl⟩:=h;obtain⟨v,hv,hp⟩:=q50 (j6 h3) hr hd;refine⟨v,?_,qu9 hw hr hp ⟨vs,hp,(Con.of_rd hd).depF⟩⟩;generalize a.eval=r at *;simp[execOp,heq,hev,hv]
  ·cases h
 ·rename_i k T' b hy;split at h
  ·rename_i h3;simp only[gnS] at h;obtain⟨rfl,rfl⟩:=h;obtain⟨g,u,hg,hev,hh,hu⟩:=qd hf hc hy;refine⟨u,?_,hu⟩;have hl:=q7z (w:=w) h3 hh;generalize a.eval=r at *;simp[execOp,heq,hev,hl]
  ·cases h
 ·rename_i T' b hy;split at h
  ·rename_i h3;simp only[gnS] at h;obtain⟨rfl,rfl⟩:=h;obtain⟨g,u,-,-,hev,hh,hu⟩:=qd hf hc hy;refine⟨u,?_,hu⟩;have hl:=q7z (w:=w) h3 hh;generalize a.eval=r at *;simp[execOp,heq,hev,hl]
  ·cases h
 ·cases h
theorem qjn(hf:SF c σ p w a)(hc:hold c.v cs=true){T:TypeId}{y:Operand}{j:Nat}(heq:o.op=.fieldAddr T y j){ns:List X}{x:AV}(h:quiet uA σ cs o=some (ns,x)):q1b o a c p w x:=by
 simp only[quiet,heq] at h;split at h
 ·rename_i S hT;split at h
  ·rename_i fs hfs;split at h
   ·rename_i t' hj;split at h
    ·rename_i k path o' S' hy;obtain⟨g,hg,hev,hat0⟩:=qd hf hc hy;simp only[gnS] at h;obtain⟨rfl,rfl⟩:=h;refine⟨_,?_,g,hg,rfl,hat0⟩;have:=q4t (w:=w) hT hfs hj g o';generalize a.eval=r at *;simp[execOp,heq,hev,this]
    ·rename_i x' S' dep wr hy;obtain⟨b,o1,vs,hev,hb,hr,h0,hd,hw⟩:=qd hf hc hy;split at h
     ·rename_i hS;have hS':=gnN hS;subst hS';simp only[gnS] at h;obtain⟨rfl,rfl⟩:=h;have hcon:=(Con.of_rd hd).get hfs hj;obtain⟨c0,c1,c2,hvs,hl,hfl⟩:=hcon;have hrd:Rd w (FFD c.A p dep) ((x'.ev c.v).fld j) t' c1:=hfl;have hpos:0<t'.w:=(qc2 hfs).2 _ (vB hj);refine⟨_,?_,b,o1+offs fs j,c1,rfl,hb,fun i v hi=>?_,by rw[(Rd.len _ hrd).1];exact hpos,hrd,?_⟩
      ·have:=q4t (w:=w) hT hfs hj b o1;generalize a.eval=r at *;simp[execOp,heq,hev,this]
      ·rw[kF];refine hr _ v ?_;rw[hvs,←hl,kR (by omega),kV (by have:=(gnH.1 hi).1;omega)];simpa using hi
      ·match wr,hw with
       |none,hw=>trivial
       |some (pin,i,pt,q,te),hw=>exact⟨hw.1,by have:=hw.2.1;show _=(i.ev c.v).int.toNat * te.w+(q+offs fs j);omega,hw.2.2⟩
     ·cases h
    ·cases h
   ·cases h
  ·cases h
 ·cases h
theorem qtt(hf:SF c σ p w a)(hc:hold c.v cs=true){T:TypeId}{y:Operand}{j:Nat}(heq:o.op=.field T y j){ns:List X}{x:AV}(h:quiet uA σ cs o=some (ns,x)):q1b o a c p w x:=by
 simp only[quiet,heq] at h;split at h
 ·rename_i S hT;split at h
  ·rename_i fs hfs;split at h
   ·rename_i t' hj;split at h
    ·rename_i x' S' own dep hy;obtain⟨vs,hpk,hcon⟩:=qd hf hc hy;split at h
     ·rename_i hS;have hS':=gnN hS;subst hS';simp only[gnS] at h;obtain⟨rfl,rfl⟩:=h;obtain⟨c0,c1,c2,rfl,hl,hfl⟩:=hcon.get hfs hj;have hev:a.eval y=.agg (c0++(c1++c2)).toArray:=hpk;obtain⟨v,hv,hp⟩:=qil (c2:=c2) hT hfs hj hl (hfl.rd (dep':=own.map (·.2)++dep) (fun x hx=>uB _ hx) (fun x hx=>uC _ (q18 hx)));refine⟨v,?_,c1,hp,Con.sub hfl⟩;generalize a.eval=r at *;simp only[execOp,heq,hev,uH,hv,uE,uL]
     ·cases h
    ·cases h
   ·cases h
  ·cases h
 ·cases h
theorem q1e{e:Ev}:∀(l:List X),(X.evs e l).length=l.length
 |[]=>rfl
 |x::l=>by simp[X.evs,q1e l]
theorem qmq{e:Ev}:∀{l:List X}{i:Nat}{x:X},l[i]? =some x→(X.evs e l)[i]? =some (x.ev e)
 |[],i,x,h=>by simp at h
 |y::l,0,x,h=>by simp at h;subst h;rfl
 |y::l,i+1,x,h=>by
  have:=qmq (e:=e) (l:=l) (i:=i) (x:=x) (by simpa using h);simpa[X.evs] using this
theorem qno{T E:TypeId}{n:Nat}(h:qpe uA T E n=true):uA.underlying T=some (.array n E):=by
 unfold qpe at h;split at h
 ·rename_i m E' hu;simp only[gnB] at h;rw[←gnN h.1,←gnN h.2];exact hu
 ·cases h
theorem qlc.at{c:Cx}{p:qe}{w:World}{E:TypeId}{xs:List X}{dep:List Nat}{cs:Array Value}(h:qlc c p w E xs dep (.agg cs)){g:Nat}{T:TypeId}(hg:w.heap[g]? =some (.cells cs T (0,0))){te:Ty}(hte:qc E=some te){m:Nat}(hm:m<xs.length):∃vs,w.rangeAt g (m * te.w) vs∧Rd w (FFD c.A p dep) ((X.evs c.v xs).getD m .u) te vs:=by
 obtain⟨te',l,hte',e,hl,hr⟩:=h;obtain rfl:=gnI (hte'.symm.trans hte);injection e with e;subst e;have hl2:(X.evs c.v xs).length=xs.length:=q1e xs;refine⟨(l.drop (m * te'.w)).take te'.w,fun j v hj=>?_,?_⟩
 ·rw[cell_of_row w g _ _ T (0,0) hg,←kY];rw[List.getElem?_take] at hj;split at hj
  ·rw[List.getElem?_drop] at hj;exact hj
  ·cases hj
 ·refine hr m _ ?_;rw[gnG,gnK (by omega)];rfl
theorem FFD.one{A:Bk}{p:qe}{x g:Nat}{dep:List Nat}(h:p x=some g):FFD A p (x::dep) g:=.inr (.inl ⟨x,uF,h⟩)
theorem qs0(hf:SF c σ p w a)(hc:hold c.v cs=true){T:TypeId}{y i:Operand}(heq:o.op=.indexAddr T y i){b1 b2:AV}(h1:opd σ cs y=some b1)(h2:opd σ cs i=some b2){ns:List X}{x:AV}(h:qm5 uA T b1 b2=some (ns,x))(hn:∀n∈ns,n.says c.v):q1b o a c p w x:=by
 unfold qm5 at h;split at h
 ·rename_i k T' n E xs dep xi kk own' dep';split at h
  ·rename_i hT;split at h
   ·rename_i te hte;simp only[gnS] at h;obtain⟨rfl,rfl⟩:=h;obtain⟨g,cells,⟨hp,-⟩,hev,hh,-,har⟩:=qd hf hc h1;obtain⟨m,hm,hiv,hmr⟩:=zt (qd hf hc h2);have n1:=zq (x:=.lit (.i 0)) (y:=xi) (hn _ (by simp));have n2:=qc7 (x:=xi) (y:=.lit (.i (xs.length:Nat))) (hn _ (by simp));rw[hm] at n1 n2;simp only[X.ev,D.int] at n1 n2;have hlt:m.toNat<xs.length:=by omega
    obtain⟨vs,hr,hrd⟩:=qlc.at har hh hte hlt;have hidx:(Instr.indexAt T (.pointer (some ⟨g,0,none⟩)) (.int kk m)).run uA w=.ok (.pointer (some ⟨g,m.toNat * te.w,none⟩)) w:=by
     simp only[Instr.indexAt,asIntOf,uH,uL,run_underlying (qno hT),uE,Instr.sureAddr];rw[if_pos ⟨n1,n2⟩];simp[y6 hte,Addr.mid_eq]
    have hget:(X.get (.row xs) xi).ev c.v=(X.evs c.v xs).getD m.toNat .u:=by
     show(D.r (X.evs c.v xs)).rs.getD (xi.ev c.v).int.toNat .u=_
     rw[hm];rfl
    refine⟨_,?_,g,m.toNat * te.w,vs,rfl,FFD.one hp,hr,?_,?_,trivial⟩
    ·generalize a.eval=r at *;simp only[execOp,heq,hev,hiv,uH,hidx,uE,uL]
    ·rw[(Rd.len _ hrd).1];exact q0c hte
    ·rw[hget];exact hrd.mono fun b _ hb=>hb.mono fun x hx=>uD _ hx
   ·cases h
  ·cases h
 ·cases h
theorem qjl(hf:SF c σ p w a)(hc:hold c.v cs=true){T:TypeId}{y i:Operand}(heq:o.op=.indexAddr T y i){ns:List X}{x:AV}(h:quiet uA σ cs o=some (ns,x))(hn:∀n∈ns,n.says c.v):q1b o a c p w x:=by
 simp only[quiet,heq] at h;split at h
 ·rename_i E hT;split at h
  ·rename_i te hte;split at h
   ·rename_i xr own dep xi k own' dep' hy hi;obtain⟨y',hy1,hy2⟩:=uQ.1 hy;have hcon:=q20 hte hy2 (qd hf hc hy1);obtain⟨m,hm,hiv,hmr⟩:=zt (qd hf hc hi);simp only[gnS] at h;obtain⟨rfl,rfl⟩:=h;have n1:=zq (x:=.lit (.i 0)) (y:=xi) (hn _ (by simp));have n2:=qc7 (x:=xi) (y:=q2l xr) (hn _ (by simp));rw[hm] at n1 n2;rw[q05] at n2;simp only[X.ev,D.int] at n1 n2;obtain⟨te',A,cap,hte',hd,hev,h1,h2,h3,hE⟩:=hcon.row;obtain rfl:=gnI (hte'.symm.trans hte);have hlt:m.toNat<(xr.ev c.v).rs.length:=by omega
    obtain⟨b,q,vs,rfl,hF,hr,hrd⟩:=jg.1 hE m.toNat hlt;rw[kH] at hr;have hget:(X.get xr xi).ev c.v=(xr.ev c.v).rs[m.toNat]:=by
     show(xr.ev c.v).rs.getD (xi.ev c.v).int.toNat .u=_
     rw[hm];simp[D.int,gnG,gnK hlt]
    have hidx:=qec (w:=w) (b:=b) (o:=q) (cap:=cap) (k:=k) hT hte n1 n2;refine⟨_,?_,b,q+m.toNat * te'.w,vs,rfl,hF,hr,?_,?_,?_⟩
    ·generalize a.eval=r at *;simp only[execOp,heq,hev,hiv,uH,hidx,uE,uL]
    ·rw[(Rd.len _ hrd).1];exact q0c hte
    ·rw[hget];exact hrd
    ·unfold z05;split
     ·rename_i pin ho;have hcf:Fl c.A p w dep (lkA own 0) (xr.ev c.v) (.row E) [a.eval y]:=hcon;rw[ho] at hcf;rcases hcf.symm with⟨K,V,kt,vt,lm,gm,es,clock,em,-⟩|⟨E',te'',l,v,e1,hte2,hl,hv,hown⟩
      ·cases em
      injection hv with hv;rcases hown with⟨e2,rfl⟩|⟨g,cap',cur,e2,hg,hblk,-⟩
      ·rw[hl] at hlt;simp[D.rs] at hlt
      ·rw[←hv,hev] at e2;injection e2 with e2;injection e2 with e2;injection e2 with e2 e3;subst e2 e3;injection e1 with e1;subst e1;refine⟨hg,?_,cur,E,hblk,hte⟩;rw[hm];simp[D.int]
     ·trivial
   ·cases h
  ·cases h
 ·split at h
  ·rename_i h1 h2;exact qs0 hf hc heq h1 h2 h hn
  ·cases h
theorem qvr(hf:SF c σ p w a)(hc:hold c.v cs=true){T:TypeId}{y i:Operand}(heq:o.op=.index T y i){ns:List X}{x:AV}(h:quiet uA σ cs o=some (ns,x))(hn:∀n∈ns,n.says c.v):q1b o a c p w x:=by
 simp only[quiet,heq] at h;split at h
 ·rename_i xs _ _ xi k _ _ hy hi;obtain⟨s,hs,hsv,hsl⟩:=qdq (qd hf hc hy);obtain⟨m,hm,hiv,hmr⟩:=zt (qd hf hc hi);split at h
  ·rename_i hT;simp only[gnS] at h;obtain⟨rfl,rfl⟩:=h;have n1:=zq (x:=.lit (.i 0)) (y:=xi) (hn _ (by simp));have n2:=qc7 (x:=xi) (y:=.slen xs) (hn _ (by simp));rw[hm] at n1 n2;simp only[X.ev,D.int,hs,D.str] at n1 n2;have hlt:m.toNat<s.size:=by omega
   refine⟨.int .u8 s[m.toNat].toNat,?_,jd (n:=s[m.toNat].toNat) ?_ ?_⟩
   ·have hu:=(q04 (j6 hT)).1;have h0:(0:Int)≤m:=n1;generalize a.eval=r at *;simp[execOp,heq,hsv,hiv,Instr.index,asIntOf,run_underlying hu,h0,hlt]
   ·show D.i _=_
    rw[hs,hm];have e1:s.data.getD m.toNat 0=s[m.toNat]:=by
     rw[uV,uX (by exact hlt)];rfl
    simp only[D.str,D.int,e1]
   ·have:=s[m.toNat].toNat_lt;simp[yy];omega
  ·cases h
 ·rename_i E xs dep xi k _ _ hy hi;split at h
  ·rename_i hT;split at h
   ·rename_i te hte;simp only[gnS] at h;obtain⟨rfl,rfl⟩:=h;obtain⟨te',cs',hte',hev,hlen,hel⟩:=qd hf hc hy;obtain rfl:=gnI (hte'.symm.trans hte);obtain⟨m,hm,hiv,hmr⟩:=zt (qd hf hc hi);have n1:=zq (x:=.lit (.i 0)) (y:=xi) (hn _ (by simp));have n2:=qc7 (x:=xi) (y:=.lit (.i (xs.length:Nat))) (hn _ (by simp));rw[hm] at n1 n2;simp only[X.ev,D.int] at n1 n2;have hu:uA.underlying T=some (.array xs.length E):=by
     unfold qpe at hT;split at hT
     ·rename_i m' E' hu;simp only[gnB] at hT;rw[hu,gnN hT.1,gnN hT.2]
     ·cases hT
    have hlt:m.toNat<xs.length:=by omega
    have hl2:(X.evs c.v xs).length=xs.length:=q1e xs;have hrd:=hel m.toNat (X.evs c.v xs)[m.toNat] (gnK (by omega));have hle:m.toNat * te'.w+te'.w≤cs'.length:=by
     rw[hlen];have:(m.toNat+1) * te'.w≤xs.length * te'.w:=Nat.mul_le_mul_right _ hlt;rw[vQ] at this;omega
    obtain⟨v,hv,hp⟩:=q1z (w:=w) hte (c0:=cs'.take (m.toNat * te'.w)) (c1:=(cs'.drop (m.toNat * te'.w)).take te'.w) (c2:=(cs'.drop (m.toNat * te'.w)).drop te'.w) (o:=m.toNat * te'.w) (by rw[List.length_take];omega) hrd;rw[vA,vA] at hv;refine⟨v,?_,_,hp,?_⟩
    ·have h0:(0:Int)≤m:=n1;generalize a.eval=r at *;simp[execOp,heq,hev,hiv,Instr.index,asIntOf,run_underlying hu,h0,n2,y6 hte,hv]
    ·have hx:(X.get (.row xs) xi).ev c.v=(X.evs c.v xs)[m.toNat]:=by
      show(D.r (X.evs c.v xs)).get (xi.ev c.v).int=_
      rw[hm];simp[D.get,D.rs,D.int,gnG,gnK (show m.toNat<(X.evs c.v xs).length by omega)]
     rw[hx];exact Con.of_rd hrd
   ·cases h
  ·cases h
 ·cases h
end
end
section
section
variable{c:Cx}{p:qe}{w:World}{a:Act}{σ:St}{cs:List (X×Bool)}{o:Oper}
theorem q67{k:IntKind}{n:Int}(h:yy k n=true):k.wrap n=n:=by
 unfold yy at h;split at h
 ·simp only[gnB,gnD] at h;simp only[IntKind.wrap,IntKind.bits,IntKind.signed];simp;split<;>omega
 ·simp only[gnB,gnD] at h;simp only[IntKind.wrap,IntKind.bits,IntKind.signed];simp;omega
 ·simp only[gnB,gnD] at h;simp only[IntKind.wrap,IntKind.bits,IntKind.signed];simp;omega
 ·simp only[gnB,gnD] at h;simp only[IntKind.wrap,IntKind.bits,IntKind.signed];simp;split<;>omega
 ·cases h
theorem qiy(n:Int):yy .i64 (IntKind.wrap .i64 n)=true:=by
 simp only[yy,IntKind.wrap,IntKind.bits,IntKind.signed,gnB,gnD];simp;split<;>omega
theorem qnd(m n:ByteArray):decide (D.s m=D.s n)=(m.toList==n.toList):=by
 rw[uK];simp only[beq_iff_eq,gnD,D.s.injEq];exact⟨fun e=>by rw[e],str_inj⟩
theorem qiq{w:World}(d:Nat){T e:TypeId}(hu:uA.underlying T=some (.slice e))(A:Option Addr)(n cap:Nat):(Op.equalIn (d+1) T (.slice A n cap) (.slice none 0 0)).run uA w=.ok A.isNone w:=by
 cases A<;>simp[Op.equalIn,run_underlying hu]
theorem qhx(T:TypeId)(x y:Option Addr):binOp .eql T (.pointer x) (.pointer y)=(do pure (.bool (←Op.equal T (.pointer x) (.pointer y)))):=rfl
theorem qhp(T:TypeId)(x y:Option Addr):binOp .neq T (.pointer x) (.pointer y)=(do pure (.bool (!(←Op.equal T (.pointer x) (.pointer y))))):=rfl
theorem q4v{k:IntKind}{x:X}(h:(X.rng k x).says c.v):yy k (x.ev c.v).int=true:=h
theorem qqb{op:BinOp}{T u:TypeId}{x y:Operand}(heq:o.op=.binOp op T x y u){xa ya:X}{k:IntKind}{m n:Int}(hm:xa.ev c.v=.i m)(hn:ya.ev c.v=.i n)(hx:a.eval x=.int k m)(hy:a.eval y=.int k n)
  {ns:List X}{r:AV}(h:(match qz3 op with
   |.rel f=>some (([]:List X),AV.v (f xa ya) .bool [] [])
   |.ari f=>some ([.rng k (f xa ya)],.v (f xa ya) (.int k) [] [])
   |.no=>none)=some (ns,r))(hs:∀n∈ns,n.says c.v):q1b o a c p w r:=by
 cases op<;>simp only[qz3,gnS,reduceCtorEq] at h<;>obtain⟨rfl,rfl⟩:=h
 case add=>
  have h1:=q4v (k:=k) (x:=qix xa ya) (hs _ (by simp));rw[qc6,hm,hn] at h1;simp only[D.int] at h1;refine⟨.int k (m+n),?_,jd (by rw[qc6,hm,hn];rfl) h1⟩;have:=q67 h1;generalize a.eval=r at *;simp[execOp,heq,hx,hy,eqGuard,binOp,Op.intArith,this]
 case sub=>
  have h1:=q4v (k:=k) (x:=qvi xa ya) (hs _ (by simp));rw[qnl,hm,hn] at h1;simp only[D.int] at h1;refine⟨.int k (m - n),?_,jd (by rw[qnl,hm,hn];rfl) h1⟩;have:=q67 h1;generalize a.eval=r at *;simp[execOp,heq,hx,hy,eqGuard,binOp,Op.intArith,this]
 case mul=>
  have h1:=q4v (k:=k) (x:=que xa ya) (hs _ (by simp));rw[qnq,hm,hn] at h1;simp only[D.int] at h1;refine⟨.int k (m * n),?_,jd (by rw[qnq,hm,hn];rfl) h1⟩;have:=q67 h1;generalize a.eval=r at *;simp[execOp,heq,hx,hy,eqGuard,binOp,Op.intArith,this]
 case eql=>
  refine⟨.bool (m==n),?_,y7 (by rw[q5d,hm,hn];congr 1;rw[uK];simp)⟩;generalize a.eval=r at *;simp[execOp,heq,hx,hy,eqGuard,binOp,Op.intCmp]
 case neq=>
  refine⟨.bool (m !=n),?_,y7 (by rw[q62 (q5d _ _),hm,hn];congr 1;rw[uK];simp)⟩;generalize a.eval=r at *;simp[execOp,heq,hx,hy,eqGuard,binOp,Op.intCmp]
 case lss=>
  refine⟨.bool (decide (m<n)),?_,y7 (by rw[ql1,hm,hn];rfl)⟩;generalize a.eval=r at *;simp[execOp,heq,hx,hy,eqGuard,binOp,Op.intCmp]
 case leq=>
  refine⟨.bool (decide (m≤n)),?_,y7 (by rw[qab,hm,hn];rfl)⟩;generalize a.eval=r at *;simp[execOp,heq,hx,hy,eqGuard,binOp,Op.intCmp]
 case gtr=>
  refine⟨.bool (decide (n<m)),?_,y7 (by rw[ql1,hm,hn];rfl)⟩;generalize a.eval=r at *;simp[execOp,heq,hx,hy,eqGuard,binOp,Op.intCmp]
 case geq=>
  refine⟨.bool (decide (n≤m)),?_,y7 (by rw[qab,hm,hn];rfl)⟩;generalize a.eval=r at *;simp[execOp,heq,hx,hy,eqGuard,binOp,Op.intCmp]
set_option maxHeartbeats 1000000 in
theorem qto(hf:SF c σ p w a)(hc:hold c.v cs=true){op:BinOp}{T u:TypeId}{y z:Operand}(heq:o.op=.binOp op T y z u){ns:List X}{x:AV}(h:quiet uA σ cs o=some (ns,x))(hn:∀n∈ns,n.says c.v):q1b o a c p w x:=by
  simp only[quiet,heq] at h;split at h
  · rename_i ya za hy hz;have h1:=qd hf hc hy;have h2:=qd hf hc hz;split at h
    · rename_i r hr;injection h with h;subst h;unfold qqq at hr;split at hr
      · split at hr
        · simp only[gnS] at hr;obtain⟨rfl,rfl⟩:=hr;obtain⟨m,hm,hmv,-⟩:=zt h1;obtain⟨n,hn',hnv,-⟩:=zt h2;refine⟨.int .i64 (IntKind.wrap .i64 (m+n)),?_,jd (n:=IntKind.wrap .i64 (m+n)) ?_ (qiy (m+n))⟩
          · generalize a.eval=r at *;simp[execOp,heq,hmv,hnv,eqGuard,binOp,Op.intArith]
          · show fnD 9 [X.ev c.v _,X.ev c.v _]=_
            rw[hm,hn'];rfl
        · cases hr
      · split at hr
        · split at hr
          · simp only[gnS] at hr;obtain⟨rfl,rfl⟩:=hr;obtain⟨m,hm,hmv,-⟩:=zt h1;obtain⟨n,hn',hnv,-⟩:=zt h2;refine⟨.int .i64 (IntKind.wrap .i64 (m - n)),?_,jd (n:=IntKind.wrap .i64 (m - n)) ?_ (qiy (m - n))⟩
            · generalize a.eval=r at *;simp[execOp,heq,hmv,hnv,eqGuard,binOp,Op.intArith]
            · show fnD 18 [X.ev c.v _,X.ev c.v _]=_
              rw[hm,hn'];rfl
          · cases hr
        · cases hr
      · cases hr
    rename_i hwn;split at h
    · rename_i r hr;injection h with h;subst h;unfold qwx at hr;split at hr
      · split at hr
        · rename_i hk;have hk':=of_decide_eq_true hk;subst hk';obtain⟨m,hm,hmv,-⟩:=zt h1;obtain⟨n,hn',hnv,-⟩:=zt h2;exact qqb heq hm hn' hmv hnv hr hn
        · cases hr
      · obtain⟨m,hm,hmv⟩:=q0v h1;obtain⟨n,hn',hnv⟩:=q0v h2;split at hr
        · rename_i hT;have hu:=(q0e (j6 hT)).1;split at hr
          · simp only[gnS] at hr;obtain⟨rfl,rfl⟩:=hr;refine⟨.bool (m==n),?_,y7 (by rw[q5d,hm,hn'];congr 1;rw[uK];simp)⟩;have:=run_equal_bool (P:=uA) w T m n hu;generalize a.eval=r at *;simp[execOp,heq,hmv,hnv,eqGuard,binOp,this]
          · simp only[gnS] at hr;obtain⟨rfl,rfl⟩:=hr;refine⟨.bool (m !=n),?_,y7 (by rw[q62 (q5d _ _),hm,hn'];congr 1;rw[uK];simp)⟩;have:=run_equal_bool (P:=uA) w T m n hu;generalize a.eval=r at *;simp[execOp,heq,hmv,hnv,eqGuard,binOp,this,bne]
          · cases hr
        · cases hr
      · obtain⟨m,hm,hmv,-⟩:=qdq h1;obtain⟨n,hn',hnv,-⟩:=qdq h2;split at hr
        · simp only[gnS] at hr;obtain⟨rfl,rfl⟩:=hr;refine⟨.bool (m.toList==n.toList),?_,y7 (by rw[q5d,hm,hn',qnd])⟩;generalize a.eval=r at *;simp[execOp,heq,hmv,hnv,eqGuard,binOp,Op.stringOp]
        · simp only[gnS] at hr;obtain⟨rfl,rfl⟩:=hr;refine⟨.bool (!(m.toList==n.toList)),?_,y7 (by rw[q62 (q5d _ _),hm,hn',qnd])⟩;generalize a.eval=r at *;simp[execOp,heq,hmv,hnv,eqGuard,binOp,Op.stringOp]
        · simp only[gnS] at hr;obtain⟨rfl,rfl⟩:=hr;have h3:=hn _ (uF);have h3':m.size+n.size≤140737488351232:=by
            have h4:=zq h3;simp only[X.ev,hm,hn',D.int,D.str] at h4;omega
          have hsz:(m++n).size=m.size+n.size:=by simp[ByteArray.size_append]
          refine⟨.string (m++n),?_,qhg (by show fnD 11 [X.ev c.v _,X.ev c.v _]=_;rw[hm,hn'];rfl) (by rw[hsz];exact h3')⟩;have:=run_string_add_sum (P:=uA) w m n (by omega);generalize a.eval=r at *;simp[execOp,heq,hmv,hnv,eqGuard,binOp,this]
        · cases hr
      · rename_i x1 S o1 d1 x2 S' o2 d2;split at hr
        · rename_i hok;simp only[gnB] at hok;obtain⟨hT,hS,hfl⟩:=hok;have hS':=gnN hS;subst hS';have hT':=j6 hT;obtain⟨fields,fs,zc,i,hu,hf',hfb,hi,hs,hz0,hpz,hst,hgd⟩:=q0j hT';obtain⟨v1,hp1,hc1⟩:=h1;obtain⟨v2,hp2,hc2⟩:=h2;have r1:=Rd.flat (w':=w) (F':=fun _=>True) 8 _ hfl (hc1.rd (dep':=d1++o1.map (·.2)) (fun x hx=>uC _ hx) (fun x hx=>uB _ hx));have r2:=Rd.flat (w':=w) (F':=fun _=>True) 8 _ hfl (hc2.rd (dep':=d2++o2.map (·.2)) (fun x hx=>uC _ hx) (fun x hx=>uB _ hx));have e1:a.eval y=.agg v1.toArray:=hp1;have e2:a.eval z=.agg v2.toArray:=hp2;have heqv:=q8m (w:=w) 8 9992 hT' hfl r1 r2 rfl rfl;have hg:∀op y z,(eqGuard op T y z (.agg v1.toArray) (.agg v2.toArray)).run uA w=.ok () w:=fun op y z=>run_eqGuard_agg w op T y z _ _ hgd;split at hr
          · simp only[gnS] at hr;obtain⟨rfl,rfl⟩:=hr;refine⟨_,?_,y7 (q5d _ _)⟩;generalize a.eval=r at *;simp only[execOp,heq,e1,e2,uH,hg,uE,run_eql_struct];rw[show(10000:Nat)=9992+8 from rfl,heqv];simp
          · simp only[gnS] at hr;obtain⟨rfl,rfl⟩:=hr;refine⟨_,?_,y7 (q62 (q5d _ _))⟩;generalize a.eval=r at *;simp only[execOp,heq,e1,e2,uH,hg,uE,run_neq_struct];rw[show(10000:Nat)=9992+8 from rfl,heqv];simp
          · cases hr
        · cases hr
      · cases hr
    · split at h
      · rename_i r hr;injection h with h;subst h;unfold qwk at hr;split at hr
        · rename_i x0 k o1 d1 m k2 o2 d2 hxx;split at hr
          · split at hr
            · rename_i hm;simp only[gnB,gnD] at hm;simp only[gnS] at hr;obtain⟨rfl,rfl⟩:=hr;obtain⟨n1,hx1,hv1,-⟩:=zt h1;obtain⟨n2,hx2,hv2,-⟩:=zt h2;have e2:m=n2:=by
                have:D.i m=D.i n2:=hx2;injection this
              subst e2;have hr1:yy k (n1.fdiv (2^m.toNat))=true:=by
                have:=hn (.rng k (.fn 8 [x0,.lit (.i m)])) (by simp);have h3:(D.b (yy k ((X.fn 8 [x0,.lit (.i m)]).ev c.v).int)).tt=true:=this;have e:(X.fn 8 [x0,.lit (.i m)]).ev c.v=.i (n1.fdiv (2^m.toNat)):=by
                  show D.i ((x0.ev c.v).int.fdiv (2^m.toNat))=_
                  rw[hx1];rfl
                rw[e] at h3;simpa[D.tt,D.int] using h3
              refine⟨.int k (n1.fdiv (2^m.toNat)),?_,jd (n:=n1.fdiv (2^m.toNat)) ?_ hr1⟩
              · have hb:min m.toNat k.bits=m.toNat:=by
                  have:8≤k.bits:=by cases k<;>simp[IntKind.bits]
                  omega
                have hneg:¬m<0:=by omega
                generalize a.eval=r at *;simp[execOp,heq,hv1,hv2,eqGuard,binOp,Op.shift,hneg,hb]
              · show D.i ((x0.ev c.v).int.fdiv (2^m.toNat))=_
                rw[hx1];rfl
            · cases hr
          · split at hr
            · rename_i hm;simp only[gnB,gnD] at hm;obtain⟨rfl,rfl,hm⟩:=hm;simp only[gnS] at hr;obtain⟨rfl,rfl⟩:=hr;obtain⟨n1,hx1,hv1,hr1⟩:=zt h1;obtain⟨n2,hx2,hv2,-⟩:=zt h2;have e2:m=n2:=by
                have:D.i m=D.i n2:=hx2;injection this
              subst e2;have q0:0≤(x0.ev c.v).int:=by
                have h:=hn (leX (.lit (.i 0)) x0) (by simp);unfold X.says at h;rw[qab] at h;exact of_decide_eq_true (show decide ((0:Int)≤(x0.ev c.v).int)=true from h)
              rw[hx1] at q0;have q0:0≤n1:=q0;have hdn:0≤n1 / m:=Int.ediv_nonneg q0 (by omega);have hdl:n1 / m≤n1:=Int.ediv_le_self _ q0;simp only[yy,gnB,gnD] at hr1;have hrr:yy .i64 (n1 / m)=true:=by simp[yy];omega
              refine⟨.int .i64 (n1 / m),?_,jd (n:=n1 / m) ?_ hrr⟩
              · have hne:¬m=0:=by omega
                have hw:IntKind.i64.wrap (n1 / m)=n1 / m:=by rw[IntKind.wrap_i64];omega
                have htd:n1.tdiv m=n1 / m:=Int.tdiv_eq_ediv_of_nonneg q0;generalize a.eval=r at *;simp[execOp,heq,hv1,hv2,eqGuard,binOp,Op.intDiv,hne,htd,hw]
              · show D.i ((x0.ev c.v).int / m)=_
                rw[hx1];rfl
            · cases hr
          · cases hr
        · cases hr
      rename_i hno2;clear hno2;split at h
      · rename_i r hr;injection h with h;subst h;unfold qwj at hr;split at hr
        · rename_i x0 k o1 d1 y0 k2 o2 d2 _;obtain⟨n1,hx1,hv1,hr1⟩:=zt h1;obtain⟨n2,hx2,hv2,hr2⟩:=zt h2;have nn:∀x:X,(leX (.lit (.i 0)) x).says c.v→0≤(x.ev c.v).int:=fun x h=>by
            unfold X.says at h;rw[qab] at h;exact of_decide_eq_true (show decide ((0:Int)≤(x.ev c.v).int)=true from h)
          have n64:∀x:X,(leX x (.lit (.i 64))).says c.v→(x.ev c.v).int≤64:=fun x h=>by
            unfold X.says at h;rw[qab] at h;exact of_decide_eq_true (show decide ((x.ev c.v).int≤64)=true from h)
          split at hr
          · split at hr
            · rename_i hk;simp only[kN,gnD] at hk;simp only[gnS] at hr;obtain⟨rfl,rfl⟩:=hr;have q1:=nn y0 (hn _ (by simp));have q2:=n64 y0 (hn _ (by simp));rw[hx2] at q1 q2;have q1:0≤n2:=q1;have q2:n2≤64:=q2;have e:(X.fn 8 [x0,y0]).ev c.v=.i (n1.fdiv (2^n2.toNat)):=by
                show D.i ((x0.ev c.v).int.fdiv (2^(y0.ev c.v).int.toNat))=_
                rw[hx1,hx2];rfl
              have h3:(D.b (yy k ((X.fn 8 [x0,y0]).ev c.v).int)).tt=true:=hn (.rng k (.fn 8 [x0,y0])) (by simp);rw[e] at h3;refine⟨.int k (n1.fdiv (2^n2.toNat)),?_,jd (n:=n1.fdiv (2^n2.toNat)) e (by simpa[D.tt,D.int] using h3)⟩;have hneg:¬n2<0:=by omega
              have hb:min n2.toNat k.bits=n2.toNat:=by rcases hk with rfl|rfl<;>simp only[IntKind.bits]<;>omega
              generalize a.eval=r at *;simp[execOp,heq,hv1,hv2,eqGuard,binOp,Op.shift,hneg,hb]
            · cases hr
          · split at hr
            · rename_i hk;simp only[gnB,kN,gnD] at hk;obtain⟨hkk,hk⟩:=hk;subst hkk;simp only[gnS] at hr;obtain⟨rfl,rfl⟩:=hr;have q1:=nn x0 (hn _ (by simp));have q2:=nn y0 (hn _ (by simp));rw[hx1] at q1;rw[hx2] at q2;have q1:0≤n1:=q1;have q2:0≤n2:=q2;have e:(X.fn 13 [x0,y0]).ev c.v=.i ((n1.toNat &&& n2.toNat:Nat):Int):=by
                show D.i (((x0.ev c.v).int.toNat &&& (y0.ev c.v).int.toNat:Nat):Int)=_
                rw[hx1,hx2];rfl
              have hle:n1.toNat &&& n2.toNat≤n1.toNat:=Nat.and_le_left;have hlt1:n1.toNat<2^64:=by
                rcases hk with rfl|rfl<;>simp only[yy,gnB,gnD] at hr1<;>omega
              have hlt2:n2.toNat<2^64:=by
                rcases hk with rfl|rfl<;>simp only[yy,gnB,gnD] at hr2<;>omega
              have hrr:yy k ((n1.toNat &&& n2.toNat:Nat):Int)=true:=by
                rcases hk with rfl|rfl<;>simp only[yy,gnB,gnD] at hr1⊢<;>omega
              have hb:k.bits=64:=by rcases hk with rfl|rfl<;>rfl
              have hbv:(BitVec.ofInt k.bits n1 &&& BitVec.ofInt k.bits n2).toNat=n1.toNat &&& n2.toNat:=by
                rw[hb,BitVec.toNat_and,BitVec.toNat_ofInt,BitVec.toNat_ofInt]
                congr 1<;>omega
              have hw:k.wrap ((n1.toNat &&& n2.toNat:Nat):Int)=((n1.toNat &&& n2.toNat:Nat):Int):=by
                rcases hk with rfl|rfl
                · simp only[yy,gnB,gnD] at hrr;have ew:∀m:Int,IntKind.wrap .i64 m=if m % 18446744073709551616≥9223372036854775808 then m % 18446744073709551616 - 18446744073709551616 else m % 18446744073709551616:=fun m=>by
                    simp[IntKind.wrap,IntKind.bits,IntKind.signed]
                  rw[ew,if_neg (by omega)];omega
                · simp only[yy,gnB,gnD] at hrr;simp only[IntKind.wrap,IntKind.bits,IntKind.signed,kT,gnF,if_false];omega
              refine⟨.int k ((n1.toNat &&& n2.toNat:Nat):Int),?_,jd (n:=((n1.toNat &&& n2.toNat:Nat):Int)) e hrr⟩;generalize a.eval=r at *;simp only[execOp,heq,hv1,hv2,eqGuard,binOp,Op.intBits,hbv,hw];simp
            · cases hr
          · split at hr
            · rename_i hk;simp only[gnB,gnD] at hk;obtain⟨hkk,hk⟩:=hk;subst hkk hk;simp only[gnS] at hr;obtain⟨rfl,rfl⟩:=hr;simp only[yy,gnB,gnD] at hr1 hr2;have e:(X.fn 14 [x0,y0]).ev c.v=.i ((n1.toNat ||| n2.toNat:Nat):Int):=by
                show D.i (((x0.ev c.v).int.toNat ||| (y0.ev c.v).int.toNat:Nat):Int)=_
                rw[hx1,hx2];rfl
              have hlt:n1.toNat ||| n2.toNat<2^64:=Nat.or_lt_two_pow (by omega) (by omega);have hrr:yy .u64 ((n1.toNat ||| n2.toNat:Nat):Int)=true:=by
                simp only[yy,gnB,gnD];omega
              have hbv:(BitVec.ofInt (IntKind.bits .u64) n1 ||| BitVec.ofInt (IntKind.bits .u64) n2).toNat=n1.toNat ||| n2.toNat:=by
                show(BitVec.ofInt 64 n1 ||| BitVec.ofInt 64 n2).toNat=_
                rw[BitVec.toNat_or,BitVec.toNat_ofInt,BitVec.toNat_ofInt]
                congr 1<;>omega
              have hw:IntKind.wrap .u64 ((n1.toNat ||| n2.toNat:Nat):Int)=((n1.toNat ||| n2.toNat:Nat):Int):=by
                simp only[IntKind.wrap,IntKind.bits,IntKind.signed,kT,gnF,if_false];omega
              refine⟨.int .u64 ((n1.toNat ||| n2.toNat:Nat):Int),?_,jd (n:=((n1.toNat ||| n2.toNat:Nat):Int)) e hrr⟩;generalize a.eval=r at *;simp only[execOp,heq,hv1,hv2,eqGuard,binOp,Op.intBits,hbv,hw];simp
            · cases hr
          · split at hr
            · rename_i hk;simp only[gnD] at hk;subst hk;simp only[gnS] at hr;obtain⟨rfl,rfl⟩:=hr;have q1:=nn y0 (hn _ (by simp));have q2:=n64 y0 (hn _ (by simp));rw[hx2] at q1 q2;have q1:0≤n2:=q1;have q2:n2≤64:=q2;have e:(X.fn 15 [x0,y0]).ev c.v=.i ((n1 * 2^n2.toNat) % 18446744073709551616):=by
                show D.i (((x0.ev c.v).int * 2^(y0.ev c.v).int.toNat) % 18446744073709551616)=_
                rw[hx1,hx2];rfl
              have hrr:yy .u64 ((n1 * 2^n2.toNat) % 18446744073709551616)=true:=by
                simp only[yy,gnB,gnD];omega
              have hneg:¬n2<0:=by omega
              have hb:min n2.toNat (IntKind.bits .u64)=n2.toNat:=by simp only[IntKind.bits];omega
              have hw:∀m:Int,IntKind.wrap .u64 m=m % 18446744073709551616:=fun m=>by
                simp only[IntKind.wrap,IntKind.bits,IntKind.signed,kT,gnF,if_false];rfl
              refine⟨.int .u64 ((n1 * 2^n2.toNat) % 18446744073709551616),?_,jd (n:=(n1 * 2^n2.toNat) % 18446744073709551616) e hrr⟩;generalize a.eval=r at *;simp[execOp,heq,hv1,hv2,eqGuard,binOp,Op.shift,hneg,hb,hw]
            · cases hr
          · cases hr
        · cases hr
      rename_i hno3;clear hno3;unfold qrj at h;have hpt:∀{T:TypeId},qis uA T=true→∃e,uA.underlying T=some (.pointer e):=fun{T}ht=>by
        unfold qis at ht;split at ht
        · rename_i e he;exact⟨e,he⟩
        · cases ht
      split at h
      · obtain⟨b0,o0,cs0,e1,-⟩:=h1;have e2:a.eval z=.pointer none:=h2;split at h
        · rename_i ht;obtain⟨e,hu⟩:=hpt ht;have hq:=run_equal_pointer_nil (P:=uA) w T (some ⟨b0,o0,none⟩) (by simp[Program.pointee,hu]);split at h
          · simp only[gnS] at h;obtain⟨rfl,rfl⟩:=h;refine⟨.bool false,?_,y7 rfl⟩;generalize a.eval=r at *;simp[execOp,heq,e1,e2,eqGuard,qhx,hq]
          · simp only[gnS] at h;obtain⟨rfl,rfl⟩:=h;refine⟨.bool true,?_,y7 rfl⟩;generalize a.eval=r at *;simp[execOp,heq,e1,e2,eqGuard,qhp,hq]
          · cases h
        · cases h
      · rename_i pt1 of1 t1;obtain⟨g,hg,e1⟩:=h1;have e2:a.eval z=.pointer none:=h2;split at h
        · rename_i ht;obtain⟨e,hu⟩:=hpt ht;have hq:=run_equal_pointer_nil (P:=uA) w T (some ⟨g,pt1,none⟩) (by simp[Program.pointee,hu]);split at h
          · simp only[gnS] at h;obtain⟨rfl,rfl⟩:=h;refine⟨.bool false,?_,y7 rfl⟩;generalize a.eval=r at *;simp[execOp,heq,e1,e2,eqGuard,qhx,hq]
          · simp only[gnS] at h;obtain⟨rfl,rfl⟩:=h;refine⟨.bool true,?_,y7 rfl⟩;generalize a.eval=r at *;simp[execOp,heq,e1,e2,eqGuard,qhp,hq]
          · cases h
        · cases h
      · have e1:a.eval y=.pointer none:=h1;have e2:a.eval z=.pointer none:=h2;split at h
        · rename_i ht;obtain⟨e,hu⟩:=hpt ht;have hq:=run_equal_pointer_nil (P:=uA) w T none (by simp[Program.pointee,hu]);split at h
          · simp only[gnS] at h;obtain⟨rfl,rfl⟩:=h;refine⟨.bool true,?_,y7 rfl⟩;generalize a.eval=r at *;simp[execOp,heq,e1,e2,eqGuard,qhx,hq]
          · simp only[gnS] at h;obtain⟨rfl,rfl⟩:=h;refine⟨.bool false,?_,y7 rfl⟩;generalize a.eval=r at *;simp[execOp,heq,e1,e2,eqGuard,qhp,hq]
          · cases h
        · cases h
      · rename_i x0 E0 own dep hxx;obtain⟨vs,hp,hc⟩:=h1;have e2:a.eval z=.slice none 0 0:=h2;have hrd:=hc.rd (dep':=own.map (·.2)++dep) (fun x hx=>uB _ hx) (fun x hx=>uC _ hx);have hv:∃A n cap,a.eval y=.slice A n cap∧(A.isNone=true→(x0.ev c.v).rs=[]):=by
          obtain rfl:=qrn rfl hp;cases hd0:x0.ev c.v with
          | r l =>
            rw[hd0] at hrd;obtain⟨E,te,A,cap,e,-,e3,h1',-,-,hR⟩:=hrd;injection e3 with e3;refine⟨A,_,_,e3,fun hA=>?_⟩
            show l=[]
            cases l with
            |nil=>rfl
            | cons d l =>
              cases A with
              |some A=>cases hA
              | none =>
                have:=jg.1 hR 0 (by simp);obtain⟨b,o,cs,e,-⟩:=this;cases e
          | u =>
            rw[hd0] at hrd;obtain⟨E,te,-,-,-,e3⟩:=hrd;injection e3 with e3;exact⟨none,0,0,e3,fun _=>rfl⟩
          |i n=>rw[hd0] at hrd;rcases hrd with⟨k,e,-⟩|⟨e,-⟩<;>cases e
          |b x=>rw[hd0] at hrd;cases hrd.1
          |s x=>rw[hd0] at hrd;cases hrd.1
          |a l=>rw[hd0] at hrd;obtain⟨T',fs0,e1,-⟩:=hrd;cases e1
          |mp l=>rw[hd0] at hrd;obtain⟨K,V,kt,vt,g,es,clock,e1,-⟩:=hrd;cases e1
        obtain⟨A,n,cap,e1,hA⟩:=hv;split at h
        · rename_i ht;obtain⟨e,hu⟩:∃e,uA.underlying T=some (.slice e):=by
            unfold isRow at ht;split at ht
            · rename_i e he;exact⟨e,he⟩
            · cases ht
          have hq:(Op.equal T (.slice A n cap) (.slice none 0 0)).run uA w=.ok A.isNone w:=by
            exact qiq 9999 hu A n cap
          have s1:binOp .eql T (.slice A n cap) (.slice none 0 0)=(do pure (.bool (←Op.equal T (.slice A n cap) (.slice none 0 0)))):=rfl;have s2:binOp .neq T (.slice A n cap) (.slice none 0 0)=(do pure (.bool (!(←Op.equal T (.slice A n cap) (.slice none 0 0))))):=rfl;split at h
          · simp only[gnS] at h;obtain⟨rfl,rfl⟩:=h;refine⟨.bool A.isNone,?_,A.isNone,rfl,fun hb=>hA (by simpa using hb)⟩;generalize a.eval=r at *;simp[execOp,heq,e1,e2,eqGuard,s1,hq]
          · simp only[gnS] at h;obtain⟨rfl,rfl⟩:=h;refine⟨.bool (!A.isNone),?_,!A.isNone,rfl,fun hb=>hA (by simpa using hb)⟩;generalize a.eval=r at *;simp[execOp,heq,e1,e2,eqGuard,s2,hq]
          · cases h
        · cases h
      · cases h
  · cases h
end
end
section
section
variable{w:World}{F:Nat→Prop}
theorem qtl:∀(n:Nat){t:Ty}{d:D}{cs:List Value},qm n t=true→Rd w F d t cs→q91 n t d=some cs:=by
 intro n
 induction n with
 |zero=>intro t d cs h;simp[qm] at h
 | succ n ih =>
  intro t d cs hb h;cases d with
  |u=>obtain⟨E,te,rfl,-⟩:=h;simp[qm] at hb
  |i m=>
   rcases h with⟨k,rfl,rfl,hr⟩|⟨rfl,-⟩
   ·simp[q91,hr]
   ·simp[qm] at hb
  |b x=>obtain⟨rfl,rfl⟩:=h;simp[q91]
  |s x=>obtain⟨rfl,rfl,hs⟩:=h;simp[q91,hs]
  |r l=>obtain⟨E,te,A,cap,rfl,-⟩:=h;simp[qm] at hb
  |mp l=>obtain⟨K,V,kt,vt,g,es,clock,rfl,-⟩:=h;simp[qm] at hb
  | a l =>
   obtain⟨T,fs,rfl,hf,h⟩:=h;simp only[qm,hf] at hb;simp only[q91,hf];clear hf
   induction l generalizing fs cs with
   |nil=>
    obtain⟨rfl,rfl⟩:=h;rfl
   |cons d l ihl=>
    obtain⟨t,ts,c1,c2,rfl,rfl,h1,h2⟩:=h;simp only[kE,gnB] at hb;simp only[q58,ih hb.1 h1,ihl _ h2 hb.2]
theorem qsi(x y:ByteArray):(x==y)=true↔x=y:=by
 cases x with
 |mk a=>cases y with|mk b=>rw[ByteArray.mk.injEq];show(a==b)=true↔a=b;exact beq_iff_eq
theorem qkw{t:Ty}{d:D}{cs:List Value}{v:Value}(hb:qm 8 t=true)(h:Rd w F d t cs)(hp:z4 t cs v):q7a t d=some v:=by
 unfold q7a;rw[qtl 8 hb h];exact qg4.2 hp
theorem qj9{α:Type}{P:Program}:∀(l:List α)(B:α→PUnit→Sem (ForInStep PUnit)),(∀f∈l,(B f PUnit.unit).run P w=.ok (.yield PUnit.unit) w)→(forIn l PUnit.unit B).run P w=.ok PUnit.unit w
 |[],B,_=>by simp
 |f::l,B,h=>by
  rw[List.forIn_cons];simp only[uH,h f (by simp),uE];exact qj9 l B fun g hg=>h g (by simp[hg])
theorem qap:∀{l:List Field}{fs:List Ty}{o:Nat},jr l fs o=true→l.length=fs.length
 |[],[],_,_=>rfl
 |f::l,t::ts,o,h=>by
  simp only[jr,gnB] at h;simp[qap h.2]
 |[],_::_,_,h=>by cases h
 |_::_,[],_,h=>by cases h
theorem q4m(em:Bool):∀(n:Nat){T:TypeId}{t:Ty}{d:D}{c:List Value}{v:Value}(dep:Nat),qc T=some t→qm n t=true→Rd w F d t c→z4 t c v→
  (Instr.checkKey em (dep+n) T v).run uA w=.ok () w:=by
 intro n
 induction n with
 |zero=>intro T t d c v dep h hb;simp[qm] at hb
 | succ n ih =>
  intro T t d c v dep h hb hd hp;rw[show dep+(n+1)=(dep+n)+1 from rfl];cases t with
  |row E=>simp[qm] at hb
  |map K V=>simp[qm] at hb
  |fnv=>simp[qm] at hb
  |int k=>
   cases d<;>simp only[Rd,reduceCtorEq,false_and,exists_false,and_false,or_false,false_or] at hd;obtain⟨k1,e1,rfl,-⟩:=hd;obtain rfl:_=v:=by simpa[z4] using hp
   simp[Instr.checkKey,run_underlying (q07 h).1]
  |bool=>
   cases d<;>simp only[Rd,reduceCtorEq,false_and,exists_false,and_false,or_false,false_or] at hd;obtain⟨e1,rfl⟩:=hd;obtain rfl:_=v:=by simpa[z4] using hp
   simp[Instr.checkKey,run_underlying (q0e h).1]
  |str=>
   cases d<;>simp only[Rd,reduceCtorEq,false_and,exists_false,and_false,or_false,false_or] at hd;obtain⟨e1,rfl,-⟩:=hd;obtain rfl:_=v:=by simpa[z4] using hp
   simp[Instr.checkKey,run_underlying (q04 h).1]
  | st S =>
   obtain⟨fields,fs,zc,i,hu,hf,hfb,hi,hs,hz,hpz,hst,-⟩:=q0j h;cases d<;>simp only[Rd,reduceCtorEq,false_and,exists_false,and_false,or_false,false_or] at hd;rename_i l;obtain⟨S1,fs1,e1,hf1,hl⟩:=hd;injection e1 with e1;subst e1;obtain rfl:=gnI (hf.symm.trans hf1);have hv:v=.agg c.toArray:=hp;subst hv;simp only[qm,hf] at hb;simp only[Instr.checkKey,uH,run_underlying hu,uE];rw[←Array.forIn_toList];refine(congrArg (fun r=>kA r fun a w'=>vR uA (pure ()) w') (qj9 _ _ fun f hmem=>?_)).trans rfl;obtain⟨j,hj,rfl⟩:=List.mem_iff_getElem.1 hmem;have hjf:fields.toList[j]? =some fields.toList[j]:=gnK hj;have hjt:∃t,fs[j]? =some t:=by
    have:=qap hfb;exact⟨fs[j]'(by omega),gnK (by omega)⟩
   obtain⟨t,ht⟩:=hjt;obtain⟨f',hf',ho,hty,hn⟩:=q1y hfb ht;obtain rfl:=gnI (hjf.symm.trans hf');obtain⟨d,c0,c1,c2,-,rfl,h0,hrd⟩:=hl.get ht;obtain⟨v1,hv1,hp1⟩:=q1z (c0:=c0) (c2:=c2) (o:=(fields.toList[j]).offset) hty (by omega) hrd;have hfl:=uG.1 hb t (vB ht);have hq:=ih dep hty hfl hrd hp1;rw[if_pos hn];simp only[uH,hv1,uE,hq,uL]
def fsD(kd:D):List D→List MapEntry→Nat→Option (Nat×Value)
 |p::l,e::es,i=>if kd=p.fld 0 then some (i,e.val) else fsD kd l es (i+1)
 |_,_,_=>none
def qp6(kt:Ty):List D→List MapEntry→Prop
 |[],[]=>True
 |p::l,e::es=>(∃k v,p=.a [k,v]∧q7a kt k=some e.key)∧qp6 kt l es
 |_,_=>False
theorem q2r.keys{kt vt:Ty}:∀{l:List D}{es:List MapEntry},q2r kt vt l es→qp6 kt l es
 |[],[],_=>trivial
 |p::l,e::es,⟨⟨k,v,hp,hk,hv⟩,h⟩=>⟨⟨k,v,hp,hk⟩,q2r.keys h⟩
 |[],_::_,h=>h.elim
 |_::_,[],h=>h.elim
theorem qj2{kt vt:Ty}(hb:qm 8 kt=true):∀{l:List D}{es:List MapEntry},RdM w F l kt vt es→qp6 kt l es
 |[],es,h=>by rw[show es=[] from h];trivial
 |p::l,es,⟨e,r,h1,hk,h2⟩=>by
  subst h1;obtain⟨k,v,ck,cv,rfl,q1,q2,q3,q4⟩:=qh5.1 hk;exact⟨⟨k,v,rfl,qkw hb q1 q2⟩,qj2 hb h2⟩
theorem q6l{K:TypeId}{kt:Ty}(hK:qc K=some kt)(hb:qm 8 kt=true){kd:D}{c:List Value}{v:Value}(hd:Rd w F kd kt c)(hp:z4 kt c v):
  ∀{l:List D}{es:List MapEntry}(i:Nat),qp6 kt l es→(Instr.findAsking K v es i).run uA w=.ok (fsD kd l es i) w
 |[],[],i,_=>by simp[Instr.findAsking,fsD]
 | p :: l, e :: es, i, ⟨⟨k, x, hp0, hk⟩, h⟩ => by
  subst hp0;obtain⟨c',hd',hp'⟩:=qhu (w:=w) (F:=F) hk;have he:(Op.equal K v e.key).run uA w=.ok (decide (kd=k)) w:=q8m (w:=w) 8 9992 hK hb hd hd' hp hp';simp only[Instr.findAsking,uH,he,uE,fsD];by_cases hkk:kd=k
  ·subst hkk;simp[D.fld,D.fs]
  ·have:¬kd=D.fld (.a [k,x]) 0:=hkk;rw[if_neg this];simp only[hkk,decide_false,gnF,if_false];exact q6l hK hb hd hp (i+1) h
 |[],_::_,i,h=>h.elim
 |_::_,[],i,h=>h.elim
theorem qd2{K:TypeId}{kt:Ty}(hK:qc K=some kt)(hb:qm 8 kt=true){kd:D}{c:List Value}{v:Value}(hd:Rd w F kd kt c)(hp:z4 kt c v){desc:TypeDesc}(hu:uA.underlying K=some desc):
  ∀{l:List D}{es:List MapEntry}(i:Nat),qp6 kt l es→Instr.findNow desc v es i=none∨Instr.findNow desc v es i=some (fsD kd l es i)
 |[],[],i,_=>.inr (by simp[Instr.findNow,fsD])
 | p :: l, e :: es, i, ⟨⟨k, x, hp0, hk⟩, h⟩ => by
  subst hp0;obtain⟨c',hd',hp'⟩:=qhu (w:=w) (F:=F) hk;have ih:=qd2 hK hb hd hp hu (i+1) h;have hsame:Instr.sameNow desc v e.key=none∨Instr.sameNow desc v e.key=some (decide (kd=k)):=by
   cases kt with
   |row E=>simp[qm] at hb
   |map K V=>simp[qm] at hb
   |fnv=>simp[qm] at hb
   |int k0=>
    cases kd<;>simp only[Rd,reduceCtorEq,false_and,exists_false,and_false,or_false,false_or] at hd;cases k<;>simp only[Rd,reduceCtorEq,false_and,exists_false,and_false,or_false,false_or] at hd';obtain⟨k1,e1,rfl,-⟩:=hd;obtain⟨k2,e2,rfl,-⟩:=hd';injection e1 with e1;injection e2 with e2;subst e1 e2;obtain rfl:_=v:=by simpa[z4] using hp
    simp only[z4,List.cons.injEq,and_true] at hp';rw[←hp'];have:=(q07 hK).1;rw[hu] at this;injection this with this;subst this;refine .inr ?_;simp only[Instr.sameNow,if_true]
    congr 1
    rw[uK];simp
   |bool=>
    cases kd<;>simp only[Rd,reduceCtorEq,false_and,exists_false,and_false,or_false,false_or] at hd;cases k<;>simp only[Rd,reduceCtorEq,false_and,exists_false,and_false,or_false,false_or] at hd';obtain⟨e1,rfl⟩:=hd;obtain⟨e2,rfl⟩:=hd';obtain rfl:_=v:=by simpa[z4] using hp
    simp only[z4,List.cons.injEq,and_true] at hp';rw[←hp'];have:=(q0e hK).1;rw[hu] at this;injection this with this;subst this;refine .inr ?_;simp only[Instr.sameNow]
    congr 1
    rw[uK];simp
   |str=>
    cases kd<;>simp only[Rd,reduceCtorEq,false_and,exists_false,and_false,or_false,false_or] at hd;cases k<;>simp only[Rd,reduceCtorEq,false_and,exists_false,and_false,or_false,false_or] at hd';obtain⟨e1,rfl,-⟩:=hd;obtain⟨e2,rfl,-⟩:=hd';obtain rfl:_=v:=by simpa[z4] using hp
    simp only[z4,List.cons.injEq,and_true] at hp';rw[←hp'];have:=(q04 hK).1;rw[hu] at this;injection this with this;subst this;refine .inr ?_;simp only[Instr.sameNow]
    congr 1
    rw[uK];rw[qsi];simp
   |st S=>
    obtain⟨fields,fs,zc,i,hu',-⟩:=q0j hK;rw[hu] at hu';injection hu' with hu';subst hu';exact .inl (by simp[Instr.sameNow])
  rcases hsame with h1|h1
  ·exact .inl (by simp[Instr.findNow,h1])
  ·simp only[Instr.findNow,h1,fsD];by_cases hkk:kd=k
   ·have:kd=D.fld (.a [k,x]) 0:=hkk;rw[if_pos this];simp[hkk]
   ·have:¬kd=D.fld (.a [k,x]) 0:=hkk;rw[if_neg this];simp only[hkk,decide_false];exact ih
 |[],_::_,i,h=>h.elim
 |_::_,[],i,h=>h.elim
theorem q73{K:TypeId}{kt:Ty}(hK:qc K=some kt)(hb:qm 8 kt=true){kd:D}{c:List Value}{v:Value}(hd:Rd w F kd kt c)(hp:z4 kt c v){l:List D}{es:List MapEntry}(h:qp6 kt l es):
  (Instr.findKey K v es).run uA w=.ok (fsD kd l es 0) w:=by
 have hdesc:∃desc,uA.underlying K=some desc:=by
  cases kt with
  |row E=>exact⟨_,(yi hK).1⟩
  |map K V=>exact⟨_,(q3b hK).1⟩
  |fnv=>obtain⟨⟨a,b,c,hu⟩,-⟩:=qce hK;exact⟨_,hu⟩
  |int k=>exact⟨_,(q07 hK).1⟩
  |bool=>exact⟨_,(q0e hK).1⟩
  |str=>exact⟨_,(q04 hK).1⟩
  |st S=>obtain⟨fields,fs,zc,i,hu',-⟩:=q0j hK;exact⟨_,hu'⟩
 obtain⟨desc,hu⟩:=hdesc;simp only[Instr.findKey,uH,run_underlying hu,uE];rcases qd2 hK hb hd hp hu 0 h with h1|h1
 ·rw[h1];exact q6l hK hb hd hp 0 h
 ·rw[h1];simp
theorem qcg{kt vt:Ty}{kd:D}:∀{l:List D}{es:List MapEntry}{i:Nat},q2r kt vt l es→(fsD kd l es i=none∧mfind kd l=none)∨∃j e x,fsD kd l es i=some (i+j,e.val)∧es[j]? =some e∧q7a kt kd=some e.key∧mfind kd l=some x∧q7a vt x=some e.val
 |[],[],i,_=>.inl ⟨rfl,rfl⟩
 | p :: l, e :: es, i, ⟨⟨k, x, hp0, hk, hx⟩, h⟩ => by
  subst hp0;by_cases hkk:kd=k
  ·subst hkk;exact .inr ⟨0,e,x,by simp[fsD,D.fld,D.fs],rfl,hk,by simp[mfind,D.fld,D.fs],hx⟩
  ·have h1:¬kd=D.fld (.a [k,x]) 0:=hkk;have h2:¬D.fld (.a [k,x]) 0=kd:=fun e=>hkk e.symm;simp only[fsD,if_neg h1,mfind,if_neg h2];rcases qcg (i:=i+1) h with⟨a,b⟩|⟨j,e',y,a,b,c,d,f⟩
   ·exact .inl ⟨a,b⟩
   ·exact .inr ⟨j+1,e',y,by rw[a];congr 2;omega,by simpa using b,c,d,f⟩
 |[],_::_,i,h=>h.elim
 |_::_,[],i,h=>h.elim
theorem qrq{kt vt:Ty}{kd:D}:∀{l:List D}{es:List MapEntry}{i:Nat},RdM w F l kt vt es→(fsD kd l es i=none∧mfind kd l=none)∨∃j x y cv,fsD kd l es i=some (i+j,y)∧mfind kd l=some x∧Rd w F x vt cv∧z4 vt cv y
 |[],es,i,h=>by rw[show es=[] from h];exact .inl ⟨rfl,rfl⟩
 | p :: l, es, i, ⟨e, r, h1, hk, h2⟩ => by
  subst h1;obtain⟨k,x,ck,cv,rfl,q1,q2,q3,q4⟩:=qh5.1 hk;by_cases hkk:kd=k
  ·subst hkk;exact .inr ⟨0,x,e.val,cv,by simp[fsD,D.fld,D.fs],by simp[mfind,D.fld,D.fs],q3,q4⟩
  ·have h1:¬kd=D.fld (.a [k,x]) 0:=hkk;have h3:¬D.fld (.a [k,x]) 0=kd:=fun e=>hkk e.symm;simp only[fsD,if_neg h1,mfind,if_neg h3];rcases qrq (i:=i+1) h2 with⟨a,b⟩|⟨j,z,y,cv',a,b,c,d⟩
   ·exact .inl ⟨a,b⟩
   ·exact .inr ⟨j+1,z,y,cv',by rw[a];congr 2;omega,b,c,d⟩
theorem qk5{kt vt:Ty}{kd xd:D}{kv xv:Value}(hk:q7a kt kd=some kv)(hx:q7a vt xd=some xv):∀{l:List D}{es:List MapEntry},q2r kt vt l es→mfind kd l=none→∀b,q2r kt vt (mset kd xd l) (es++[{key:=kv,val:=xv,born:=b}])
 |[],[],_,_,b=>⟨⟨kd,xd,rfl,hk,hx⟩,trivial⟩
 | p :: l, e :: es, ⟨⟨k, x, hp0, hk', hx'⟩, h⟩, hn, b => by
  subst hp0;by_cases hkk:k=kd
  ·exfalso;have:D.fld (.a [k,x]) 0=kd:=hkk;simp[mfind,this] at hn
  ·have h2:¬D.fld (.a [k,x]) 0=kd:=hkk;simp only[mfind,if_neg h2] at hn;simp only[mset,if_neg h2];exact⟨⟨k,x,rfl,hk',hx'⟩,qk5 hk hx h hn b⟩
 |[],_::_,h,_,_=>h.elim
 |_::_,[],h,_,_=>h.elim
theorem qje{kt vt:Ty}{kd xd:D}{kv xv:Value}(hk:q7a kt kd=some kv)(hx:q7a vt xd=some xv):∀{l:List D}{es:List MapEntry}{i j:Nat}{v:Value},q2r kt vt l es→fsD kd l es i=some (i+j,v)→q2r kt vt (mset kd xd l) (es.modify j fun e=>{e with key:=kv,val:=xv})
 |[],[],i,j,v,_,h=>by simp[fsD] at h
 | p :: l, e :: es, i, j, v, ⟨⟨k, x, hp0, hk', hx'⟩, h⟩, hf => by
  subst hp0;by_cases hkk:kd=k
  ·have h1:kd=D.fld (.a [k,x]) 0:=hkk;have h2:D.fld (.a [k,x]) 0=kd:=hkk.symm;simp only[fsD,if_pos h1,gnS] at hf;obtain rfl:j=0:=by omega
   simp only[mset,if_pos h2]
   show q2r kt vt _ ({e with key:=kv,val:=xv}::es)
   exact⟨⟨kd,xd,rfl,hk,hx⟩,h⟩
  ·have h1:¬kd=D.fld (.a [k,x]) 0:=hkk;have h2:¬D.fld (.a [k,x]) 0=kd:=fun e=>hkk e.symm;simp only[fsD,if_neg h1] at hf;have hj:∃m,j=m+1:=by
    rcases qcg (i:=i+1) (kd:=kd) h with⟨a,-⟩|⟨m,e',y,a,-⟩
    ·rw[a] at hf;cases hf
    ·rw[a] at hf;injection hf with hf;injection hf with hf;exact⟨m,by omega⟩
   obtain⟨m,rfl⟩:=hj;simp only[mset,if_neg h2]
   show q2r kt vt _ (e::es.modify m fun e=>{e with key:=kv,val:=xv})
   exact⟨⟨k,x,rfl,hk',hx'⟩,qje hk hx (i:=i+1) (j:=m) (v:=v) h (by rw[hf];congr 2;omega)⟩
 |[],_::_,_,_,_,h,_=>h.elim
 |_::_,[],_,_,_,h,_=>h.elim
theorem q5z{T:TypeId}{t:Ty}(h:qc T=some t)(w:World)(F:Nat→Prop):∃v vs,(zeroValue T).run uA w=.ok v w∧z4 t vs v∧(q36 t=false→Rd w F (q0p 8 t) t vs)∧vs.length=t.w∧v.cells=vs.toArray:=by
 cases t with
 |int k=>
  obtain⟨hr0,i,hi,-,hz⟩:=(q07 h).2;exact⟨.int k 0,[.int k 0],by simp[zeroValue,typeInfo,hi,hz],rfl,fun _=>.inl ⟨k,rfl,rfl,hr0⟩,rfl,rfl⟩
 |fnv=>
  obtain⟨-,i,hi,-,hz⟩:=qce h;exact⟨.nilFunc,[.nilFunc],by simp[zeroValue,typeInfo,hi,hz],rfl,fun _=>.inr ⟨rfl,rfl⟩,rfl,rfl⟩
 |bool=>
  obtain⟨i,hi,-,hz⟩:=(q0e h).2;exact⟨.bool false,[.bool false],by simp[zeroValue,typeInfo,hi,hz],rfl,fun _=>⟨rfl,rfl⟩,rfl,rfl⟩
 |str=>
  obtain⟨i,hi,-,hz⟩:=(q04 h).2;exact⟨.string ⟨#[]⟩,[.string ⟨#[]⟩],by simp[zeroValue,typeInfo,hi,hz],rfl,fun _=>⟨rfl,rfl,by simp[LIM,ByteArray.size]⟩,rfl,rfl⟩
 |row E=>
  obtain⟨-,⟨te,hte⟩,i,hi,-,hz⟩:=yi h;exact⟨.slice none 0 0,[.slice none 0 0],by simp[zeroValue,typeInfo,hi,hz],rfl,fun _=>⟨E,te,none,0,rfl,hte,rfl,by simp,by simp,by simp[maxLen],by simp[RdE]⟩,rfl,rfl⟩
 |map K V=>
  obtain⟨-,-,-,i,hi,-,hz⟩:=q3b h;exact⟨.map none,[.map none],by simp[zeroValue,typeInfo,hi,hz],rfl,fun hm=>(by cases hm),rfl,rfl⟩
 |st S=>
  obtain⟨fields,fs,zc,i,hu,hf,hfb,hi,hs,hz,hpz,-⟩:=q0j h;obtain⟨c1,e1,hrd⟩:=qke w F 8 hpz;have e2:c1=zc.toList:=by simpa using e1.symm
  subst e2;exact⟨.agg zc,zc.toList,by simp[zeroValue,typeInfo,hi,hz],by simp[z4],fun _=>hrd,(Rd.len _ hrd).1,by simp[Value.cells]⟩
end
end
section
section
variable{A:Bk}{c:Cx}{p:qe}{w:World}{a:Act}{σ:St}{cs:List (X×Bool)}{o:Oper}{F:Nat→Prop}
theorem qqy{K V:TypeId}{own:List (Nat×Nat)}{dep:List Nat}{d:D}{vs:List Value}(hcon:Con A p w d (.map K V) own dep vs):
  ∃l kt vt g es clock,d=.mp l∧qc K=some kt∧qc V=some vt∧vs=[.map (some g)]∧w.heap[g]? =some (.map es clock)∧RdM w (FFD A p (dep++own.map (·.2))) l kt vt es.toList:=by
 have h:=hcon.rd (dep':=dep++own.map (·.2)) (fun x hx=>uC _ hx) (fun x hx=>uB _ hx);cases d with
 |mp l=>
  obtain⟨K',V',kt,vt,g,es,clock,e,h1,h2,h3,h4,h5,h6⟩:=h;injection e with e1 e2;subst e1 e2;exact⟨l,kt,vt,g,es,clock,rfl,h1,h2,h3,h5,h6⟩
 |u=>obtain⟨E,te,e,-⟩:=h;cases e
 |i n=>rcases h with⟨k,e,-⟩|⟨e,-⟩<;>cases e
 |b x=>cases h.1
 |s x=>cases h.1
 |r l=>obtain⟨E,te,A,cap,e,-⟩:=h;cases e
 |a l=>obtain⟨T',fs0,e1,-⟩:=h;cases e1
theorem qfo{T K V:TypeId}{kt vt:Ty}(hT:qc T=some (.map K V))(hK:qc K=some kt)(hV:qc V=some vt)(hbk:qm 8 kt=true)(hbv:q36 vt=false){g clock:Nat}{es:Array MapEntry}(hg:w.heap[g]? =some (.map es clock)){l:List D}(hl:RdM w F l kt vt es.toList){kd:D}{vs:List Value}{v:Value}(hd:Rd w F kd kt vs)(hp:z4 kt vs v)(ok:Bool):
  ∃x xs,(Instr.lookup T (.map (some g)) v ok).run uA w=.ok (if ok then .tuple #[x,.bool (mfind kd l).isSome] else x) w∧z4 vt xs x∧Rd w F ((mfind kd l).getD (q0p 8 vt)) vt xs:=by
 have hck:(Instr.checkKey es.isEmpty 10000 K v).run uA w=.ok () w:=q4m es.isEmpty 8 9992 hK hbk hd hp;have hfk:=q73 hK hbk hd hp (qj2 hbk hl);have hu:=(q3b hT).1;rcases qrq (i:=0) (kd:=kd) hl with⟨h1,h2⟩|⟨j,x,y,cv,h1,h2,h3,h4⟩
 ·obtain⟨zv,zvs,hzr,hzp,hzrd,-,-⟩:=q5z hV w F;refine⟨zv,zvs,?_,hzp,by rw[h2];exact hzrd hbv⟩;rw[h1] at hfk;cases ok<;>simp[Instr.lookup,run_underlying hu,MapKept.run_getObj_map hg,hck,hfk,hzr,kA,h2]
 ·refine⟨y,cv,?_,h4,by rw[h2];exact h3⟩;rw[h1] at hfk;cases ok<;>simp[Instr.lookup,run_underlying hu,MapKept.run_getObj_map hg,hck,hfk,kA,h2]
theorem z4.one1{K V:TypeId}{g:Nat}{v:Value}(h:z4 (.map K V) [.map (some g)] v):v=.map (some g):=by
 have:[Value.map (some g)]=[v]:=h;injection this with this;exact this.symm
theorem qt9(hf:SF c σ p w a)(hc:hold c.v cs=true){T:TypeId}{m k:Operand}{ok:Bool}(heq:o.op=.lookup T m k ok){ns:List X}{x:AV}(h:quiet uA σ cs o=some (ns,x)):q1b o a c p w x:=by
 simp only[quiet,heq] at h;split at h
 ·rename_i K V hT;split at h
  ·rename_i kt vt hK hV;split at h
   ·rename_i hb;simp only[gnB,uT] at hb;split at h
    ·rename_i am ak hm hk;have h1:=qd hf hc hm;have h2:=qd hf hc hk;unfold qws at h;split at h
     ·rename_i xm K' V' ownm depm xk kt' ownk depk;split at h
      ·rename_i hok;simp only[gnB] at hok;obtain⟨e1,e2,e3⟩:=hok;have e1:=gnN e1;have e2:=gnN e2;rw[Ty.beq_iff] at e3;subst e1 e2 e3;simp only[gnS] at h;obtain⟨rfl,rfl⟩:=h;obtain⟨cm,hpm,hcm⟩:=h1;obtain⟨ck,hpk,hck⟩:=h2;obtain⟨l,kt1,vt1,g,es,clock,hev,hK1,hV1,rfl,hg,hl⟩:=qqy hcm;obtain rfl:=gnI (hK1.symm.trans hK);obtain rfl:=gnI (hV1.symm.trans hV);have hmv:=z4.one1 hpm;have hrk:=hck.rd (dep':=depk++ownk.map (·.2)) (fun x hx=>uC _ hx) (fun x hx=>uB _ hx);have hrk0:Rd w (FFD c.A p (depm++ownm.map (·.2))) (xk.ev c.v) kt1 ck:=Rd.flat 8 _ hb.1 hrk;obtain⟨x,xs,hr,hxp,hxr⟩:=qfo hT hK hV hb.1 hb.2 hg hl hrk0 hpk ok;have hfn:(mfind (xk.ev c.v) l).getD (q0p 8 vt1)=(X.fn 0 [xm,xk,.lit (q0p 8 vt1)]).ev c.v:=by
        show _=(mfind (xk.ev c.v) (xm.ev c.v).ms).getD (q0p 8 vt1)
        rw[hev];rfl
       have hfn1:D.b (mfind (xk.ev c.v) l).isSome=(X.fn 1 [xm,xk]).ev c.v:=by
        show _=D.b (mfind (xk.ev c.v) (xm.ev c.v).ms).isSome
        rw[hev];rfl
       have hget:(qlk vt1 xm xk (depm++ownm.map (·.2))).pd c p w x:=⟨xs,hxp,(Con.of_rd (by rw[←hfn];exact hxr)).depF⟩;refine⟨if ok then .tuple #[x,.bool (mfind (xk.ev c.v) l).isSome] else x,?_,?_⟩
       ·generalize a.eval=r at *;simp[execOp,heq,hmv,hr]
       ·cases ok with
        |false=>exact hget
        |true=>exact⟨[x,.bool _],rfl,x,_,rfl,hget,_,_,rfl,y7 hfn1.symm,rfl⟩
      ·cases h
     ·cases h
    ·cases h
   ·cases h
  ·cases h
 ·cases h
theorem qu7{T K V:TypeId}(hT:qc T=some (.map K V)){y:AV}{v:Value}(hy:y.pd c p w v){ns:List X}{x:AV}(h:qlo K V y=some (ns,x))(hn:∀n∈ns,n.says c.v)(ty:TypeId):
  ∃u,(uU #[T] ty #[v]).run uA w=.ok u w∧x.pd c p w u:=by
 unfold qlo at h;split at h
 ·rename_i xm K' V' ownm depm;split at h
  ·rename_i hok;simp only[gnB] at hok;have e1:=gnN hok.1;have e2:=gnN hok.2;subst e1 e2;simp only[gnS] at h;obtain⟨rfl,rfl⟩:=h;obtain⟨cm,hpm,hcm⟩:=hy;obtain⟨l,kt1,vt1,g,es,clock,hev,hK1,hV1,rfl,hg,hl⟩:=qqy hcm;obtain rfl:=z4.one1 hpm;have hu:=(q3b hT).1;have hlen:=qo0 hl;have hr:=q4v (k:=.i64) (x:=.fn 3 [xm]) (hn _ (by simp));have hev3:(X.fn 3 [xm]).ev c.v=.i (es.size:Nat):=by
    show D.i ((xm.ev c.v).ms.length:Nat)=_
    rw[hev]
    show D.i (l.length:Nat)=_
    rw[hlen,Array.length_toList]
   rw[hev3] at hr;exact⟨.int .i64 es.size,by simp[uU,run_underlying hu,MapKept.run_getObj_map hg,goInt,kA],jd hev3 hr⟩
  ·cases h
 ·cases h
end
end
section
section
variable{c:Cx}{p:qe}{w:World}{a:Act}{σ:St}{cs:List (X×Bool)}{o:Oper}
theorem q7v{T E:TypeId}{te:Ty}(h:qc T=some (.row E))(hte:qc E=some te)(A:Option Addr)(len cap:Nat)(lo hi:Option (IntKind×Int)){l m:Nat}
  (hlo:match lo with|none=>l=0|some (_,i)=>i=l)(hhi:match hi with|none=>m=len|some (_,i)=>i=m)(h1:l≤m)(h2:m≤cap):
  (Instr.sliceAt T (.slice A len cap) (lo.map fun x=>.int x.1 x.2) (hi.map fun x=>.int x.1 x.2) none).run uA w=.ok (.slice (if cap=l then A else A.map (·.add (l * te.w))) (m - l) (cap - l)) w:=by
 have hu:=(yi h).1;cases lo with
 | none =>
  simp only at hlo;subst hlo;cases hi with
  |none=>
   simp only at hhi;subst hhi;simp[Instr.sliceAt,Instr.slice,run_underlying hu,Instr.sliceBounds,y6 hte]
  |some y=>
   obtain⟨k,i⟩:=y;simp only at hhi;subst hhi;have h3:(m:Int)≤cap:=by omega
   simp[Instr.sliceAt,Instr.slice,run_underlying hu,Instr.sliceBounds,run_sliceBound,y6 hte,h2]
 | some x =>
  obtain⟨k',i'⟩:=x;simp only at hlo;subst hlo;cases hi with
  |none=>
   simp only at hhi;subst hhi;simp[Instr.sliceAt,Instr.slice,run_underlying hu,Instr.sliceBounds,run_sliceBound,y6 hte,h1]
  |some y=>
   obtain⟨k,i⟩:=y;simp only at hhi;subst hhi;simp[Instr.sliceAt,Instr.slice,run_underlying hu,Instr.sliceBounds,run_sliceBound,y6 hte,h1,h2]
theorem RdE.cut{F:Nat→Prop}{te:Ty}{l:List D}{A:Option Addr}{lo hi cap:Nat}(h:RdE w F l te A 0)(h1:lo≤hi)(h2:hi≤l.length)(h3:l.length≤cap):
  RdE w F ((l.take hi).drop lo) te (if cap=lo then A else A.map (·.add (lo * te.w))) 0:=by
 rw[jg] at h⊢;intro j hj;simp at hj;have hlt:lo+j<l.length:=by omega
 obtain⟨b,o,vs,rfl,hF,hr,hd⟩:=h (lo+j) hlt;rw[kH] at hr;rw[if_neg (by omega)];refine⟨b,o+lo * te.w,vs,by simp[Addr.mid_eq],hF,?_,?_⟩
 ·rw[kH,kF,←vQ];exact hr
 ·simpa using hd
theorem qnu{E:TypeId}{te:Ty}(hte:qc E=some te){xr xl xh:X}{own:List (Nat×Nat)}{dep:List Nat}{A:Option Addr}{cap l m:Nat}(hcon:Con c.A p w (xr.ev c.v) (.row E) own dep [.slice A (xr.ev c.v).rs.length cap])
  (hl:xl.ev c.v=.i l)(hm:xh.ev c.v=.i m)(h1:l≤m)(h2:m≤(xr.ev c.v).rs.length):
  Con c.A p w ((X.cut xr xl xh).ev c.v) (.row E) [] (own.map (·.2)++dep) [.slice (if cap=l then A else A.map (·.add (l * te.w))) (m - l) (cap - l)]:=by
 obtain⟨te',A',cap',hte',hd,hev,h3,h4,h5,hE⟩:=hcon.row;injection hev with e1 _ e2;subst e1 e2;obtain rfl:=gnI (hte'.symm.trans hte);refine Con.of_rd ?_;have hx:(X.cut xr xl xh).ev c.v=.r (((xr.ev c.v).rs.take m).drop l):=by
  show D.r _=_
  rw[hl,hm];simp[D.int]
 rw[hx];have hlen:(((xr.ev c.v).rs.take m).drop l).length=m - l:=by simp;omega
 refine⟨E,te',_,cap - l,rfl,hte,by rw[hlen],by rw[hlen];omega,by rw[hlen];omega,by omega,hE.cut h1 h2 h3⟩
theorem qrh{A0:Bk}{d:D}{E:TypeId}{own:List (Nat×Nat)}{dep:List Nat}{A:Option Addr}{len cap pin:Nat}(h:Con A0 p w d (.row E) own dep [.slice A len cap])(ho:lkA own 0=some pin)(h0:0<len):∃g,p pin=some g∧A=some ⟨g,0,none⟩:=by
 have hcf:Fl A0 p w dep (lkA own 0) d (.row E) [.slice A len cap]:=h;rw[ho] at hcf;rcases hcf.symm with⟨K,V,kt,vt,lm,gm,es,clock,em,-⟩|⟨E1,te1,l1,v1,q1,q2,q3,q4,q5⟩
 ·cases em
 injection q4 with q4;subst q4;rcases q5 with⟨r1,rfl⟩|⟨g,cap',cur,r1,r2,r3,r4,r5,r6,r7,r8⟩
 ·injection r1 with r1 r2 r3;omega
 ·injection r1 with r1 r9 r10;exact⟨g,r2,r1⟩
theorem qu4(hf:SF c σ p w a)(hc:hold c.v cs=true){T:TypeId}{y:Operand}{lo hi:Option Operand}(heq:o.op=.slice T y lo hi none){b1:AV}(h1:opd σ cs y=some b1){ns:List X}{x:AV}(h:qsn uA T lo hi b1=some (ns,x)):q1b o a c p w x:=by
 unfold qsn at h;split at h
 ·rename_i k T' n E xs dep;split at h
  ·rename_i hok;simp only[gnB,kO] at hok;obtain⟨rfl,rfl,hT,hx0,hx1,hE⟩:=hok;obtain⟨te,hte⟩:=uM.1 hE;simp only[gnS] at h;obtain⟨rfl,rfl⟩:=h;have hx0:0<xs.length:=by simpa[uZ] using hx0
   have hx1:xs.length<1000:=by simpa[uZ] using hx1
   obtain⟨g,cells,⟨hp,-⟩,hev,hh,-,har⟩:=qd hf hc h1;have hcut:(Instr.sliceAt T (.pointer (some ⟨g,0,none⟩)) none none none).run uA w=.ok (.slice (some ⟨g,0,none⟩) xs.length xs.length) w:=by
    simp only[Instr.sliceAt,Instr.sliceBounds,uH,uL,run_underlying (qno hT),uE,Instr.sureAddr,y6 hte];rw[if_neg (by omega)];simp[Addr.add]
   have hl2:(X.evs c.v xs).length=xs.length:=q1e xs;have hkey:∀dep':List Nat,(∀x∈k * 16::dep,x∈dep')→Rd w (FFD c.A p dep') (.r (X.evs c.v xs)) (.row E) [.slice (some ⟨g,0,none⟩) xs.length xs.length]:=fun dep' hd'=>by
    refine⟨E,te,some ⟨g,0,none⟩,xs.length,rfl,hte,by rw[hl2],by omega,?_,?_,jg.2 fun j hj=>?_⟩
    ·rw[hl2];exact qx2 hte (by omega)
    ·unfold maxLen;omega
    ·obtain⟨vs,hr,hrd⟩:=qlc.at har hh hte (m:=j) (by omega);refine⟨g,0,vs,rfl,(FFD.one (dep:=dep) hp).mono hd',by simpa using hr,?_⟩;rw[gnG,gnK hj] at hrd;exact hrd.mono fun b _ hb=>hb.mono fun x hx=>hd' x (uD _ hx)
   refine⟨.slice (some ⟨g,0,none⟩) xs.length xs.length,?_,[_],rfl,hkey _ fun x hx=>hx⟩;generalize a.eval=r at *;simp only[execOp,heq,hev,kL,uH,hcut,uE,uL]
  ·cases h
 ·cases h
theorem qvt(hf:SF c σ p w a)(hc:hold c.v cs=true){T:TypeId}{y:Operand}{lo hi mx:Option Operand}(heq:o.op=.slice T y lo hi mx){ns:List X}{x:AV}(h:quiet uA σ cs o=some (ns,x))(hn:∀n∈ns,n.says c.v):q1b o a c p w x:=by
 cases mx with
 |some m=>simp only[quiet,heq] at h;cases h
 | none =>
  simp only[quiet,heq] at h;split at h
  ·rename_i hnc;simp only[gnS] at h;obtain⟨rfl,rfl⟩:=h;unfold qrx at hnc;split at hnc
   ·rename_i E hh hT hx0;split at hnc
    ·rename_i k _ _ hh0;obtain⟨-,⟨te,hte⟩,-⟩:=yi hT;have hxv:a.eval y=.slice none 0 0:=qd hf hc hx0;obtain⟨m,hm,hmv,hmr⟩:=zt (qd hf hc hh0);have hm0:m=0:=by
      have:D.i 0=D.i m:=hm;injection this with this;exact this.symm
     subst hm0;have:=q7v (w:=w) (l:=0) (m:=0) hT hte none 0 0 none (some (k,0)) rfl rfl (uO _) (uO _);refine⟨.slice none 0 0,?_,rfl⟩;generalize a.eval=r at *;simp only[execOp,heq,hxv,hmv,kL,Option.map_some,uH] at this⊢;rw[this];rfl
    ·cases hnc
   ·cases hnc
  split at h
  ·rename_i E hT;obtain⟨-,⟨te,hte⟩,-⟩:=yi hT;split at h
   ·rename_i xr own dep hy;obtain⟨y',hy1,hy2⟩:=uQ.1 hy;have hcon:=q20 hte hy2 (qd hf hc hy1);obtain⟨te',A,cap,hte',hd,hev,h1,h2,h3,hE⟩:=hcon.row;rw[hev] at hcon
    have fin:∀(lo' hi':Option (IntKind×Int))(l m:Nat),lo.map a.eval=lo'.map (fun x=>Value.int x.1 x.2)→hi.map a.eval=hi'.map (fun x=>Value.int x.1 x.2)→
      (match lo' with|none=>l=0|some (_,i)=>i=l)→(match hi' with|none=>m=(xr.ev c.v).rs.length|some (_,i)=>i=m)→l≤m→m≤(xr.ev c.v).rs.length→
      (execOp a.eval o).run uA w=.ok (.value (.slice (if cap=l then A else A.map (·.add (l * te.w))) (m - l) (cap - l))) w:=fun lo' hi' l m e1 e2 h3 h4 h5 h6=>by
     have:=q7v (w:=w) hT hte A (xr.ev c.v).rs.length cap lo' hi' h3 h4 h5 (by omega);generalize a.eval=r at *;simp only[execOp,heq,hev,e1,e2,kL,uH,this,uE,uL]
    split at h
    ·simp only[gnS] at h;obtain⟨rfl,rfl⟩:=h;refine⟨_,fin none none 0 _ rfl rfl rfl rfl (kB _) (uO _),[_],rfl,?_⟩;have e0:(if cap=0 then A else A.map (·.add (0 * te.w)))=A:=by
      split
      ·rfl
      ·cases A with
       |none=>rfl
       |some ad=>simp[Addr.add]
     rw[e0,kI,kI];exact hcon
    ·rename_i hop;split at h
     ·rename_i xh k _ _ hh;simp only[gnS] at h;obtain⟨rfl,rfl⟩:=h;obtain⟨m,hm,hmv,hmr⟩:=zt (qd hf hc hh);have n1:=zq (x:=.lit (.i 0)) (y:=xh) (hn _ (by simp));have n2:=zq (x:=xh) (y:=q2l xr) (hn _ (by simp));rw[hm] at n1 n2;rw[q05] at n2;simp only[X.ev,D.int] at n1 n2;obtain⟨m',rfl⟩:=uS n1;have h2':m'≤(xr.ev c.v).rs.length:=by omega
      refine⟨_,fin none (some (k,m')) 0 m' rfl (by simp[hmv]) rfl rfl (kB _) h2',[_],rfl,?_⟩;have e0:(if cap=0 then A else A.map (·.add (0 * te.w)))=A:=by
       split
       ·rfl
       ·cases A with
        |none=>rfl
        |some ad=>simp[Addr.add]
      rw[e0,kI,kI];have hx:(X.cut xr (.lit (.i 0)) xh).ev c.v=.r ((xr.ev c.v).rs.take m'):=by
       show D.r _=_
       rw[hm];simp[D.int,X.ev]
      show Con c.A p w _ (.row E) own dep _
      rw[hx];have hcf:Fl c.A p w dep (lkA own 0) (xr.ev c.v) (.row E) [.slice A (xr.ev c.v).rs.length cap]:=hcon
      show Fl c.A p w dep (lkA own 0) _ (.row E) _
      cases ho:lkA own 0 with
      | none =>
       rw[ho] at hcf;have hrd:Rd w (FFD c.A p dep) (xr.ev c.v) (.row E) [.slice A (xr.ev c.v).rs.length cap]:=hcf;have hrd:=hrd.asR;obtain⟨E1,te1,A1,cap1,q1,q2,q3,q4,q5,q6,q7⟩:=hrd;injection q1 with q1;subst q1;injection q3 with q3;injection q3 with q3 _ q8;subst q3 q8;have hlen:((xr.ev c.v).rs.take m').length=m':=by simp;omega
       refine⟨E,te1,A,cap,rfl,q2,by rw[hlen],by rw[hlen];omega,by rw[hlen];omega,q6,?_⟩;have:=RdE.cut (lo:=0) (hi:=m') (cap:=cap) q7 (kB _) h2' q4;simp only[List.drop_zero] at this;have e1:(if cap=0 then A else A.map (·.add (0 * te1.w)))=A:=by
        split
        ·rfl
        ·cases A with
         |none=>rfl
         |some ad=>simp[Addr.add]
       rwa [e1] at this
      | some pin =>
       rw[ho] at hcf;rcases hcf.symm with⟨K,V,kt,vt,lm,gm,es,clock,em,-⟩|⟨E1,te1,l1,v1,q1,q2,q3,q4,q5⟩
       ·cases em
       injection q4 with q4;subst q4;have hl1:(xr.ev c.v).rs=l1:=by rw[q3];rfl
       have hlen:((xr.ev c.v).rs.take m').length=m':=by simp;omega
       refine .inl ⟨E1,te1,_,_,q1,q2,rfl,rfl,?_⟩;rcases q5 with⟨r1,rfl⟩|⟨g,cap',cur,r1,r2,r3,r4,r5,r6,r7,r8⟩
       ·injection r1 with r1 r2 r3;subst r1 r3;have:m'=0:=by rw[hl1] at h2';simpa using h2'
        subst this;exact .inl ⟨rfl,by simp⟩
       ·injection r1 with r1 r9 r10;subst r1 r10;refine .inr ⟨g,cap,cur,by rw[hlen],r2,r3,by rw[hlen];omega,r5,r6,by rw[hlen];omega,fun i hi=>?_⟩;have hi':i<m':=by rw[hlen] at hi;exact hi
        obtain⟨vs,s1,s2⟩:=r8 i (by rw[←hl1];omega);refine⟨vs,s1,?_⟩;have:((xr.ev c.v).rs.take m')[i]'hi=l1[i]'(by rw[←hl1];omega):=by
         simp[hl1]
        rw[this];exact s2
     ·cases h
    ·rename_i lop;split at h
     ·rename_i xl k _ _ hh;simp only[gnS] at h;obtain⟨rfl,rfl⟩:=h;obtain⟨m,hm,hmv,hmr⟩:=zt (qd hf hc hh);have n1:=zq (x:=.lit (.i 0)) (y:=xl) (hn _ (by simp));have n2:=zq (x:=xl) (y:=q2l xr) (hn _ (by simp));rw[hm] at n1 n2;rw[q05] at n2;simp only[X.ev,D.int] at n1 n2;obtain⟨m',rfl⟩:=uS n1;have h2':m'≤(xr.ev c.v).rs.length:=by omega
      refine⟨_,fin (some (k,m')) none m' _ (by simp[hmv]) rfl rfl rfl h2' (uO _),?_⟩;have hcut:AV.pd c p w (.v (.cut xr xl (q2l xr)) (.row E) [] (own.map (·.2)++dep)) (.slice (if cap=m' then A else A.map (·.add (m' * te.w))) ((xr.ev c.v).rs.length - m') (cap - m')):=⟨[_],rfl,qnu hte hcon hm (q05 xr) h2' (uO _)⟩;unfold qzk;split
      ·rename_i pin ho;refine⟨⟨te,_,_,_,hte,rfl,fun hn=>?_⟩,hcut⟩;obtain⟨g,hg,rfl⟩:=qrh hcon ho (by omega);refine⟨g,hg,?_⟩;have e1:¬cap=m':=by have:=h1;omega
       rw[if_neg e1,hm];simp[Addr.add,D.int];exact fun h=>h.symm
      ·exact hcut
     ·cases h
    ·rename_i lop hop;split at h
     ·rename_i xl k _ _ xh k' _ _ hll hhh;simp only[gnS] at h;obtain⟨rfl,rfl⟩:=h;obtain⟨l,hl,hlv,hlr⟩:=zt (qd hf hc hll);obtain⟨m,hm,hmv,hmr⟩:=zt (qd hf hc hhh);have n1:=zq (x:=.lit (.i 0)) (y:=xl) (hn _ (by simp));have n2:=zq (x:=xl) (y:=xh) (hn _ (by simp));have n3:=zq (x:=xh) (y:=q2l xr) (hn _ (by simp));rw[hl] at n1 n2;rw[hm] at n2 n3;rw[q05] at n3;simp only[X.ev,D.int] at n1 n2 n3;obtain⟨l',rfl⟩:=uS n1;obtain⟨m',rfl⟩:=uS (a:=m) (by omega);have h2':m'≤(xr.ev c.v).rs.length:=by omega
      exact⟨_,fin (some (k,l')) (some (k',m')) l' m' (by simp[hlv]) (by simp[hmv]) rfl rfl (by omega) h2',[_],rfl,qnu hte hcon hl hm (by omega) h2'⟩
     ·cases h
   ·cases h
  ·rename_i hT;have huT:=(q04 hT).1;unfold qt8 at h;split at h
   ·rename_i xs _ _ hh hy _;split at h
    ·rename_i xh k _ _ hh2;simp only[gnS] at h;obtain⟨rfl,rfl⟩:=h;obtain⟨t,ht,htv,hts⟩:=qdq (qd hf hc hy);obtain⟨m,hm,hmv,hmr⟩:=zt (qd hf hc hh2);have n1:=zq (x:=.lit (.i 0)) (y:=xh) (hn _ (by simp));have n2:=zq (x:=xh) (y:=.slen xs) (hn _ (by simp));rw[hm] at n1 n2;simp only[X.ev,ht,D.int,D.str] at n1 n2;refine⟨.string (t.extract 0 m.toNat),?_,qhg (by show fnD 12 [X.ev c.v xs,X.ev c.v xh]=_;rw[ht,hm];rfl) ?_⟩
     ·have:=run_slice_string_h (P:=uA) w T t huT k m n1 n2;generalize a.eval=r at *;have hsl:=run_sliceAt_string (P:=uA) (w:=w) T (.string t) none (some (.int k m)) none huT;simp[execOp,heq,htv,hmv,hsl,this]
     ·rw[ByteArray.size_extract];omega
    ·cases h
   ·cases h
  ·obtain⟨b1,h1,h2⟩:=uQ.1 h;exact qu4 hf hc heq h1 h2
theorem qzf(hf:SF c σ p w a)(hc:hold c.v cs=true){cl:Call}(heq:o.op=.call cl){ns:List X}{x:AV}(h:quiet uA σ cs o=some (ns,x))(hn:∀n∈ns,n.says c.v):q1b o a c p w x:=by
 simp only[quiet,heq] at h;split at h
 ·rename_i y T hcal hargs htys;obtain⟨callee,⟨args⟩,⟨tys⟩⟩:=cl;simp only at hcal hargs htys;subst hcal hargs htys;split at h
  ·rename_i xs _ _ hy;obtain⟨s,hs,hsv,hsl⟩:=qdq (qd hf hc hy);split at h
   ·rename_i hT;simp only[gnS] at h;obtain⟨rfl,rfl⟩:=h;have hlen:=qjo (w:=w) (j6 hT) s o.type;refine⟨_,?_,jd (n:=s.size) (by show D.i _=_;rw[hs];rfl) (by unfold LIM at hsl;simp[yy];omega)⟩;generalize a.eval=r at *;simp[execOp,heq,hsv,resolve,invoke,builtin,hlen]
   ·cases h
  ·rename_i y' _ hy;split at h
   ·rename_i E hT;obtain⟨-,⟨te,hte⟩,-⟩:=yi hT;split at h
    ·rename_i xr own dep hr;simp only[gnS] at h;obtain⟨rfl,rfl⟩:=h;have hcon:=q20 hte hr (qd hf hc hy);obtain⟨te',A,cap,hte',hd,hev,h1,h2,h3,hE⟩:=hcon.row;have hlen:=qlv (w:=w) hT A (xr.ev c.v).rs.length cap o.type;refine⟨_,?_,jd (q05 xr) (by have h2:=kJ h2 (qo2 _);unfold LIM at h2;simp[yy];omega)⟩;generalize a.eval=r at *;simp[execOp,heq,hev,resolve,invoke,builtin,hlen]
    ·cases h
   ·rename_i K V hT;obtain⟨u,hr,hx⟩:=qu7 (w:=w) hT (qd hf hc hy) h hn o.type;refine⟨u,?_,hx⟩;generalize a.eval=r at *;simp[execOp,heq,resolve,invoke,builtin,hr]
   ·cases h
  ·cases h
 ·rename_i y T hcal hargs htys;obtain⟨callee,⟨args⟩,⟨tys⟩⟩:=cl;simp only at hcal hargs htys;subst hcal hargs htys;split at h
  ·rename_i E hy hT;simp only[gnS] at h;obtain⟨rfl,rfl⟩:=h;have hev:a.eval y=.slice none 0 0:=qd hf hc hy;have hcap:=qku (w:=w) hT none 0 0 o.type;refine⟨_,?_,jd (n:=0) rfl (by simp[yy])⟩;generalize a.eval=r at *;simp[execOp,heq,hev,resolve,invoke,builtin,hcap]
  ·cases h
 ·rename_i y z hcal hargs;obtain⟨callee,⟨args⟩,tys⟩:=cl;simp only at hcal hargs;subst hcal hargs;split at h
  ·rename_i xa k _ _ xb k' _ _ h1 h2;obtain⟨n,hn1,hnv,hnr⟩:=zt (qd hf hc h1);obtain⟨m,hm1,hmv,hmr⟩:=zt (qd hf hc h2);split at h
   ·rename_i hk;have hk:k=k':=by injection (Ty.beq_iff _ _).1 hk
    subst hk;simp only[gnS] at h;obtain⟨rfl,rfl⟩:=h;refine⟨.int k (if m<n then m else n),?_,jd (n:=if m<n then m else n) ?_ ?_⟩
    ·generalize a.eval=r at *;simp[execOp,heq,hnv,hmv,resolve,invoke,builtin,Builtin.min_,Builtin.min2]
    ·by_cases hlt:m<n
     ·simp[X.ev,hn1,hm1,D.int,D.tt,hlt]
     ·simp[X.ev,hn1,hm1,D.int,D.tt,hlt]
    ·split
     ·exact hmr
     ·exact hnr
   ·cases h
  ·cases h
 ·rename_i y z hcal hargs;obtain⟨callee,⟨args⟩,tys⟩:=cl;simp only at hcal hargs;subst hcal hargs;split at h
  ·rename_i xa k _ _ xb k' _ _ h1 h2;obtain⟨n,hn1,hnv,hnr⟩:=zt (qd hf hc h1);obtain⟨m,hm1,hmv,hmr⟩:=zt (qd hf hc h2);split at h
   ·rename_i hk;have hk:k=k':=by injection (Ty.beq_iff _ _).1 hk
    subst hk;simp only[gnS] at h;obtain⟨rfl,rfl⟩:=h;refine⟨.int k (if n<m then m else n),?_,jd (n:=if n<m then m else n) ?_ ?_⟩
    ·generalize a.eval=r at *;simp[execOp,heq,hnv,hmv,resolve,invoke,builtin,Builtin.max_,Builtin.max2]
    ·by_cases hlt:n<m
     ·simp[X.ev,hn1,hm1,D.int,D.tt,hlt]
     ·simp[X.ev,hn1,hm1,D.int,D.tt,hlt]
    ·split
     ·exact hmr
     ·exact hnr
   ·cases h
  ·cases h
 ·cases h
theorem qy8(hf:SF c σ p w a)(hc:hold c.v cs=true){b y z:Operand}(heq:o.op=.pick b y z){ns:List X}{x:AV}(h:quiet uA σ cs o=some (ns,x)):q1b o a c p w x:=by
 simp only[quiet,heq] at h;split at h
 ·rename_i xc _ _ hb;obtain⟨t,ht,htv⟩:=q0v (qd hf hc hb);have run:(execOp a.eval o).run uA w=.ok (.value (if t then a.eval y else a.eval z)) w:=by
   generalize a.eval=r at *;simp[execOp,heq,htv,asBool]
  split at h
  ·simp only[uJ,uN] at h;obtain⟨y',hy,rfl,rfl⟩:=h;have:D.b true=.b t:=ht;injection this with this;subst this;exact⟨_,run,qd hf hc hy⟩
  ·simp only[uJ,uN] at h;obtain⟨y',hy,rfl,rfl⟩:=h;have:D.b false=.b t:=ht;injection this with this;subst this;exact⟨_,run,qd hf hc hy⟩
  ·split at h
   ·rename_i ay az hy hz;simp only[uJ,uN] at h;obtain⟨r,hr,rfl,rfl⟩:=h;unfold qpt at hr;split at hr
    ·rename_i x1 t1 o1 d1 x2 t2 o2 d2;split at hr
     ·rename_i hok;simp only[gnB] at hok;obtain⟨htt,hfl⟩:=hok;rw[Ty.beq_iff] at htt;subst htt;injection hr with hr;subst hr;refine⟨_,run,?_⟩;have hcons:∀b:Bool,(xc.ev c.v).tt=b→hold c.v ((xc,b)::cs)=true:=fun b hb=>by simp[hold] at hc⊢;exact⟨hb,hc⟩
      have htt:(xc.ev c.v).tt=t:=by rw[ht];rfl
      have fin:∀{xx oo dd v},(AV.v xx t1 oo dd).pd c p w v→(if t then x1.ev c.v else x2.ev c.v)=xx.ev c.v→(AV.v (if Ty.beq t1 .bool then qnv xc x1 x2 else .ite xc x1 x2) t1 [] []).pd c p w v:=fun{xx oo dd v}hv he=>by
       obtain⟨vs,hp1,hc1⟩:=hv;have hrd:=Rd.flat (w':=w) (F':=FFD c.A p []) 8 _ hfl (hc1.rd (dep':=dd++oo.map (·.2)) (fun x hx=>uC _ hx) (fun x hx=>uB _ hx));refine⟨vs,hp1,Con.of_rd ?_⟩;split
       ·rename_i hb;rw[Ty.beq_iff] at hb;subst hb;obtain⟨z,hz,-⟩:=q0v (c:=c) (p:=p) (w:=w) ⟨vs,hp1,hc1⟩;rw[hz] at he hrd;rw[qpp ht he];exact hrd
       ·have:(X.ite xc x1 x2).ev c.v=xx.ev c.v:=by
         show(if(xc.ev c.v).tt then x1.ev c.v else x2.ev c.v)=_
         rw[htt];exact he
        rw[this];exact hrd
      cases t with
      |true=>exact fin (qd hf (hcons true htt) hy) rfl
      |false=>exact fin (qd hf (hcons false htt) hz) rfl
     ·cases hr
    ·cases hr
   ·cases h
 ·cases h
theorem qug(hf:SF c σ p w a)(hc:hold c.v cs=true){y:Operand}{x:AV}(h:qxs σ cs y=some x):x.pd c p w (a.eval y):=by
 unfold qxs at h;split at h
 ·rename_i t;split at h
  ·rename_i q xx ty own dep hq;split at h
   ·injection h with h;subst h;obtain⟨v,h1,h2⟩:=hf.t t _ hq;have:a.eval (.tmp t)=v:=by
     show a.tmps.getD t undef=v
     rw[uV,h1];rfl
    rw[this];exact h2
   ·exact qd hf hc h
  ·exact qd hf hc h
 ·exact qd hf hc h
theorem qeg(hf:SF c σ p w a)(hc:hold c.v cs=true){ns:List X}{x:AV}(h:quiet uA σ cs o=some (ns,x))(hn:∀n∈ns,n.says c.v):q1b o a c p w x:=by
 cases heq:o.op with
 |move y=>
  simp only[quiet,heq,uJ,uN] at h;obtain⟨y',hy,rfl,rfl⟩:=h;exact⟨_,by simp[execOp,heq],qug hf hc hy⟩
 |assign y=>
  simp only[quiet,heq,uJ,uN] at h;obtain⟨y',hy,rfl,rfl⟩:=h;exact⟨_,by simp[execOp,heq],qd hf hc hy⟩
 |pick b y z=>exact qy8 hf hc heq h
 | unOp u T y =>
  cases u<;>simp only[quiet,heq,reduceCtorEq] at h;split at h
  ·rename_i xx _ _ hy;obtain⟨t,ht,htv⟩:=q0v (qd hf hc hy);simp only[gnS] at h;obtain⟨rfl,rfl⟩:=h;refine⟨.bool (!t),?_,y7 (q62 ht)⟩;generalize a.eval=r at *;simp[execOp,heq,htv,Op.unary]
  ·cases h
 |binOp op T y z u=>exact qto hf hc heq h hn
 |load T y=>exact qys hf hc heq h
 |fieldAddr T y j=>exact qjn hf hc heq h
 |field T y j=>exact qtt hf hc heq h
 | nilCheck y =>
  simp only[quiet,heq] at h;split at h
  ·rename_i k path o' t hy;simp only[gnS] at h;obtain⟨rfl,rfl⟩:=h;have hh:=qd hf hc hy;obtain⟨g,hg,hev,hat0⟩:=hh;refine⟨_,?_,g,hg,rfl,hat0⟩;generalize a.eval=r at *;simp[execOp,heq,hev]
  ·rename_i x' t dep wr hy;simp only[gnS] at h;obtain⟨rfl,rfl⟩:=h;obtain⟨b,o1,vs,hev,hrest⟩:=qd hf hc hy;refine⟨_,?_,b,o1,vs,rfl,hrest⟩;generalize a.eval=r at *;simp[execOp,heq,hev]
  ·cases h
 |indexAddr T y i=>exact qjl hf hc heq h hn
 |index T y i=>exact qvr hf hc heq h hn
 | extract y i =>
  simp only[quiet,heq] at h;split at h
  ·rename_i l hy;simp only[uJ,uN] at h;obtain⟨x',hx',rfl,rfl⟩:=h;obtain⟨vs,hev,hps⟩:=qd hf hc hy;have key:∀{l:List AV}{vs:List Value}{i:Nat}{x:AV},pds c p w l vs→l[i]? =some x→∃v,vs[i]? =some v∧x.pd c p w v:=by
    intro l
    induction l with
    |nil=>intro vs i x _ hi;simp at hi
    | cons a l ih =>
     rintro vs i x⟨v,r,rfl,ha,hl⟩hi;cases i with
     |zero=>simp at hi;subst hi;exact⟨v,rfl,ha⟩
     |succ i=>
      have:=ih (vs:=r) (i:=i) (x:=x) hl (by simpa using hi);simpa using this
   obtain⟨v,hv,hpd⟩:=key hps hx';refine⟨v,?_,hpd⟩;generalize a.eval=r at *;simp[execOp,heq,hev,Instr.extract,hv]
  ·cases h
 |slice T y lo hi mx=>exact qvt hf hc heq h hn
 | convert S T y =>
  simp only[quiet,heq] at h;split at h
  ·rename_i xx k _ _ hy;obtain⟨m,hm,hmv,hmr⟩:=zt (qd hf hc hy);split at h
   ·rename_i k' hT;split at h
    ·rename_i hS;simp only[gnS] at h;obtain⟨rfl,rfl⟩:=h;have hr:=q4v (k:=k') (x:=xx) (hn _ (by simp));rw[hm] at hr;refine⟨.int k' m,?_,jd hm hr⟩;obtain⟨ts,hts⟩:=uM.1 hS;obtain⟨i,hi,-⟩:=q02 hts;have hus:∃d,uA.underlying S=some d:=by
      cases ts with
      |int k=>exact⟨_,(q07 hts).1⟩
      |bool=>exact⟨_,(q0e hts).1⟩
      |str=>exact⟨_,(q04 hts).1⟩
      |row E=>exact⟨_,(yi hts).1⟩
      |map K V=>exact⟨_,(q3b hts).1⟩
      |fnv=>obtain⟨⟨a,b,c,hu⟩,-⟩:=qce hts;exact⟨_,hu⟩
      |st Z=>obtain⟨fields,_,_,_,hu,-⟩:=q0j hts;exact⟨_,hu⟩
     obtain⟨d,hd⟩:=hus;have hw:=q67 hr;simp only[D.int] at hw;have hcv:∀w,(convert S T (.int k m)).run uA w=.ok (.int k' m) w:=fun w=>by
      simp[convert,run_underlying hd,run_underlying (q07 hT).1,Conv.intToInt,hw]
     generalize a.eval=r at *;simp[execOp,heq,hmv,hcv]
    ·cases h
   ·cases h
  ·rename_i xx E own dep hy;split at h
   ·rename_i hok;simp only[gnB] at hok;obtain⟨hT,hS,hE⟩:=hok;simp only[gnS] at h;obtain⟨rfl,rfl⟩:=h;obtain⟨vs,hp,hcon⟩:=qd hf hc hy;obtain rfl:vs=[a.eval y]:=hp;obtain⟨te,A,cap,hte,hd,hev,h1,h2,h3,hE2⟩:=hcon.row;obtain rfl:te=.int .u8:=gnI (hte.symm.trans (j6 hE));have hd:=hd.resolve_right (fun h=>by obtain⟨-,-,S,h⟩:=h;cases h);have huT:=(q04 (j6 hT)).1;have huS:=(yi (j6 hS)).1;have huE:=(q07 (j6 hE)).1;generalize hl:(X.ev c.v xx).rs=l at hd hev h1 h2 hE2;have hsz:(qaa l).size=l.length:=by simp[qaa,ByteArray.size]
    have hll:l.length≤LIM:=kJ h2 (qo2 _);refine⟨.string (qaa l),?_,qhg (by show fnD 10 [X.ev c.v xx]=_;rw[hd];rfl) (by rw[hsz];exact hll)⟩;have hcv:(convert S T (.slice A l.length cap)).run uA w=.ok (.string (qaa l)) w:=by
     rw[jg] at hE2;cases A with
     | none =>
      have h0:l=[]:=by
       cases l with
       |nil=>rfl
       |cons d l=>
        obtain⟨b,o,cs,e,-⟩:=hE2 0 (by simp);cases e
      subst h0;exact run_convert_bytes_nil w S E huS huE _ _ T huT
     | some ad =>
      have hcell:∀j(hj:j<l.length),ad.spot=none∧∃n,l[j]=.i n∧w.cell? ⟨ad.block,ad.off+j,none⟩=some (.int .u8 n):=fun j hj=>by
       obtain⟨b,o,cs,e,hb,hr,hd⟩:=hE2 j hj;injection e with e;subst e;refine⟨rfl,?_⟩;generalize l[j]=dj at hd;cases dj<;>simp only[Rd,reduceCtorEq,false_and,exists_false,and_false,or_false,false_or] at hd;rename_i n;obtain⟨k,e1,rfl,-⟩:=hd;injection e1 with e1;subst e1;refine⟨n,rfl,?_⟩;have:=hr 0 (.int .u8 n) rfl;simpa[Ty.w] using this
      cases l with
      |nil=>
       have:=run_loadCells_list (P:=uA) w ad [] (by simp);rw[run_convert_bytes_string w S T E _ _ _ huS huE huT];have h2:=run_bytesToString (P:=uA) w ad 0 cap [] (by simpa using this);exact h2
      | cons d0 l0 =>
       obtain⟨b,o,sp⟩:=ad;obtain rfl:sp=none:=(hcell 0 (by simp)).1;have:=run_convert_bytes_arg (P:=uA) w S E huS huE b o (d0::l0).length cap ((d0::l0).map D.int) (by simp) (fun i hi=>by
        obtain⟨-,n,hn1,hn2⟩:=hcell i hi;rw[hn2];have:((d0::l0).map D.int).getD i 0=n:=by
         rw[gnG,List.getElem?_map,gnK hi,hn1];rfl
        rw[this]) T huT
       rw[this];simp only[strOfNums,qaa,List.map_map];rfl
    generalize a.eval=r at *;simp[execOp,heq,hev,hcv]
   ·cases h
  ·cases h
 | makeFunc fn first captured =>
  cases fn<;>simp only[quiet,heq,reduceCtorEq] at h;rename_i f;split at h
  ·rename_i h0;simp only[uJ,uN] at h;obtain⟨l,hl,rfl,rfl⟩:=h;have:=qcb hf hc hl;have h0':first= #[]:=by simpa using h0
   subst h0';refine⟨.func (.func f) #[] (captured.toList.map a.eval).toArray,?_,_,rfl,this⟩;generalize a.eval=r at *;have he:captured.map r=(captured.toList.map r).toArray:=by
    apply vP;simp
   rw[←he];simp[execOp,heq,Instr.makeFunc]
  ·cases h
 |call cl=>exact qzf hf hc heq h hn
 |lookup T m k ok=>exact qt9 hf hc heq h
 |_=>exact absurd h (by simp[quiet,heq])
end
end
section
def jh:List (Nat×Nat)→Bool
 |[]=>true
 |e::l=>(lkA l e.1).isNone&&jh l
theorem q88{l:List (Nat×Nat)}{j:Nat}(h:lkA l j=none):∀e∈l,e.1≠j:=by
 induction l with
 |nil=>intro e he;cases he
 | cons x l ih =>
  intro e he;unfold lkA at h;split at h
  ·cases h
  ·rename_i hx;rcases kC.1 he with rfl|he
   ·intro e1;rw[←e1] at hx;simp at hx
   ·exact ih h e he
theorem qb{α:Type}{l:List (Nat×α)}{k j:Nat}{x:α}(h:k≠j):lkA ((k,x)::l) j=lkA l j:=by
 show(if uI k j then some x else lkA l j)=_
 rw[if_neg (by simpa using h)]
theorem qa{α:Type}{l:List (Nat×α)}{k:Nat}{x:α}:lkA ((k,x)::l) k=some x:=by
 show(if uI k k then some x else lkA l k)=_
 simp
def unO(q:Nat→Bool):Option Nat→Option Nat
 |some x=>if q x then none else some x
 |none=>none
theorem qe7{l:List (Nat×Nat)}(hn:jh l=true)(q:Nat→Bool)(j:Nat):lkA (l.filter fun e=> !q e.2) j=unO q (lkA l j):=by
 induction l with
 |nil=>rfl
 | cons e l ih =>
  obtain⟨k,x⟩:=e;simp only[jh,gnB,kO] at hn;by_cases hk:k=j
  ·subst hk;rw[qa];simp only[uY,unO];by_cases hq:q x=true
   ·simp only[hq,Bool.not_true,gnF,if_false,if_true];rw[ih hn.2,hn.1];rfl
   ·simp only[hq,Bool.not_false,if_true];rw[qa];simp
  ·rw[qb hk,←ih hn.2];simp only[uY];split
   ·rw[qb hk]
   ·rfl
theorem j5{α:Type}{l:List (Nat×α)}{k j:Nat}(h:k≠j):lkA (l.filter fun e=>e.1 !=k) j=lkA l j:=by
 induction l with
 |nil=>rfl
 | cons e l ih =>
  obtain⟨m,x⟩:=e;simp only[uY];by_cases hm:m=j
  ·subst hm;have:(m !=k)=true:=by simpa using Ne.symm h
   rw[if_pos this,qa,qa]
  ·rw[qb hm];split
   ·rw[qb hm,ih]
   ·exact ih
def zr{α:Type}(l:List (Nat×α))(k:Nat)(x:α):List (Nat×α):=(k,x)::l.filter fun e=>e.1 !=k
theorem yd{α:Type}{l:List (Nat×α)}{k:Nat}{x:α}:lkA (zr l k x) k=some x:=qa
theorem jn{α:Type}{l:List (Nat×α)}{k j:Nat}{x:α}(h:k≠j):lkA (zr l k x) j=lkA l j:=by
 unfold zr;rw[qb h,j5 h]
theorem qh{α:Type}{l:List (Nat×α)}{k:Nat}:lkA (l.filter fun e=>e.1 !=k) k=none:=by
 induction l with
 |nil=>rfl
 | cons e l ih =>
  obtain⟨m,x⟩:=e;simp only[uY];split
  ·rename_i hm;rw[qb (by simpa using hm),ih]
  ·exact ih
def q0i(own:List (Nat×Nat))(j:Nat)(o:Option Nat):List (Nat×Nat):=match o with
 |some pin=>(j,pin)::own.filter fun e=>e.1 !=j
 |none=>own.filter fun e=>e.1 !=j
theorem jm(own:List (Nat×Nat))(j:Nat)(o:Option Nat)(i:Nat):lkA (q0i own j o) i=if i=j then o else lkA own i:=by
 cases o with
 | some pin =>
  by_cases h:i=j
  ·subst h;rw[if_pos rfl];exact qa
  ·rw[if_neg h]
   show lkA ((j,pin)::_) i=_
   rw[qb (Ne.symm h),j5 (Ne.symm h)]
 | none =>
  by_cases h:i=j
  ·subst h;rw[if_pos rfl];exact qh
  ·rw[if_neg h];exact j5 (Ne.symm h)
def unD(q:Nat→Bool)(dep:List Nat):List Nat:=dep.filter fun y=> !q y||uI y q0d
theorem qxx{q:Nat→Bool}{dep:List Nat}{x:Nat}(h:x∈dep)(hq:q x=false):x∈unD q dep:=vI.2 ⟨h,by simp[hq]⟩
theorem qvh{q:Nat→Bool}{dep:List Nat}(h:q0d∈dep):q0d∈unD q dep:=vI.2 ⟨h,by simp⟩
mutual
def AV.un(q:Nat→Bool):AV→AV
 |.v x t own dep=>if jh own then .v x t (own.filter fun e=> !q e.2) (unD q dep) else .any
 |.rd x t dep wr=>.rd x t (unD q dep) (match wr with|some r=>if q r.1 then none else some r|none=>none)
 |.ref k path o t=>if q (k * 16) then .any else .ref k path o t
 |.tup l=>.tup (quu q l)
 |.gd c a=>.gd c (AV.un q a)
 |.fn f l=>.fn f (quu q l)
 |.bx k T a=>if q (k * 16) then .any else .bx k T (AV.un q a)
 |.fr T a=>.fr T (AV.un q a)
 |.ff f T1 x1 t1 T2 x2 t2 dep=>.ff f T1 x1 t1 T2 x2 t2 (unD q dep)
 |.sn t a=>.sn t (AV.un q a)
 |.el o r i a=>if(r::qhr o).all (fun y=> !q y) then .el o r i (AV.un q a) else AV.un q a
 |.hd r E x=>if q r then .any else .hd r E x
 |.wf k j x t own dep a=>if(k * 16::(own.map (·.2)++dep)).all (fun y=> !q y) then .wf k j x t own dep (AV.un q a) else AV.un q a
 |.ar E xs dep=>.ar E xs (unD q dep)
 |.lv k t=>if q (k * 16) then .any else .lv k t
 |.ax k T n a=>if q (k * 16) then .any else .ax k T n (AV.un q a)
 |.pt pin i E a=>if q pin then .any else .pt pin i E (AV.un q a)
 |.any=>.any
 |.undef=>.undef
 |.nilS=>.nilS
 |.nb x neg=>.nb x neg
 |.nilP=>.nilP
def quu(q:Nat→Bool):List AV→List AV
 |[]=>[]
 |a::l=>AV.un q a::quu q l
end
def Ent.un(q:Nat→Bool)(e:Ent):Ent:=⟨e.x,e.t,e.own.filter fun y=> !q y.2,unD q e.dep⟩
def unM(q:Nat→Bool):List (Nat×Ent)→List (Nat×Ent)
  |[]=>[]
  |(k,e)::l=>if q (k * 16)|| !jh e.own then(unM q l).filter (fun y=>y.1 !=k) else(k,e.un q)::unM q l
def St.un(q:Nat→Bool)(σ:St):St:=⟨σ.t.map fun e=>(e.1,e.2.un q),unM q σ.m⟩
def unP(q:Nat→Bool)(p:qe):qe:=fun x=>if q x then none else p x
section
variable{A:Bk}{F:Flr}{q:Nat→Bool}{p:qe}{w:World}
theorem yr{x b:Nat}(h:unP q p x=some b):q x=false∧p x=some b:=by
 unfold unP at h;split at h
 ·cases h
 ·rename_i hq;exact⟨by simpa using hq,h⟩
theorem q1h{x b:Nat}(hq:q x=false)(h:p x=some b):unP q p x=some b:=by
 unfold unP;rw[hq];exact h
theorem q3n.un{b:Nat}(h:q3n p b):q3n (unP q p) b:=fun x hx=>h x (yr hx).2
theorem q72(inj:∀x y b,p x=some b→p y=some b→x=y){x b:Nat}(hq:q x=true)(h:p x=some b):q3n (unP q p) b:=fun y hy=>by
 obtain⟨h1,h2⟩:=yr hy;rw[inj y x b h2 h] at h1;rw[h1] at hq;cases hq
theorem FFD.un(inj:∀x y b,p x=some b→p y=some b→x=y)(pa:∀x b,p x=some b→A b){dep:List Nat}{b:Nat}(h:FFD A p dep b):FFD A (unP q p) (unD q dep) b:=by
 rcases h with⟨ha,hf⟩|⟨x,hx,e⟩|⟨hm,hao⟩
 ·exact .inl ⟨ha,hf.un⟩
 ·cases hq:q x with
  |true=>exact .inl ⟨pa x b e,q72 inj hq e⟩
  |false=>exact .inr (.inl ⟨x,qxx hx hq,q1h hq e⟩)
 ·exact .inr (.inr ⟨qvh hm,hao⟩)
variable(inj:∀x y b,p x=some b→p y=some b→x=y)(pa:∀x b,p x=some b→A b)
include inj pa
theorem Rd.un{dep:List Nat}{d:D}{t:Ty}{cs:List Value}(h:Rd w (FFD A p dep) d t cs):Rd w (FFD A (unP q p) (unD q dep)) d t cs:=
 h.mono fun b _ hb=>hb.un inj pa
theorem Fl.un{dep:List Nat}{o:Option Nat}{d:D}{t:Ty}{cs:List Value}(h:Fl A p w dep o d t cs):Fl A (unP q p) w (unD q dep) (unO q o) d t cs:=by
 cases o with
 |none=>exact Rd.un inj pa h
 | some pin =>
  rcases h.symm with⟨K,V,kt,vt,l,g,es,clock,rfl,hK,hV,rfl,rfl,hg,hh,hl⟩|⟨E,te,l,v,rfl,hte,rfl,rfl,hv⟩
  ·cases hq:q pin with
   |false=>
    simp only[unO,hq,gnF,if_false];exact .inr ⟨K,V,kt,vt,l,g,es,clock,rfl,hK,hV,rfl,rfl,q1h hq hg,hh,hl⟩
   |true=>
    simp only[unO,hq,if_true];exact⟨K,V,kt,vt,g,es,clock,rfl,hK,hV,rfl,.inl ⟨pa pin g hg,q72 inj hq hg⟩,hh,hl.rdM⟩
  cases hq:q pin with
  | false =>
   simp only[unO,hq,gnF,if_false];refine .inl ⟨E,te,l,v,rfl,hte,rfl,rfl,?_⟩;rcases hv with hv|⟨g,cap,cur,rfl,hg,hh,h1,h2,h3,h4,h5⟩
   ·exact .inl hv
   ·refine .inr ⟨g,cap,cur,rfl,q1h hq hg,hh,h1,h2,h3,h4,fun i hi=>?_⟩;obtain⟨cs,hr,hx⟩:=h5 i hi;exact⟨cs,hr,Rd.un inj pa hx⟩
  | true =>
   simp only[unO,hq,if_true]
   show Rd w _ (.r l) (.row E) [v]
   rcases hv with⟨rfl,rfl⟩|⟨g,cap,cur,rfl,hg,hh,h1,h2,h3,h4,h5⟩
   ·exact⟨E,te,none,0,rfl,hte,rfl,by simp,by simp,by simp[maxLen],by simp[RdE]⟩
   ·refine⟨E,te,some ⟨g,0,none⟩,cap,rfl,hte,rfl,h1,h4,h2,jg.2 fun j hj=>?_⟩;obtain⟨cs,hr,hx⟩:=h5 j hj;exact⟨g,0,cs,rfl,.inl ⟨pa pin g hg,q72 inj hq hg⟩,by simpa using hr,Rd.un inj pa hx⟩
theorem Fls.un{dep:List Nat}{own:List (Nat×Nat)}(hn:jh own=true):∀{ds:List D}{j:Nat}{fs:List Ty}{cs:List Value},Fls A p w dep own j ds fs cs→Fls A (unP q p) w (unD q dep) (own.filter fun e=> !q e.2) j ds fs cs
 |[],_,_,_,h=>h
 |d::ds,j,fs,cs,⟨t,ts,c1,c2,e1,e2,h1,h2⟩=>⟨t,ts,c1,c2,e1,e2,by rw[qe7 hn];exact Fl.un inj pa h1,Fls.un hn h2⟩
theorem Con.un{dep:List Nat}{own:List (Nat×Nat)}(hn:jh own=true){d:D}{t:Ty}{cs:List Value}(h:Con A p w d t own dep cs):Con A (unP q p) w d t (own.filter fun e=> !q e.2) (unD q dep) cs:=by
 unfold Con at h⊢;split
 ·obtain⟨fs,ds,hf,e,h⟩:=h;exact⟨fs,ds,hf,e,Fls.un inj pa hn h⟩
 ·rename_i hne;split at h
  ·rename_i T;exact absurd rfl (hne T)
  ·rw[qe7 hn];exact Fl.un inj pa h
end
mutual
theorem AV.un_ok{c:Cx}{q:Nat→Bool}{p:qe}{w:World}(inj:∀x y b,p x=some b→p y=some b→x=y)(pa:∀x b,p x=some b→c.A b):∀(a:AV)(v:Value),a.pd c p w v→(a.un q).pd c (unP q p) w v
 |.any,v,h=>h
 |.undef,v,h=>h
 |.nilS,v,h=>h
 |.nb x neg,v,h=>h
 |.nilP,v,h=>h
 | .v x t own dep, v, ⟨cs, hp, hc⟩ => by
  unfold AV.un;split
  ·rename_i hn;exact⟨cs,hp,Con.un inj pa hn hc⟩
  ·trivial
 | .ref k pt o t, v, ⟨g, hg, e⟩ => by
  unfold AV.un;split
  ·trivial
  ·rename_i hq;exact⟨g,q1h (by simpa using hq) hg,e⟩
 | .rd x t dep wr, v, ⟨b, o, cs, e, hb, hr, h0, hd, hw⟩ => by
  refine⟨b,o,cs,e,hb.un inj pa,hr,h0,Rd.un inj pa hd,?_⟩
  match wr,hw with
  |none,hw=>trivial
  | some (pin, i, pt, q', te), hw =>
   simp only;split
   ·trivial
   ·rename_i hq;exact⟨q1h (by simpa using hq) hw.1,hw.2⟩
 |.tup l,v,⟨vs,e,h⟩=>⟨vs,e,qgv inj pa l vs h⟩
 |.gd cs a,v,h=>⟨fun hc=>AV.un_ok inj pa a v (h.1 hc),h.2⟩
 |.fn f l,v,⟨vs,e,h⟩=>⟨vs,e,qgv inj pa l vs h⟩
 | .bx k T a, v, ⟨g, u, hg, e, hh, h⟩ => by
  unfold AV.un;split
  ·trivial
  ·rename_i hq;exact⟨g,u,⟨q1h (by simpa using hq) hg.1,hg.2⟩,e,hh,AV.un_ok inj pa a u h⟩
 | .ax k T n a, v, ⟨g, u, hg, e, hh, hn, h⟩ => by
  unfold AV.un;split
  ·trivial
  ·rename_i hq;exact⟨g,u,⟨q1h (by simpa using hq) hg.1,hg.2⟩,e,hh,hn,AV.un_ok inj pa a (.agg u) h⟩
 |.sn t a,v,⟨e,h⟩=>⟨e,AV.un_ok inj pa a v h⟩
 | .el o r i a, v, ⟨⟨e1, e2⟩, h⟩ => by
  unfold AV.un;split
  ·rename_i hq;have hq':∀y∈r::qhr o,no y=false∧q y=false:=fun y hy=>⟨rfl,by have:=uG.1 hq y hy;simpa using this⟩;have hst:Stab c.A no q p w (unP q p) w:=⟨uO _,fun b _ ha hf=>⟨rfl,q3n.un hf⟩,fun y b hy hb=>q1h (by simpa using hy) hb,fun _ _ _ _=>rfl,fun _ _ _=>rfl⟩;exact⟨⟨e1.kept hst (hq' _ uF),e2.kept hst (fun y hy=>hq' y (uD _ hy)) (hq' _ uF)⟩,AV.un_ok inj pa a v h⟩
  ·exact AV.un_ok inj pa a v h
 | .hd r E x, v, ⟨te, l, e1, e2, e3⟩ => by
  unfold AV.un;split
  ·trivial
  ·rename_i hq;have hst:Stab c.A no q p w (unP q p) w:=⟨uO _,fun b _ ha hf=>⟨rfl,q3n.un hf⟩,fun y b hy hb=>q1h (by simpa using hy) hb,fun _ _ _ _=>rfl,fun _ _ _=>rfl⟩;exact⟨te,l,e1,e2,e3.kept hst ⟨rfl,by simpa using hq⟩⟩
 | .wf k j x t own dep a, v, ⟨e, h⟩ => by
  unfold AV.un;split
  ·rename_i hq;refine⟨e.kept (Z:=no) (L:=q) ⟨uO _,fun b _ ha hf=>⟨rfl,q3n.un hf⟩,fun y b hy hb=>q1h (by simpa using hy) hb,fun _ _ _ _=>rfl,fun _ _ _=>rfl⟩ (fun y hy=>⟨rfl,?_⟩),AV.un_ok inj pa a v h⟩;have:=uG.1 hq y hy;simpa using this
  ·exact AV.un_ok inj pa a v h
 | .lv k t, v, ⟨g, cs, T, hg, e, hh, hs⟩ => by
  unfold AV.un;split
  ·trivial
  ·rename_i hq;exact⟨g,cs,T,⟨q1h (by simpa using hq) hg.1,hg.2⟩,e,hh,hs⟩
 |.ar E xs dep,v,⟨te,cs,e1,e2,h3,h⟩=>⟨te,cs,e1,e2,h3,fun j d hj=>Rd.un inj pa (h j d hj)⟩
 | .pt pin i E a, v, ⟨⟨te, A, n, cap, e1, e2, h3⟩, h⟩ => by
  unfold AV.un;split
  ·trivial
  ·rename_i hq;exact⟨⟨te,A,n,cap,e1,e2,fun hn=>by
    obtain⟨g,hg,e⟩:=h3 hn;exact⟨g,q1h (by simpa using hq) hg,e⟩⟩,AV.un_ok inj pa a v h⟩
 |.fr T a,v,⟨g,u,ha,hf,e,hh,h⟩=>⟨g,u,ha,fun y hy=>hf y (yr hy).2,e,hh,AV.un_ok inj pa a u h⟩
 |.ff f T1 x1 t1 T2 x2 t2 dep,v,⟨g,cs1,cs2,e,ha,hb,hfr,hg,hg2,r1,r2⟩=>⟨g,cs1,cs2,e,⟨ha.1,fun y hy=>ha.2 y (yr hy).2⟩,⟨hb.1,fun y hy=>hb.2 y (yr hy).2⟩,hfr,hg,hg2,Rd.mono (fun b _ h=>⟨h.1.un inj pa,h.2⟩) r1,Rd.mono (fun b _ h=>⟨h.1.un inj pa,h.2⟩) r2⟩
theorem qgv{c:Cx}{q:Nat→Bool}{p:qe}{w:World}(inj:∀x y b,p x=some b→p y=some b→x=y)(pa:∀x b,p x=some b→c.A b):∀(l:List AV)(vs:List Value),pds c p w l vs→pds c (unP q p) w (quu q l) vs
 |[],vs,h=>h
 |a::l,vs,⟨v,r,e,ha,hl⟩=>⟨v,r,e,AV.un_ok inj pa a v ha,qgv inj pa l r hl⟩
end
section
variable{c:Cx}{q:Nat→Bool}{p:qe}{w:World}(inj:∀x y b,p x=some b→p y=some b→x=y)(pa:∀x b,p x=some b→c.A b)
include inj pa
theorem ju.un{k:Nat}{e:Ent}(hq:q (k * 16)=false)(hn:jh e.own=true)(h:ju c p w k e):ju c (unP q p) w k (e.un q):=by
 obtain⟨g,cs,T,hg,hh,hty,hc⟩:=h;exact⟨g,cs,T,q1h hq hg,hh,hty,Con.un inj pa hn hc⟩
omit inj pa in
theorem qxq{l:List (Nat×Ent)}{k:Nat}{e:Ent}(h:lkA (unM q l) k=some e):∃e0,lkA l k=some e0∧e=e0.un q∧q (k * 16)=false∧jh e0.own=true:=by
 induction l with
 |nil=>cases h
 | cons x l ih =>
  obtain⟨m,y⟩:=x;unfold unM at h;split at h
  ·by_cases hm:m=k
   ·subst hm;rw[qh] at h;cases h
   ·rw[j5 hm] at h;rw[qb hm];exact ih h
  ·rename_i hq;simp only[kN,uT,not_or,Bool.not_eq_false] at hq;by_cases hm:m=k
   ·subst hm;rw[qa] at h;injection h with h;exact⟨y,qa,h.symm,by simpa using hq.1,hq.2⟩
   ·rw[qb hm] at h⊢;exact ih h
omit inj pa in
theorem q08{α β:Type}{f:α→β}{l:List (Nat×α)}{k:Nat}{y:β}(h:lkA (l.map fun e=>(e.1,f e.2)) k=some y):∃x,lkA l k=some x∧y=f x:=by
 induction l with
 |nil=>cases h
 | cons e l ih =>
  obtain⟨m,x⟩:=e;by_cases hm:m=k
  ·subst hm;rw[vL,qa] at h;injection h with h;exact⟨x,qa,h.symm⟩
  ·rw[vL,qb hm] at h;rw[qb hm];exact ih h
theorem SF.un{σ:St}{a:Act}(h:SF c σ p w a):SF c (σ.un q) (unP q p) w a:=by
 refine⟨fun t x hx=>?_,fun k e he=>?_⟩
 ·obtain⟨y,hy,rfl⟩:=q08 hx;obtain⟨v,h1,h2⟩:=h.t t y hy;exact⟨v,h1,AV.un_ok inj pa y v h2⟩
 ·obtain⟨e0,h0,rfl,hq,hn⟩:=qxq he;exact ju.un inj pa hq hn (h.m k e0 h0)
end
theorem Bs.un{A:Bk}{F:Flr}{w0:World}{S0:Nat→Prop}{p:qe}{w:World}(h:Bs A F w0 S0 p w)(q:Nat→Bool):Bs A F w0 S0 (unP q p) w:=
 ⟨fun x y b hx hy=>h.inj x y b (yr hx).2 (yr hy).2,fun x b hx=>h.bd x b (yr hx).2,h.but,fun x b hx=>h.pin x b (yr hx).2,h.new,fun x b hx=>h.pa x b (yr hx).2,fun x b hx=>h.obj x b (yr hx).2,h.flo,h.sp,h.uf⟩
def okA(Z L:Nat→Bool)(a:AV):Bool:=a.pins.all (fun x=> !Z x&& !L x)&&a.keys.all fun x=> !L x
def okE(Z L:Nat→Bool)(k:Nat)(e:Ent):Bool:=e.pins.all (fun x=> !Z x&& !L x)&&(!Z (k * 16)&& !L (k * 16))
def q2h(Z L:Nat→Bool)(l:List (Nat×AV)):List (Nat×AV):=l.map fun e=>(e.1,if okA Z L e.2 then e.2 else .any)
def q3i(Z L:Nat→Bool):List (Nat×Ent)→List (Nat×Ent)
  |[]=>[]
  |(k,e)::l=>if okE Z L k e then(k,e)::q3i Z L l else(q3i Z L l).filter fun y=>y.1 !=k
theorem qtd{Z L:Nat→Bool}{l:List (Nat×Ent)}{k:Nat}{e:Ent}(h:lkA (q3i Z L l) k=some e):lkA l k=some e∧okE Z L k e=true:=by
 induction l with
 |nil=>cases h
 | cons x l ih =>
  obtain⟨m,y⟩:=x;unfold q3i at h;split at h
  ·rename_i hok;by_cases hm:m=k
   ·subst hm;rw[qa] at h⊢;injection h with h;subst h;exact⟨rfl,hok⟩
   ·rw[qb hm] at h⊢;exact ih h
  ·by_cases hm:m=k
   ·subst hm;rw[qh] at h;cases h
   ·rw[j5 hm] at h;rw[qb hm];exact ih h
theorem q34{Z L:Nat→Bool}{a:AV}(h:okA Z L a=true):(∀x∈a.pins,Z x=false∧L x=false)∧∀x∈a.keys,L x=false:=by
 simp only[okA,gnB,uG,uT] at h;exact⟨fun x hx=>h.1 x hx,fun x hx=>h.2 x hx⟩
theorem qr3{Z L:Nat→Bool}{k:Nat}{e:Ent}(h:okE Z L k e=true):(∀x∈e.pins,Z x=false∧L x=false)∧(Z (k * 16)=false∧L (k * 16)=false):=by
 simp only[okE,gnB,uG,uT] at h;exact⟨fun x hx=>h.1 x hx,h.2⟩
theorem SF.keep{c:Cx}{σ:St}{p p':qe}{w w':World}{a:Act}{Z L:Nat→Bool}(h:SF c σ p w a)(hs:Stab c.A Z L p w p' w'):SF c ⟨q2h Z L σ.t,q3i Z L σ.m⟩ p' w' a:=by
 refine⟨fun t x hx=>?_,fun k e he=>?_⟩
 ·obtain⟨y,hy,rfl⟩:=q08 (f:=fun y=>if okA Z L y then y else .any) hx;obtain⟨v,h1,h2⟩:=h.t t y hy;refine⟨v,h1,?_⟩;split
  ·rename_i hok;exact AV.kept hs y v (q34 hok).1 (q34 hok).2 h2
  ·trivial
 ·obtain⟨h1,h2⟩:=qtd he;exact(h.m k e h1).kept hs (qr3 h2).1 (qr3 h2).2
theorem SF.put{c:Cx}{σ:St}{p:qe}{w:World}{a:Act}{t:Nat}{x:AV}{v:Value}(h:SF c σ p w a)(ht:t<a.tmps.size)(hv:x.pd c p w v):SF c ⟨zr σ.t t x,σ.m⟩ p w (a.put (some t) v):=by
 refine⟨fun s y hy=>?_,h.m⟩;by_cases hts:t=s
 ·subst hts;rw[yd] at hy;injection hy with hy;subst hy;exact⟨v,Array.getElem?_setIfInBounds_self_of_lt ht,hv⟩
 ·rw[jn hts] at hy;obtain⟨u,h1,h2⟩:=h.t s y hy;exact⟨u,by rw[show(a.put (some t) v).tmps[s]? =a.tmps[s]? from Array.getElem?_setIfInBounds_ne hts];exact h1,h2⟩
theorem SF.var{c:Cx}{σ:St}{p:qe}{w:World}{a:Act}{k:Nat}{e:Ent}(h:SF c σ p w a)(he:ju c p w k e):SF c ⟨σ.t,zr σ.m k e⟩ p w a:=by
 refine⟨h.t,fun j y hy=>?_⟩;by_cases hkj:k=j
 ·subst hkj;rw[yd] at hy;injection hy with hy;subst hy;exact he
 ·rw[jn hkj] at hy;exact h.m j y hy
end
end Go.Proofs.Ytokkfpalbpnpeaa
