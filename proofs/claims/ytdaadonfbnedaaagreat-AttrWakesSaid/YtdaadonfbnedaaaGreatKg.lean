/-
 Lemmas of the walk and plain laws, put together. No condition.
-/
import Derived.Deep.RegionLaw
import Derived.Lib.AppendZerosOnto
import Derived.Shelf.Spec.SlicesInsert
import Derived.StillTailTactics
import Derived.TacticsInMore
import Derived.Test.YtdaadonfbnedaaaGreatKf
namespace Go.Proofs.YtdaadonfbnedaaaGreat
open Go.RowKit
set_option linter.unusedVariables false
set_option linter.unusedSimpArgs false
set_option maxRecDepth 100000
open _root_.List renaming eq_nil_of_length_eq_zero→uA,getElem?_append_right→uB,getElem?_append_left→uC,length_take→uD,length_append→uE,drop_eq_nil_of_le→uF,length_drop→uH,take_append_drop→uJ,take_of_length_le→uO,length_cons→uR,cons_append→uT,append_assoc→uU,mem_cons_of_mem→uV,drop_drop→uW,pairwise_cons→uX,mem_cons→uY,length_nil→uZ,mem_cons_self→kA,eq_nil_or_concat→kB,concat_eq_append→kC,drop_left→kD,mem_append→kF,length_map→kG,drop_eq_getElem_cons→kI,getD_cons_zero→kK,getD_cons_succ→kL,nil_append→kM,append_nil→kN,length_eq_zero_iff→kO,take_left→kP,pairwise_append→kR,length→kZ,take_length→vC,drop_append→vD,take_append_of_le_length→vE,replicate→vI,getElem?_take_of_lt→vJ,pairwise_singleton→vK,mem_of_mem_head?→vL,size_toArray→vQ,foldl_append→vR,take_append→vS,all_eq_true→vT,set_append→vU,map_id''→vZ,map_map→jB
open _root_.And renaming intro→uG
open _root_.Bool renaming and_eq_false_iff→uI,not_eq_true'→kS,not_eq_false'→vB
open _root_.Int renaming eq_ofNat_of_zero_le→uK,toNat_natCast→uP,le_refl→vH,ofNat→jD
open _root_.Go.Proofs.Tryz renaming prog→uL,ntmps107→vX,func107→jA
open _root_.Option renaming ite_none_right_eq_some→uM,map_eq_some_iff→kU
open _root_.Option.some renaming injEq→uN
open _root_.Nat renaming le_refl→uQ,add_sub_cancel_left→kE,add_mul→kH,mul_assoc→kT,zero_add→kV,mul_comm→kW,le_trans→kX,zero_le→vF,min_def→vG,lt_or_eq_of_le→vO,add_sub_cancel→vP,zero_mul→jC
open Builtin renaming copy_→kJ,zeroCells→vA,firstCells→vM
open _root_.List.cons renaming inj→kQ,injEq→kY
structure Vc where
 v:Int
 c:Ce
instance:Inhabited Vc:=⟨⟨0,default⟩⟩
def eV(x:Vc):D:=.a [.i x.v,eC x.c]
def dV(d:D):Vc:=⟨(d.fld 0).int,dC (d.fld 1)⟩
theorem qub(x:Vc):dV (eV x)=x:=rfl
theorem zr5{a b:Vc}(h:eV a=eV b):a=b:=by rw[←qub a,h,qub b]
instance:DecidableEq Vc:=fun a b=>if h:eV a=eV b then .isTrue (zr5 h) else .isFalse fun e=>h (e▸rfl)
theorem z7k(x:Vc):(eV x).fld 0=.i x.v:=rfl
theorem ze2(x:Vc):(eV x).fld 1=eC x.c:=rfl
theorem zpm(n:Int)(c:Ce):D.a [.i n,eC c]=eV ⟨n,c⟩:=rfl
def dVs(d:D):List Vc:=d.rs.map dV
theorem q0d(l:List Vc):dVs (.r (l.map eV))=l:=by
 show(l.map eV).map dV=l
 rw[jB];exact vZ (fun x=>rfl) l
variable{d:D}
theorem wfV(h:Wf d qn2):∃c,d=eV c∧i64 c.v∧c.c.ok:=by
 obtain⟨ds,rfl,hl⟩:=h.st_of (fs:=[.int .i64,qk]) rfl;obtain⟨a,b,rfl,ha,hb⟩:=z81 hl;obtain⟨x,rfl,hx⟩:=wfI ha;obtain⟨y,rfl,hy⟩:=wfC hb;exact⟨⟨x,y⟩,rfl,hx,hy⟩
theorem qy1(h:Wf d z8b):∃l:List Vc,d=.r (l.map eV)∧l.length≤5864062014634∧∀x∈l,i64 x.v∧x.c.ok:=by
 obtain⟨l,e,h1,h2⟩:=h.row_of (te:=qn2) rfl;subst e;obtain⟨m,rfl,h3⟩:=qe5 (e:=eV) (P:=fun x=>i64 x.v∧x.c.ok) fun x hx=>wfV (h2 x hx);have e:LM qn2=5864062014634:=by kernel_rfl
 rw[e,kG] at h1;exact⟨m,rfl,h1,h3⟩
def ofV:List Vc→Int→Option Ce
 |[],_=>none
 |x::l,v=>if x.v=v then some x.c else ofV l v
def qa9:List Vc→Int→Ce→List Vc
 |[],v,c=>[⟨v,c⟩]
 |x::l,v,c=>if x.v<v then x::qa9 l v c else⟨v,c⟩::x::l
def loV:List Vc→Int→Nat
 |[],_=>0
 |x::l,v=>if x.v<v then loV l v+1 else 0
def SV(l:List Vc):Prop:=l.Pairwise (fun a b=>a.v<b.v)∧∀x∈l,0≤x.v∧x.v≤1099511627776
instance(l:List Vc):Decidable (SV l):=inferInstanceAs (Decidable (_∧_))
theorem z37(v:Int):∀l,loV l v≤l.length
 |[]=>uQ _
 |x::l=>by
  unfold loV;have:=z37 v l;split<;>simp<;>omega
variable{v:Int}
theorem z8x:∀{l:List Vc}{j:Nat},j<loV l v→(l.getD j default).v<v
 |[],j,h=>by simp[loV] at h
 | x :: l, j, h => by
  unfold loV at h;split at h
  ·rename_i hx;cases j with
   |zero=>exact hx
   |succ j=>
    rw[kL];exact z8x (by omega)
  ·omega
theorem qtm:∀{l:List Vc},loV l v<l.length→v≤(l.getD (loV l v) default).v
 |[],h=>by simp[loV] at h
 | x :: l, h => by
  unfold loV at h⊢;split at h
  ·rename_i hx;rw[if_pos hx,kL];exact qtm (by simpa using h)
  ·rename_i hx;rw[if_neg hx,kK];omega
variable{i:Nat}
theorem zil{l:List Vc}(hi:i≤l.length)(h1:∀j,j<i→(l.getD j default).v<v)(h2:∀j,i≤j→j<l.length→v≤(l.getD j default).v):loV l v=i:=by
 rcases Nat.lt_trichotomy (loV l v) i with h|h|h
 ·have:=h1 _ h;have:=qtm (v:=v) (l:=l) (by omega);omega
 ·exact h
 ·have:=z8x h;have h3:=z37 v l;have:=h2 i (uQ _) (by omega);omega
theorem qk5(v:Int)(c:Ce):∀l,qa9 l v c=l.take (loV l v)++⟨v,c⟩::l.drop (loV l v)
 |[]=>rfl
 | x :: l => by
  unfold qa9 loV;split
  ·rw[qk5 v c l];rfl
  ·rfl
theorem z4z:∀{l:List Vc},(∀y∈l,y.v≠v)→ofV l v=none
 |[],_=>rfl
 |x::l,h=>by
  unfold ofV;rw[if_neg (h x (by simp)),z4z fun y hy=>h y (by simp[hy])]
theorem z8h:∀{l:List Vc},SV l→ofV l v=if loV l v<l.length∧(l.getD (loV l v) default).v=v then some (l.getD (loV l v) default).c else none
 |[],_=>rfl
 | x :: l, h => by
  have hp:=uX.1 h.1;have hl:SV l:=⟨hp.2,fun y hy=>h.2 y (by simp[hy])⟩;unfold ofV loV;by_cases hx:x.v<v
  ·rw[if_neg (by omega),if_pos hx,z8h hl];simp
  ·rw[if_neg hx];by_cases he:x.v=v
   ·simp[he]
   ·rw[if_neg he,z4z fun y hy=>by have:=hp.1 y hy;omega];simp[he]
variable{c:Ce}
theorem z2v:∀{l:List Vc},ofV l v=some c→⟨v,c⟩∈l
 |[],h=>by cases h
 | x :: l, h => by
  unfold ofV at h;split at h
  ·rename_i hx;injection h with h;subst hx h;exact kA
  ·exact uV _ (z2v h)
theorem zf8:∀{l:List Vc},ofV l v=none→∀y∈l,y.v≠v
 |[],_,y,hy=>by cases hy
 | x :: l, h, y, hy => by
  unfold ofV at h;split at h
  ·cases h
  ·rename_i hx;rcases uY.1 hy with rfl|hy
   ·exact hx
   ·exact zf8 h y hy
theorem z74{l:List Vc}{y:Vc}:y∈qa9 l v c↔y=⟨v,c⟩∨y∈l:=by
 rw[qk5,kF,uY]
 conv=>rhs;rw[←uJ (loV l v) l,kF]
 constructor
 ·rintro(h|h|h)
  ·exact .inr (.inl h)
  ·exact .inl h
  ·exact .inr (.inr h)
 ·rintro(h|h|h)
  ·exact .inr (.inl h)
  ·exact .inl h
  ·exact .inr (.inr h)
theorem z2g(h0:0≤v)(h1:v≤1099511627776):∀{l:List Vc},SV l→ofV l v=none→SV (qa9 l v c):=fun{l}h hn=>by
 refine⟨?_,fun y hy=>?_⟩
 ·have hne:=zf8 hn;have key:∀l:List Vc,l.Pairwise (fun a b=>a.v<b.v)→(∀y∈l,y.v≠v)→(qa9 l v c).Pairwise fun a b=>a.v<b.v:=by
   intro l
   induction l with
   |nil=>intro _ _;exact vK _ _
   | cons x l ih =>
    intro hp hn;have hp':=uX.1 hp;unfold qa9;split
    ·rename_i hx;refine uX.2 ⟨fun y hy=>?_,ih hp'.2 fun y hy=>hn y (by simp[hy])⟩;rcases z74.1 hy with rfl|hy
     ·exact hx
     ·exact hp'.1 y hy
    ·rename_i hx;have:=hn x (by simp);refine uX.2 ⟨fun y hy=>?_,hp⟩;rcases uY.1 hy with rfl|hy
     ·show v<y.v;omega
     ·have:=hp'.1 y hy
      show v<y.v
      omega
  exact key l h.1 hne
 ·rcases z74.1 hy with rfl|hy
  ·exact⟨h0,h1⟩
  ·exact h.2 y hy
theorem zey{b:Int}:∀(l:List Vc)(a:Int),a≤b+1→l.Pairwise (fun x y=>x.v<y.v)→(∀x∈l,a≤x.v∧x.v≤b)→(l.length:Int)≤b - a+1
 |[],a,h,_,_=>by simp;omega
 |x::l,a,h,hp,hr=>by
  have hp':=uX.1 hp;have hx:=hr x (by simp);have:=zey l (x.v+1) (by omega) hp'.2 fun y hy=>⟨by have:=hp'.1 y hy;omega,(hr y (by simp[hy])).2⟩;rw[uR];omega
theorem SV.len{l:List Vc}(h:SV l):(l.length:Int)≤1099511627777:=by
 have:=zey (b:=1099511627776) l 0 (by omega) h.1 h.2;omega
variable{nm:ByteArray}
theorem zd4{ar:Int}:∀(k:Nat)(l:List Sy),0≤fnd nm ar k l↔(⟨nm,ar⟩:Sy)∈l
 |k,[]=>by simp[fnd]
 | k, y :: l => by
  unfold fnd;split
  ·rename_i h;obtain⟨rfl,rfl⟩:=h;exact⟨fun _=>by simp,fun _=>Int.natCast_nonneg _⟩
  ·rename_i h;rw[zd4 (k+1) l,uY];exact⟨.inr,fun h'=>h'.elim (fun e=>by subst e;exact(h ⟨rfl,rfl⟩).elim) id⟩
theorem qgw{s:So}{ar:Int}:0≤q60 s nm ar↔(⟨nm,ar⟩:Sy)∈s.ys:=zd4 0 s.ys
def jp(s:So)(nm:ByteArray)(ar:Int):Int×So:=if 0≤q60 s nm ar then(q60 s nm ar,s) else((s.ys.length:Nat),{s with ys:=s.ys++[⟨nm,ar⟩]})
def qb5(ys:List Sy)(y:Sy):List Sy:=if y∈ys then ys else ys++[y]
mutual
def q33(ys:List Sy):Te→List Sy
 |.mk k _ nm l=>q0e (if k=2∨k=3 then qb5 ys ⟨nm,(l.length:Nat)⟩ else ys) l
def q0e(ys:List Sy):List Te→List Sy
 |[]=>ys
 |t::l=>q0e (q33 ys t) l
end
theorem quk(ys:List Sy)(y:Sy):ys.length≤(qb5 ys y).length:=by
 unfold qb5;split
 ·exact uQ _
 ·simp
mutual
theorem qmc:∀(t:Te)(ys:List Sy),ys.length≤(q33 ys t).length
 |.mk k n nm l,ys=>by
  rw[q33];refine kX ?_ (q7s l _);split
  ·exact quk _ _
  ·exact uQ _
theorem q7s:∀(l:List Te)(ys:List Sy),ys.length≤(q0e ys l).length
 |[],ys=>uQ _
 |t::l,ys=>by
  rw[q0e];exact kX (qmc t ys) (q7s l _)
end
theorem qgx(s:So)(nm:ByteArray)(ar:Int):(jp s nm ar).2.cs=s.cs∧(jp s nm ar).2.mx=s.mx∧(jp s nm ar).2.ys=qb5 s.ys ⟨nm,ar⟩∧(jp s nm ar).2.tr=s.tr∧(jp s nm ar).2.wk=s.wk∧(jp s nm ar).2.ser=s.ser:=by
 unfold jp qb5;by_cases h:0≤q60 s nm ar
 ·rw[if_pos h,if_pos (qgw.1 h)];exact⟨rfl,rfl,rfl,rfl,rfl,rfl⟩
 ·rw[if_neg h,if_neg (fun q=>h (qgw.2 q))];exact⟨rfl,rfl,rfl,rfl,rfl,rfl⟩
def qvb(ys ms:List Sy)(y:Sy):List Sy:=if y∈ms∨y∈ys then ms else ms++[y]
mutual
def qdr(ys ms:List Sy):Te→List Sy
 |.mk k _ nm l=>q6m ys (if k=2∨k=3 then qvb ys ms ⟨nm,(l.length:Nat)⟩ else ms) l
def q6m(ys ms:List Sy):List Te→List Sy
 |[]=>ms
 |t::l=>q6m ys (qdr ys ms t) l
end
theorem zqz(ys ms:List Sy)(y:Sy):ys++qvb ys ms y=qb5 (ys++ms) y:=by
 unfold qvb qb5;by_cases h:y∈ms∨y∈ys
 ·rw[if_pos h,if_pos (kF.2 h.symm)]
 ·rw[if_neg h,if_neg (fun q=>h (kF.1 q).symm),uU]
mutual
theorem qve:∀(t:Te)(ys ms:List Sy),ys++qdr ys ms t=q33 (ys++ms) t
 |.mk k n nm l,ys,ms=>by
  rw[qdr,q33,zby];split
  ·rw[zqz]
  ·rfl
theorem zby:∀(l:List Te)(ys ms:List Sy),ys++q6m ys ms l=q0e (ys++ms) l
 |[],ys,ms=>rfl
 |t::l,ys,ms=>by rw[q6m,q0e,zby,qve]
end
theorem zge(ys ms:List Sy)(y:Sy):(qvb ys ms y).length≤ms.length+1:=by
 unfold qvb;split
 ·omega
 ·simp
mutual
theorem qly:∀(t:Te)(ys ms:List Sy),(qdr ys ms t).length≤ms.length+szT t
 | .mk k n nm l, ys, ms => by
  rw[qdr,szT];refine kX (z01 l _ _) ?_;split
  ·have:=zge ys ms ⟨nm,(l.length:Nat)⟩;omega
  ·omega
theorem z01:∀(l:List Te)(ys ms:List Sy),(q6m ys ms l).length≤ms.length+q4y l
 |[],ys,ms=>by simp[q6m,q4y]
 |t::l,ys,ms=>by
  rw[q6m,q4y];have h1:=qly t ys ms;have h2:=z01 l ys (qdr ys ms t);omega
end
mutual
/-- The cells that a term needs, but for a variable that is no argument. -/
def q5v:Te→Nat
 |.mk k _ _ l=>if k=3 then 1+l.length+q29 l else 0
def q29:List Te→Nat
 |[]=>0
 |t::l=>q5v t+q29 l
end
mutual
theorem qlc:∀t:Te,q5v t+1≤2 * szT t
 |.mk k n nm l=>by
  rw[q5v,szT];have h1:=z6z l;have h2:=z69 l;split<;>omega
theorem z6z:∀l:List Te,q29 l+l.length≤2 * q4y l
 |[]=>uQ _
 |t::l=>by
  rw[q29,q4y,uR];have h1:=qlc t;have h2:=z6z l;omega
end
def q46(t:Te)(all:List Vc):Nat:=q5v t+if t.k=0∧ofV all t.n=none then 1 else 0
abbrev Sv:=So×List Vc
def qcn(s:So)(i:Nat)(c:Ce):So:={s with cs:=s.cs.set i c}
mutual
/-- A term added; at: the address of the argument that it becomes. -/
def z9(q:Sv):Te→Int→Ce×Sv
 | .mk k n nm l, at' =>
  if k=1 then(⟨1,n⟩,q)
  else if k=2 then(⟨2,(jp q.1 nm 0).1⟩,(jp q.1 nm 0).2,q.2)
  else if k=0 then(match ofV q.2 n with
   |some c=>(q2q c,q)
   |none=>if at'<0 then(⟨0,(q.1.cs.length:Nat)⟩,{q.1 with cs:=q.1.cs++[⟨0,(q.1.cs.length:Nat)⟩]},qa9 q.2 n ⟨0,(q.1.cs.length:Nat)⟩) else(⟨0,at'⟩,q.1,qa9 q.2 n ⟨0,at'⟩))
  else(⟨3,(q.1.cs.length:Nat)⟩,je ({(jp q.1 nm (l.length:Nat)).2 with cs:=q.1.cs++(⟨4,(jp q.1 nm (l.length:Nat)).1⟩::vI l.length ⟨0,0⟩)},q.2) l (q.1.cs.length+1))
def je(q:Sv):List Te→Nat→Sv
 |[],_=>q
 |a::l,to=>je (qcn (z9 q a (to:Nat)).2.1 to (z9 q a (to:Nat)).1,(z9 q a (to:Nat)).2.2) l (to+1)
end
theorem q3r(s:So)(i:Nat)(c:Ce):(qcn s i c).cs.length=s.cs.length:=by simp[qcn]
def Rst(s s':So):Prop:=s'.mx=s.mx∧s'.tr=s.tr∧s'.wk=s.wk∧s'.ser=s.ser
theorem Rst.trans{a b c:So}(h:Rst a b)(k:Rst b c):Rst a c:=⟨k.1.trans h.1,k.2.1.trans h.2.1,k.2.2.1.trans h.2.2.1,k.2.2.2.trans h.2.2.2⟩
theorem zlg(k n:Int)(s:ByteArray)(l:List Te):q9z (.mk k n s l)=if k=0 then decide (0≤n)&&(decide (n≤1099511627776)&&(decide (s=⟨#[]⟩)&&decide ((l.length:Int)=0)))
 else if k=1 then decide (s=⟨#[]⟩)&&decide ((l.length:Int)=0)
 else if k=2 then decide (n=0)&&(decide ((s.size:Int)≤100)&&decide ((l.length:Int)=0))
 else if k=3 then decide (n=0)&&(decide ((s.size:Int)≤100)&&(decide (1≤(l.length:Int))&&decide ((l.length:Int)≤8)))
 else false:=rfl
theorem q1t{k n:Int}{s:ByteArray}{l:List Te}(h:q9z (.mk k n s l)=true):(k=0∧l=[]∧0≤n∧n≤1099511627776)∨(k=1∧l=[])∨(k=2∧l=[]∧s.size≤100)∨(k=3∧s.size≤100∧1≤l.length∧l.length≤8):=by
 rw[zlg] at h;by_cases h0:k=0
 ·rw[if_pos h0] at h;simp only[gnB,gnD] at h;exact .inl ⟨h0,kO.1 (by omega),h.1,h.2.1⟩
 rw[if_neg h0] at h;by_cases h1:k=1
 ·rw[if_pos h1] at h;simp only[gnB,gnD] at h;exact .inr (.inl ⟨h1,kO.1 (by omega)⟩)
 rw[if_neg h1] at h;by_cases h2:k=2
 ·rw[if_pos h2] at h;simp only[gnB,gnD] at h;exact .inr (.inr (.inl ⟨h2,kO.1 (by omega),by omega⟩))
 rw[if_neg h2] at h;split at h
 ·rename_i h3;simp only[gnB,gnD] at h;exact .inr (.inr (.inr ⟨h3,by omega,by omega,by omega⟩))
 ·cases h
theorem q9m(q:Sv)(n:Int)(nm:ByteArray)(l:List Te)(a:Int):z9 q (.mk 0 n nm l) a=match ofV q.2 n with
   |some c=>(q2q c,q)
   |none=>if a<0 then(⟨0,(q.1.cs.length:Nat)⟩,{q.1 with cs:=q.1.cs++[⟨0,(q.1.cs.length:Nat)⟩]},qa9 q.2 n ⟨0,(q.1.cs.length:Nat)⟩) else(⟨0,a⟩,q.1,qa9 q.2 n ⟨0,a⟩):=by
 rw[z9,if_neg (by decide),if_neg (by decide),if_pos rfl]
theorem qdd(q:Sv)(n:Int)(nm:ByteArray)(l:List Te)(a:Int):z9 q (.mk 1 n nm l) a=(⟨1,n⟩,q):=by rw[z9,if_pos rfl]
theorem qdj(q:Sv)(n:Int)(nm:ByteArray)(l:List Te)(a:Int):z9 q (.mk 2 n nm l) a=(⟨2,(jp q.1 nm 0).1⟩,(jp q.1 nm 0).2,q.2):=by rw[z9,if_neg (by decide),if_pos rfl]
theorem qe4(q:Sv)(n:Int)(nm:ByteArray)(l:List Te)(a:Int):z9 q (.mk 3 n nm l) a=(⟨3,(q.1.cs.length:Nat)⟩,je ({(jp q.1 nm (l.length:Nat)).2 with cs:=q.1.cs++(⟨4,(jp q.1 nm (l.length:Nat)).1⟩::vI l.length ⟨0,0⟩)},q.2) l (q.1.cs.length+1)):=by rw[z9,if_neg (by decide),if_neg (by decide),if_neg (by decide)]
theorem qmg{k n:Int}{l:List Te}(h:k≠3):q5v (.mk k n nm l)=0:=by rw[q5v,if_neg h]
theorem qta{k n:Int}{l:List Te}(h:k≠0)(all:List Vc):q46 (.mk k n nm l) all=q5v (.mk k n nm l):=by
 unfold q46;rw[if_neg (fun q=>h q.1)];rfl
variable{ys:List Sy}
theorem zct{k n:Int}(h:¬(k=2∨k=3)):q33 ys (.mk k n nm [])=ys:=by rw[q33,if_neg h,q0e]
theorem zag{n:Int}:q33 ys (.mk 2 n nm [])=qb5 ys ⟨nm,0⟩:=by rw[q33,if_pos (.inl rfl),q0e];rfl
theorem za8{n:Int}{l:List Te}:q33 ys (.mk 3 n nm l)=q0e (qb5 ys ⟨nm,(l.length:Nat)⟩) l:=by rw[q33,if_pos (.inr rfl)]
theorem zfg{n:Int}{l:List Te}:q5v (.mk 3 n nm l)=1+l.length+q29 l:=by rw[q5v,if_pos rfl]
theorem Rst.refl(s:So):Rst s s:=⟨rfl,rfl,rfl,rfl⟩
mutual
theorem q2x:∀(t:Te)(q:Sv)(a:Int),zq t=true→SV q.2→(z9 q t a).2.1.cs.length=q.1.cs.length+(if a<0 then q46 t q.2 else q5v t)∧(z9 q t a).2.1.ys=q33 q.1.ys t∧Rst q.1 (z9 q t a).2.1∧SV (z9 q t a).2.2
 | .mk k n nm l, q, a, hn, hs => by
  rw[zq,gnB] at hn;rcases q1t hn.1 with⟨rfl,rfl,h1,h2⟩|⟨rfl,rfl⟩|⟨rfl,rfl,h1⟩|⟨rfl,h1,h2,h3⟩
  ·have e1:q46 (.mk 0 n nm []) q.2=if ofV q.2 n=none then 1 else 0:=by
    unfold q46;rw[qmg (by decide)];simp[Te.k,Te.n]
   rw[q9m,zct (by decide),qmg (by decide),e1];cases ho:ofV q.2 n with
   |some c=>exact⟨by simp,rfl,Rst.refl _,hs⟩
   | none =>
    by_cases ha:a<0
    ·simp only[if_pos ha];exact⟨by simp,by trivial,⟨rfl,rfl,rfl,rfl⟩,z2g h1 h2 hs ho⟩
    ·simp only[if_neg ha];exact⟨by simp,by trivial,⟨rfl,rfl,rfl,rfl⟩,z2g h1 h2 hs ho⟩
  ·rw[qdd,zct (by decide),qta (by decide),qmg (by decide)];exact⟨by simp,rfl,Rst.refl _,hs⟩
  ·obtain⟨e1,e2,e3,e4,e5,e6⟩:=qgx q.1 nm 0;rw[qdj,zag,qta (by decide),qmg (by decide)];exact⟨by rw[e1];simp,e3,⟨e2,e4,e5,e6⟩,hs⟩
  ·obtain⟨e1,e2,e3,e4,e5,e6⟩:=qgx q.1 nm (l.length:Nat);rw[qe4,za8,qta (by decide),zfg];obtain⟨g1,g2,g3,g4⟩:=qd5 l ({(jp q.1 nm (l.length:Nat)).2 with cs:=q.1.cs++(⟨4,(jp q.1 nm (l.length:Nat)).1⟩::vI l.length ⟨0,0⟩)},q.2) (q.1.cs.length+1) hn.2 hs;refine⟨?_,?_,?_,g4⟩
   ·rw[g1];simp;omega
   ·rw[g2]
    show q0e (jp q.1 nm (l.length:Nat)).2.ys l=_
    rw[e3]
   ·exact Rst.trans ⟨e2,e4,e5,e6⟩ g3
theorem qd5:∀(l:List Te)(q:Sv)(to:Nat),q0m l=true→SV q.2→(je q l to).1.cs.length=q.1.cs.length+q29 l∧(je q l to).1.ys=q0e q.1.ys l∧Rst q.1 (je q l to).1∧SV (je q l to).2
 |[],q,to,_,hs=>⟨rfl,rfl,⟨rfl,rfl,rfl,rfl⟩,hs⟩
 | t :: l, q, to, hn, hs => by
  rw[q0m,gnB] at hn;rw[je,q29,q0e];obtain⟨h1,h2,h3,h4⟩:=q2x t q (to:Nat) hn.1 hs;obtain⟨g1,g2,g3,g4⟩:=qd5 l (qcn (z9 q t (to:Nat)).2.1 to (z9 q t (to:Nat)).1,(z9 q t (to:Nat)).2.2) (to+1) hn.2 h4;refine⟨?_,?_,?_,g4⟩
  ·rw[g1,q3r,h1,if_neg (by omega)];omega
  ·rw[g2]
   show q0e (z9 q t (to:Nat)).2.1.ys l=_
   rw[h2]
  ·exact Rst.trans h3 g3
end
variable{cs:List Value}{T:TypeId}
section
namespace Ins
open Go.RowKit Go.Shelf Go.Lib
attribute [local go_sem] Oper.semAt_some
abbrev E3:=Int×Int×Int
def fl3(x:E3):List Value:=[.int .i64 x.1,.int .i64 x.2.1,.int .i64 x.2.2]
def fls(l:List E3):List Value:=l.flatMap fl3
theorem qbx(l:List E3):(fls l).length=l.length * 3:=by
 induction l with
 |nil=>rfl
 |cons x l ih=>simp[fls,fl3] at *;omega
theorem qs2(l m:List E3):fls (l++m)=fls l++fls m:=List.flatMap_append
theorem qrr{l:List E3}:∀v∈fls l,v.oneCell'=true:=fun v hv=>by
 obtain⟨x,-,hx⟩:=List.mem_flatMap.1 hv;simp only[fl3,uY,List.not_mem_nil,or_false] at hx;rcases hx with rfl|rfl|rfl<;>rfl
theorem ql2(x:E3)(l:List E3):fls (x::l)=fl3 x++fls l:=rfl
theorem z1r:uL.underlying 98=some (.slice 102):=by kernel_rfl
theorem zlb:uL.underlying 3=some (.int .i64):=by kernel_rfl
theorem zaj:(uL.info? 102).map (fun i=>(i.size,i.bytes))=some (3,24):=by kernel_rfl
theorem zrc:(uL.info? 102).map (fun i=>i.zero)=some (some (.agg #[.int .i64 0,.int .i64 0,.int .i64 0])):=by kernel_rfl
theorem zmx(w:World):(Go.sizeOf 102).run uL w=.ok 3 w:=by kernel_rfl
theorem qgv(w:World)(ty:TypeId)(g o dLen dCap:Nat)(a:Addr)(sLen sCap:Nat)(cur:Array Value)(t:TypeId)(cs:List Value)
  (hg:w.heap[g]? =some (.cells cur t (0,0))){n:Nat}(hn:n=Nat.min sLen dLen)(hl:cs.length=n * 3)
  (hsrc:∀j v,cs[j]? =some v→w.cell? (a.add j)=some v)(hfit:o+cs.length≤cur.size)(h1:∀v∈cs,v.oneCell'=true):
  (kJ #[98,98] ty #[.slice (some ⟨g,o,none⟩) dLen dCap,.slice (some a) sLen sCap]).run uL w=
   .ok (goInt n) (w.setRow g (cur.toList.take o++cs++cur.toList.drop (o+cs.length)).toArray):=by
 have hld:=run_loadCells_list (P:=uL) w a cs hsrc;have hst:=run_storeCells_at uL g o t cs 0 cur w hg (by simpa using hfit) h1;obtain⟨i,hi,e⟩:=kU.1 zaj;simp only[Prod.mk.injEq] at e;rw[hl] at hld;simp[kJ,run_underlying z1r,Builtin.lenOf,vM,sizeOf,typeInfo,hi,e.1,←hn,hld,hst]
theorem qd4{w:World}{b k:Nat}(h:w.heap[b]? =some (.cells cs.toArray T (0,0))){v:Value}(hv:cs[k]? =some v):w.cell? ⟨b,k,none⟩=some v:=by
 rw[cell_of_row w b k _ T (0,0) h];simpa using hv
theorem zhc(w:World)(b cap vb vc i n:Nat)(L0:List E3)(x:E3)(post vpost:List Value)(E Ev:TypeId)(hL:L0.length=n)(hi:i<n)(hcap:n+1≤cap)(hc63:cap≤9223372036854775807)(hne:vb≠b)(hp3:3≤post.length)
  (hb:w.heap[b]? =some (.cells (fls L0++post).toArray E (0,0)))(hv:w.heap[vb]? =some (.cells (fl3 x++vpost).toArray Ev (0,0))):
  Calls uL 107 #[.slice (some ⟨b,0,none⟩) n cap,.int .i64 i,.slice (some ⟨vb,0,none⟩) 1 vc] w fun e w'=>
   e=.returned (.slice (some ⟨b,0,none⟩) (n+1) cap)∧But (fun k=>k=b) w w'∧w'.heap[b]? =some (.cells (fls (L0.take i++x::L0.drop i)++post.drop 3).toArray E (0,0)):=by
 have hlL:=qbx L0;have hlt:=qbx (L0.take i);have hld:=qbx (L0.drop i);have hsplit:fls L0=fls (L0.take i)++fls (L0.drop i):=by rw[←qs2,uJ]
 have htl:(L0.take i).length=i:=by rw[uD];omega
 have hdl:(L0.drop i).length=n - i:=by rw[uH,hL]
 have hov:∀lb cb,(callFunc 120 #[.slice (some ⟨vb,0,none⟩) 1 vc,.slice (some ⟨b,(i+1) * 3,none⟩) lb cb]).run uL w=.ok (.value (.bool false)) w:=fun lb cb=>by
  rw[run_callFunc_extern Tryz.func120 (by kernel_rfl) (by kernel_rfl) (by kernel_rfl) (e:=Extern.SlicesOverlaps.overlaps #[98,98] #[4]) (by kernel_rfl),
   Lib.run_overlaps_apart w 98 4 102 z1r 3 zmx ⟨vb,0,none⟩ ⟨b,(i+1) * 3,none⟩ 1 vc lb cb hne Ev E (fl3 x++vpost).toArray.size (fls L0++post).toArray.size (by simp[World.shape?,hv]) (by simp[World.shape?,hb]) (by rw[vQ,uE];omega) (by simp[World.frozen?,hv]) (by simp[World.frozen?,hv])]
  rfl
 have hcp1:∀ty dc sc,(kJ #[98,98] ty #[.slice (some ⟨b,(i+1) * 3,none⟩) (n - i) dc,.slice (some ⟨b,i * 3,none⟩) (n+1 - i) sc]).run uL w.drew=.ok (goInt (n - i:Nat)) (w.drew.setRow b ((fls L0++post).toArray.toList.take ((i+1) * 3)++fls (L0.drop i)++(fls L0++post).toArray.toList.drop ((i+1) * 3+(fls (L0.drop i)).length)).toArray):=fun ty dc sc=>
  qgv w.drew ty b ((i+1) * 3) (n - i) dc ⟨b,i * 3,none⟩ (n+1 - i) sc (fls L0++post).toArray E (fls (L0.drop i)) hb (by simp only[vG];split<;>omega) (by rw[hld,hdl])
   (fun j v hj=>by
    rw[Addr.add_lit];refine qd4 (w:=w.drew) (T:=E) hb ?_;rw[hsplit,uU,uB (by omega),show i * 3+j - (fls (L0.take i)).length=j by omega];exact uC (by have:=(gnH.1 hj).1;omega)▸hj)
   (by simp;omega) qrr
 obtain⟨J,hJ,hcur⟩:∃J:List Value,J.length=3∧((fls L0++post).toArray.toList.take ((i+1) * 3)++fls (L0.drop i)++(fls L0++post).toArray.toList.drop ((i+1) * 3+(fls (L0.drop i)).length))=fls (L0.take i)++(J++(fls (L0.drop i)++post.drop 3)):=by
  refine⟨(fls (L0.drop i)).take 3,by rw[uD];omega,?_⟩;have e1:(fls L0++post).take ((i+1) * 3)=fls (L0.take i)++(fls (L0.drop i)).take 3:=by
   rw[hsplit,uU,vS,uO (by omega),show(i+1) * 3 - (fls (L0.take i)).length=3 by omega,vE (by omega)]
  have e2:(fls L0++post).drop ((i+1) * 3+(fls (L0.drop i)).length)=post.drop 3:=by
   rw[vD,uF (by omega),kM]
   congr 1
   omega
  show(fls L0++post).take _++_++(fls L0++post).drop _=_
  rw[e1,e2];simp
 rw[hcur] at hcp1;have hb1:(w.drew.setRow b (fls (L0.take i)++(J++(fls (L0.drop i)++post.drop 3))).toArray).heap[b]? =some (.cells (fls (L0.take i)++(J++(fls (L0.drop i)++post.drop 3))).toArray E (0,0)):=setRow_heap w.drew b _ _ E _ hb;have hv1:(w.drew.setRow b (fls (L0.take i)++(J++(fls (L0.drop i)++post.drop 3))).toArray).heap[vb]? =some (.cells (fl3 x++vpost).toArray Ev (0,0)):=by
  rw[setRow_other w.drew b vb _ hne];exact hv
 obtain⟨W1,hW1⟩:∃W1,W1=w.drew.setRow b (fls (L0.take i)++(J++(fls (L0.drop i)++post.drop 3))).toArray:=⟨_,rfl⟩;rw[←hW1] at hcp1 hb1 hv1
 have hcp2:∀(W:World),W.heap=W1.heap→∀ty dc,(kJ #[98,98] ty #[.slice (some ⟨b,i * 3,none⟩) (n+1 - i) dc,.slice (some ⟨vb,0,none⟩) 1 vc]).run uL W=.ok (goInt (1:Nat)) (W.setRow b ((fls (L0.take i)++(J++(fls (L0.drop i)++post.drop 3))).toArray.toList.take (i * 3)++fl3 x++(fls (L0.take i)++(J++(fls (L0.drop i)++post.drop 3))).toArray.toList.drop (i * 3+(fl3 x).length)).toArray):=fun W hW ty dc=>
  qgv W ty b (i * 3) (n+1 - i) dc ⟨vb,0,none⟩ 1 vc _ E (fl3 x) (hW▸hb1) (by simp only[vG];split<;>omega) rfl
   (fun j v hj=>by
    rw[Addr.add_lit,kV];refine qd4 (w:=W) (T:=Ev) (hW▸hv1) ?_;exact uC (by have:=(gnH.1 hj).1;omega)▸hj)
   (by simp[fl3];omega) (fun v hv=>qrr (l:=[x]) v (by simpa[fls] using hv))
 have hcur2:((fls (L0.take i)++(J++(fls (L0.drop i)++post.drop 3))).toArray.toList.take (i * 3)++fl3 x++(fls (L0.take i)++(J++(fls (L0.drop i)++post.drop 3))).toArray.toList.drop (i * 3+(fl3 x).length))=fls (L0.take i++x::L0.drop i)++post.drop 3:=by
  show(fls (L0.take i)++(J++(fls (L0.drop i)++post.drop 3))).take _++_++(fls (L0.take i)++(J++(fls (L0.drop i)++post.drop 3))).drop _=_
  rw[show i * 3=(fls (L0.take i)).length by omega,kP,show(fls (L0.take i)).length+(fl3 x).length=(fls (L0.take i)++J).length by rw[uE,hJ];rfl,←uU (fls (L0.take i)) J,kD,qs2,ql2];simp
 rw[hcur2] at hcp2;have hw1:IntKind.i64.wrap ((i:Int)+1)=(i:Int)+1:=by rw[IntKind.wrap_i64];omega
 have hz2:¬((i:Int)=(n:Int)):=by omega
 have h0i:(0:Int)≤(i:Int)+1:=by omega
 have hin:i≤n:=by omega
 have htn:((i:Int)+1).toNat=i+1:=by omega
 have hb2:¬(cap=i+1):=by omega
 have hb3:(i:Int)≤(n:Int)+1:=by omega
 have hb4:¬(cap=i):=by omega
 go_enter jA,vX
 go_wp2_with (simp only[hov])
 go_region_law (refine step_copy_runI rfl _ _ 98 98 rfl _ _ (by simp[Act.eval,Act.put]) (by simp[Act.eval,Act.put]) (hcp1 _ _ _) ?_)
 go_wp2_with (at_builtin;refine wpList_copy_runI _ rfl _ _ 98 98 rfl _ _ rfl rfl (hcp2 _ rfl _ _) ?_)
 go_ret
 exact⟨rfl,q84 (S:=fun k=>k=b) (q84 (S:=fun k=>k=b) (But.refl _ w).drew (.inl rfl) _) (.inl rfl) _,setRow_heap _ _ _ _ _ _ (by rw[←hW1];exact hb1)⟩
theorem zf1(a c:List Value)(k:Nat):(a++c).drop (a.length+k)=c.drop k:=by rw[vD,uF (Nat.le_add_right _ _),kE,kM]
theorem zft(w:World)(b vb vc i n:Nat)(L0:List E3)(x:E3)(post vpost:List Value)(E Ev:TypeId)(hL:L0.length=n)(hi:i<n)(hbig:(n+1) * 24≤140737488355328)(hne:vb≠b)
  (hb:w.heap[b]? =some (.cells (fls L0++post).toArray E (0,0)))(hv:w.heap[vb]? =some (.cells (fl3 x++vpost).toArray Ev (0,0))):
  Calls uL 107 #[.slice (some ⟨b,0,none⟩) n n,.int .i64 i,.slice (some ⟨vb,0,none⟩) 1 vc] w fun e w'=>
   ∃(G:Nat)(rest:List Value),e=.returned (.slice (some ⟨w.heap.size,0,none⟩) (n+1) G)∧But Nil w w'∧n+1≤G∧G≤maxLen∧rest.length=(G - (n+1)) * 3∧w'.heap[w.heap.size]? =some (.cells (fls (L0.take i++x::L0.drop i)++rest).toArray 102 (0,0)):=by
 have hlL:=qbx L0;have hlt:=qbx (L0.take i);have hld:=qbx (L0.drop i);have hsplit:fls L0=fls (L0.take i)++fls (L0.drop i):=by rw[←qs2,uJ]
 have htl:(L0.take i).length=i:=by rw[uD];omega
 have hdl:(L0.drop i).length=n - i:=by rw[uH,hL]
 have hbw:=qq hb;have hvw:=qq hv;obtain⟨i0,hi0,e0⟩:=kU.1 zaj;obtain⟨i1,hi1,ez⟩:=kU.1 zrc;obtain rfl:=gnI (hi0.symm.trans hi1);simp only[Prod.mk.injEq] at e0;have hold:(vM i0.size i (.slice (some ⟨b,0,none⟩) i n)).run uL w.drew=.ok (fls (L0.take i)).toArray w.drew:=by
  rw[e0.1];exact run_firstCells_some w.drew 3 i ⟨b,0,none⟩ i n (fls (L0.take i)) (by omega) (fun j v hj=>by
   rw[Addr.add_lit,kV];refine qd4 (w:=w.drew) (T:=E) hb ?_;rw[hsplit,uU];exact uC (by have:=(gnH.1 hj).1;omega)▸hj)
 obtain⟨G,hG⟩:∃G,G=grownCap w (n+1) n 102:=⟨_,rfl⟩;have hGn:n+1≤G:=by rw[hG];exact grownCap_ge w _ _ _
 have hGm:G≤maxLen:=by rw[hG];exact grownCap_le_maxLen w _ _ _ (by unfold maxLen;omega)
 have hik:i+(n+1 - i)=n+1:=by omega
 have hkk:(n:Int)+1 - (i:Int)=((n+1 - i:Nat):Int):=by omega
 obtain⟨Z,hZ,hrz⟩:∃Z:List Value,Z.length=(n+1 - i) * 3+(G - (n+1)) * 3∧∀ty,(Builtin.append_ #[98,3] ty #[.slice (some ⟨b,0,none⟩) i n,.int .i64 ((n:Int)+1 - (i:Int))]).run uL w=
   .ok (.slice (some ⟨w.heap.size,0,none⟩) (n+1) G) (w.drew.alloc (.cells (fls (L0.take i)++Z).toArray 102)):=by
  refine⟨(vA (Value.agg #[.int .i64 0,.int .i64 0,.int .i64 0]).cells (n+1 - i)).toList++(vA (Value.agg #[.int .i64 0,.int .i64 0,.int .i64 0]).cells (G - (n+1))).toList,by simp[vA,Value.cells],fun ty=>?_⟩;have h:=Lib.run_append_grow_zeros w 98 3 ty 102 i0 _ .i64 .i64 z1r zlb hi0 ez (some ⟨b,0,none⟩) i n (fls (L0.take i)) hold (n+1 - i) (by omega) (by omega) (by omega) (by omega) (by rw[e0.2];omega) (by rw[e0.2,hik];exact growslice_fits (by omega) hbig);rw[hik,←hG] at h;rw[hkk,h]
  congr 3
  simp
 have hb1:(w.drew.alloc (.cells (fls (L0.take i)++Z).toArray 102)).heap[b]? =some (.cells (fls L0++post).toArray E (0,0)):=q0a (w:=w.drew) hb;have hv1:(w.drew.alloc (.cells (fls (L0.take i)++Z).toArray 102)).heap[vb]? =some (.cells (fl3 x++vpost).toArray Ev (0,0)):=q0a (w:=w.drew) hv;have hn1:(w.drew.alloc (.cells (fls (L0.take i)++Z).toArray 102)).heap[w.heap.size]? =some (.cells (fls (L0.take i)++Z).toArray 102 (0,0)):=q03 (w:=w.drew) rfl;obtain⟨W1,hW1⟩:∃W1,W1=w.drew.alloc (.cells (fls (L0.take i)++Z).toArray 102):=⟨_,rfl⟩
 have hcpA:∀(W:World),W.heap=W1.heap→∀ty dc,(kJ #[98,98] ty #[.slice (some ⟨w.heap.size,i * 3,none⟩) (n+1 - i) dc,.slice (some ⟨vb,0,none⟩) 1 vc]).run uL W=.ok (goInt (1:Nat)) (W.setRow w.heap.size ((fls (L0.take i)++Z).toArray.toList.take (i * 3)++fl3 x++(fls (L0.take i)++Z).toArray.toList.drop (i * 3+(fl3 x).length)).toArray):=fun W hW ty dc=>
  qgv W ty w.heap.size (i * 3) (n+1 - i) dc ⟨vb,0,none⟩ 1 vc _ 102 (fl3 x) (by rw[hW,hW1];exact hn1) (by simp only[vG];split<;>omega) rfl
   (fun j v hj=>by
    rw[Addr.add_lit,kV];refine qd4 (w:=W) (T:=Ev) (by rw[hW,hW1];exact hv1) ?_;exact uC (by have:=(gnH.1 hj).1;omega)▸hj)
   (by simp[fl3];omega) (fun v hv=>qrr (l:=[x]) v (by simpa[fls] using hv))
 have hcurA:((fls (L0.take i)++Z).toArray.toList.take (i * 3)++fl3 x++(fls (L0.take i)++Z).toArray.toList.drop (i * 3+(fl3 x).length))=fls (L0.take i)++(fl3 x++Z.drop 3):=by
  show(fls (L0.take i)++Z).take _++_++(fls (L0.take i)++Z).drop _=_
  rw[show i * 3=(fls (L0.take i)).length by omega,kP,vD,uF (by omega),show(fls (L0.take i)).length+(fl3 x).length - (fls (L0.take i)).length=3 by simp[fl3]];simp
 rw[hcurA] at hcpA;obtain⟨W2,hW2⟩:∃W2,W2=W1.setRow w.heap.size (fls (L0.take i)++(fl3 x++Z.drop 3)).toArray:=⟨_,rfl⟩;have hn2:W2.heap[w.heap.size]? =some (.cells (fls (L0.take i)++(fl3 x++Z.drop 3)).toArray 102 (0,0)):=by rw[hW2];exact setRow_heap W1 _ _ _ _ _ (by rw[hW1];exact hn1)
 have hb2:W2.heap[b]? =some (.cells (fls L0++post).toArray E (0,0)):=by rw[hW2,setRow_other W1 _ b _ (by omega),hW1];exact hb1
 have hcpB:∀(W:World),W.heap=W2.heap→∀ty dc sc,(kJ #[98,98] ty #[.slice (some ⟨w.heap.size,(i+1) * 3,none⟩) (n - i) dc,.slice (some ⟨b,i * 3,none⟩) (n - i) sc]).run uL W=.ok (goInt (n - i:Nat)) (W.setRow w.heap.size ((fls (L0.take i)++(fl3 x++Z.drop 3)).toArray.toList.take ((i+1) * 3)++fls (L0.drop i)++(fls (L0.take i)++(fl3 x++Z.drop 3)).toArray.toList.drop ((i+1) * 3+(fls (L0.drop i)).length)).toArray):=fun W hW ty dc sc=>
  qgv W ty w.heap.size ((i+1) * 3) (n - i) dc ⟨b,i * 3,none⟩ (n - i) sc _ 102 (fls (L0.drop i)) (by rw[hW];exact hn2) (by simp only[vG];split<;>omega) (by rw[hld,hdl])
   (fun j v hj=>by
    rw[Addr.add_lit];refine qd4 (w:=W) (T:=E) (by rw[hW];exact hb2) ?_;rw[hsplit,uU,uB (by omega),show i * 3+j - (fls (L0.take i)).length=j by omega];exact uC (by have:=(gnH.1 hj).1;omega)▸hj)
   (by simp[fl3];omega) qrr
 have hcurB:((fls (L0.take i)++(fl3 x++Z.drop 3)).toArray.toList.take ((i+1) * 3)++fls (L0.drop i)++(fls (L0.take i)++(fl3 x++Z.drop 3)).toArray.toList.drop ((i+1) * 3+(fls (L0.drop i)).length))=fls (L0.take i++x::L0.drop i)++(Z.drop 3).drop ((n - i) * 3):=by
  show(fls (L0.take i)++(fl3 x++Z.drop 3)).take _++_++(fls (L0.take i)++(fl3 x++Z.drop 3)).drop _=_
  have e3:(fls (L0.take i)++fl3 x).length=(i+1) * 3:=by rw[uE];simp[fl3];omega
  rw[←uU,←e3,kP,zf1,hld,hdl,qs2,ql2];simp
 rw[hcurB] at hcpB;have hrest:((Z.drop 3).drop ((n - i) * 3)).length=(G - (n+1)) * 3:=by simp;omega
 generalize (Z.drop 3).drop ((n - i) * 3)=rest at *;have hw1:IntKind.i64.wrap ((i:Int)+1)=(i:Int)+1:=by rw[IntKind.wrap_i64];omega
 have hz2:¬((i:Int)=(n:Int)):=by omega
 have h0i:(0:Int)≤(i:Int)+1:=by omega
 have hin:i≤n:=by omega
 have htn:((i:Int)+1).toNat=i+1:=by omega
 have hgi:¬(G=i):=by omega
 have hgi1:¬(G=i+1):=by omega
 have hni:¬(n=i):=by omega
 have hlt1:(n:Int)<(n:Int)+1:=by omega
 have hii:(i:Int)≤(n:Int):=by omega
 clear hcurA hcurB hkk hik hold hG
 go_enter jA,vX
 go_wp2_with (first
  |(at_builtin;refine Lib.wpList_append_run _ rfl _ _ _ _ rfl _ _ rfl rfl _ _ (hrz _) ?_)
  |(at_builtin;refine wpList_copy_runI _ rfl _ _ 98 98 rfl _ _ rfl rfl (hcpA _ (by rw[hW1]) _ _) ?_))
 have hcpC:∀ty dc sc,(kJ #[98,98] ty #[.slice (some ⟨w.heap.size,(i+1) * 3,none⟩) (n - i) dc,.slice (some ⟨b,i * 3,none⟩) (n - i) sc]).run uL ((w.alloc (.cells (fls (L0.take i)++Z).toArray 102)).drew.setRow w.heap.size (fls (L0.take i)++(fl3 x++Z.drop 3)).toArray).drew=_:=fun ty dc sc=>hcpB _ (by subst hW2 hW1;rfl) ty dc sc
 go_region_law (refine step_copy_runI rfl _ _ 98 98 rfl (.slice (some ⟨w.heap.size,(i+1) * 3,none⟩) (n - i) (G - (i+1))) (.slice (some ⟨b,i * 3,none⟩) (n - i) (n - i)) (by simp[Act.eval,Act.put]) (by simp[Act.eval,Act.put]) (hcpC _ _ _) ?_)
 go_wp2_with fail
 go_ret
 exact⟨G,rest,rfl,q84 (S:=Nil) (q84 (S:=Nil) ((But.refl Nil w).alloc _).drew (.inr (uQ _)) _).drew (.inr (uQ _)) _,hGn,hGm,hrest,setRow_heap _ _ _ _ _ _ (by subst hW2 hW1;exact hn2)⟩
end Ins
end
variable{A F:Nat→Prop}{cur:Array Value}{p:qg}{pin:Nat}
section
namespace Ins
def zuv(T:TypeId):TypeId:=match qj T with
 |some (.st S)=>S
 |_=>0
abbrev uS:TypeId:=zuv 102
abbrev cS:TypeId:=zuv 29
theorem tyU:qj 102=some (.st uS):=by kernel_rfl
theorem flU:flds uS=some [.int .i64,.st cS]:=by kernel_rfl
theorem flC:flds cS=some [.int .i64,.int .i64]:=by kernel_rfl
theorem wU:(Ty.st uS).w=3:=by kernel_rfl
theorem lmU:LM (.st uS)=5864062014634:=by kernel_rfl
def dE(x:E3):D:=.a [.i x.1,.a [.i x.2.1,.i x.2.2]]
def zae(x:E3):Prop:=yz .i64 x.1=true∧yz .i64 x.2.1=true∧yz .i64 x.2.2=true
theorem zu7{x:E3}(h:zae x)(w:World)(F:Nat→Prop):Rd w F (dE x) (.st uS) (fl3 x):=
 ⟨_,_,rfl,flU,.int .i64,[.st cS],[.int .i64 x.1],[.int .i64 x.2.1,.int .i64 x.2.2],rfl,rfl,⟨.i64,rfl,rfl,h.1⟩,.st cS,[],[.int .i64 x.2.1,.int .i64 x.2.2],[],rfl,rfl,
  ⟨_,_,rfl,flC,.int .i64,[.int .i64],[.int .i64 x.2.1],[.int .i64 x.2.2],rfl,rfl,⟨.i64,rfl,rfl,h.2.1⟩,.int .i64,[],[.int .i64 x.2.2],[],rfl,rfl,⟨.i64,rfl,rfl,h.2.2⟩,rfl,rfl⟩,rfl,rfl⟩
theorem of_rdI{w:World}(h:Rd w F d (.int .i64) cs):∃n,yz .i64 n=true∧d=.i n∧cs=[.int .i64 n]:=by
 cases d<;>simp only[Rd,reduceCtorEq,false_and,exists_false,and_false] at h;obtain⟨k,e,h1,h2⟩:=h;injection e with e;subst e;exact⟨_,h2,rfl,h1⟩
theorem of_rdS{w:World}{S:TypeId}{fs:List Ty}(hfs:flds S=some fs)(h:Rd w F d (.st S) cs):∃l,d=.a l∧RdF w F l fs cs:=by
 cases d<;>simp only[Rd,reduceCtorEq,false_and,exists_false,and_false] at h;obtain⟨T,fs',e,h1,h2⟩:=h;injection e with e;subst e;obtain rfl:=gnI (h1.symm.trans hfs);exact⟨_,rfl,h2⟩
theorem of_rdF{w:World}{l:List D}{t:Ty}{ts:List Ty}(h:RdF w F l (t::ts) cs):∃d l' c1 c2,l=d::l'∧cs=c1++c2∧Rd w F d t c1∧RdF w F l' ts c2:=by
 cases l with
 |nil=>obtain⟨e,-⟩:=h;cases e
 |cons d l=>
  obtain⟨t',ts',c1,c2,e,e2,h1,h2⟩:=h;injection e with e e';subst e e';exact⟨d,l,c1,c2,rfl,e2,h1,h2⟩
theorem of_rdN{w:World}{l:List D}(h:RdF w F l [] cs):l=[]∧cs=[]:=by
 cases l with
 |nil=>exact⟨rfl,h.2⟩
 |cons d l=>obtain⟨t',ts',c1,c2,e,-⟩:=h;cases e
theorem zrw{w:World}(h:Rd w F d (.st uS) cs):∃x,zae x∧d=dE x∧cs=fl3 x:=by
 obtain⟨l,rfl,hF⟩:=of_rdS flU h;obtain⟨d1,l1,c1,c2,rfl,rfl,h1,hG⟩:=of_rdF hF;obtain⟨d2,l2,c3,c4,rfl,rfl,h2,hH⟩:=of_rdF hG;obtain⟨rfl,rfl⟩:=of_rdN hH;obtain⟨n1,r1,rfl,rfl⟩:=of_rdI h1;obtain⟨l,rfl,hI⟩:=of_rdS flC h2;obtain⟨d3,l3,c5,c6,rfl,rfl,h3,hJ⟩:=of_rdF hI;obtain⟨d4,l4,c7,c8,rfl,rfl,h4,hK⟩:=of_rdF hJ;obtain⟨rfl,rfl⟩:=of_rdN hK;obtain⟨n2,r2,rfl,rfl⟩:=of_rdI h3;obtain⟨n3,r3,rfl,rfl⟩:=of_rdI h4;exact⟨(n1,n2,n3),⟨r1,r2,r3⟩,rfl,rfl⟩
theorem range_drop3{w:World}{b q:Nat}(hc:w.heap[b]? =some (.cells cur T (0,0))){x y z:Value}(h:w.rangeAt b q [x,y,z]):cur.toList.drop q=x::y::z::cur.toList.drop (q+3):=by
 have get:∀j v,([x,y,z]:List Value)[j]? =some v→cur.toList[q+j]? =some v:=fun j v hj=>by
  have:=h j v hj;rw[cell_of_row w b _ cur T (0,0) hc,←Array.getElem?_toList] at this;exact this
 have g0:=get 0 x rfl;have g1:=get 1 y rfl;have g2:=get 2 z rfl;obtain⟨h0,e0⟩:=gnH.1 g0;obtain⟨h1,e1⟩:=gnH.1 g1;obtain⟨h2,e2⟩:=gnH.1 g2;rw[kI (by omega:q<cur.toList.length),kI h1,kI (by omega:q+1+1<cur.toList.length)];simp only[Nat.add_zero] at e0;rw[e0,e1]
 congr 3
theorem z83{w:World}{b o:Nat}(hc:w.heap[b]? =some (.cells cur T (0,0))):∀{rs:List D}{i:Nat},RdE w F rs (.st uS) (some ⟨b,o,none⟩) i→∃L:List E3,rs=L.map dE∧(∀x∈L,zae x)∧cur.toList.drop (o+i * 3)=fls L++cur.toList.drop (o+(i+rs.length) * 3)
 |[],i,_=>⟨[],rfl,fun x hx=>(by cases hx),by simp[fls]⟩
 |d::rs,i,⟨⟨b',o',cs,e,hF,hr,hd⟩,h⟩=>by
  injection e with e;injection e with e1 e2;subst e1 e2;obtain⟨x,hx,rfl,rfl⟩:=zrw hd;obtain⟨L,rfl,hL,hdr⟩:=z83 hc h;rw[wU] at hr;refine⟨x::L,rfl,fun y hy=>(uY.1 hy).elim (fun e=>e▸hx) (hL y),?_⟩;have:=range_drop3 hc hr;rw[this,show o+i * 3+3=o+(i+1) * 3 by omega,hdr,show i+1+(L.map dE).length=i+(dE x::L.map dE).length by simp;omega];rfl
theorem z85{w:World}{dep:List Nat}{l:List D}{v:Value}(h:q1e A p w dep pin 102 (.st uS) l v)(h0:0<l.length):
  ∃g cap L post,v=.slice (some ⟨g,0,none⟩) l.length cap∧p pin=some g∧l=L.map dE∧(∀x∈L,zae x)∧w.heap[g]? =some (.cells (fls L++post).toArray 102 (0,0))∧l.length≤cap∧cap≤maxLen∧post.length=(cap - l.length) * 3:=by
 rcases h with⟨-,rfl⟩|⟨g,cap,cur,rfl,hg,hh,h1,h2,h3,h4,h5⟩
 ·simp at h0
 ·obtain⟨L,hL,hok,hdr⟩:=z83 (F:=FFD A p (pin::dep)) (o:=0) hh (rs:=l) (i:=0) (q0s.2 fun j hj=>by
   obtain⟨cs,hr,hx⟩:=h5 j hj;exact⟨g,0,cs,rfl,.inr ⟨pin,by simp,hg⟩,by simpa using hr,hx.mono fun b _ hb=>hb.mono fun x hx=>uV _ hx⟩)
  have hl:=qbx L;have hll:l.length=L.length:=by rw[hL,kG]
  simp only[jC,kV,List.drop_zero] at hdr;rw[wU] at h3;have hcl:=congrArg kZ hdr;rw[uE,uH,Array.length_toList] at hcl;refine⟨g,cap,L,cur.toList.drop (l.length * 3),rfl,hg,hL,hok,?_,h1,h2,?_⟩
  ·rw[←hdr];exact hh
  ·rw[uH,Array.length_toList];omega
theorem zbq:∀{l:List E3}{i:Nat}(h:i<l.length){j:Nat}{v:Value},(fl3 l[i])[j]? =some v→(fls l)[i * 3+j]? =some v
 |x::l,0,_,j,v,hj=>by
  rw[jC,kV,ql2];exact uC (by have:=(gnH.1 hj).1;exact this)▸hj
 |x::l,i+1,h,j,v,hj=>by
  have:=zbq (l:=l) (i:=i) (by simpa using h) (j:=j) (v:=v) (by simpa using hj);rw[ql2,show(i+1) * 3+j=i * 3+j+3 by omega];exact this
theorem zqb{w:World}{g cap:Nat}{M:List E3}{post:List Value}(hp:p pin=some g)(hM:∀x∈M,zae x)(hh:w.heap[g]? =some (.cells (fls M++post).toArray 102 (0,0)))(h1:M.length≤cap)(h2:cap≤maxLen)(h3:post.length=(cap - M.length) * 3)(h4:M.length≤5864062014634):
  q1e A p w [] pin 102 (.st uS) (M.map dE) (.slice (some ⟨g,0,none⟩) M.length cap):=by
 have hl:=qbx M;refine .inr ⟨g,cap,_,by rw[kG],hp,hh,by rw[kG];exact h1,h2,by rw[vQ,uE,wU];omega,by rw[kG,lmU];exact h4,fun i hi=>?_⟩;have hi':i<M.length:=by simpa using hi
 refine⟨fl3 M[i],fun j v hj=>?_,by simpa using zu7 (hM _ (List.getElem_mem hi')) _ _⟩;rw[wU];have:=zbq hi' hj;exact qd4 hh (uC (by have:=(gnH.1 this).1;exact this)▸this)
end Ins
open Ins
def zri:List D→Option (List D)
 |[r,i,v]=>if v.rs.length=1∧0≤i.int∧i.int≤r.rs.length∧r.rs.length+1≤5864062014634 then some [.r (r.rs.take i.int.toNat++v.rs++r.rs.drop i.int.toNat)] else none
 |_=>none
theorem zk4{w:World}(h:Con A p w d (.row 102) [(0,pin)] [] cs):∃l v,d=.r l∧cs=[v]∧q1e A p w [] pin 102 (.st uS) l v:=by
 rcases h with⟨E,te,l,v,e,hte,rfl,rfl,h⟩|⟨K,V,kt,vt,l,g,es,clock,e,-⟩
 ·injection e with e;subst e;obtain rfl:=gnI (hte.symm.trans tyU);exact⟨l,v,rfl,rfl,h⟩
 ·cases e
set_option maxHeartbeats 1000000 in
theorem qcf:FOk qf zri:=FOk.of_at jh fun ds outs hw hg=>by
 obtain⟨d,r,rfl,hd,e,r',rfl,he,e2,r2,rfl,he2,hw⟩:=hw;obtain rfl:r2=[]:=hw;obtain⟨l,te,rfl,hte,hl,-⟩:=hd.row;obtain⟨n,rfl,hn⟩:=wfI he;obtain⟨m,te2,rfl,hte2,hm,-⟩:=he2.row;have hg':(if m.length=1∧0≤n∧n≤l.length∧l.length+1≤5864062014634 then some [.r (l.take n.toNat++m++l.drop n.toNat)] else none)=some outs:=hg;split at hg'
 case isFalse=>cases hg'
 rename_i hc;obtain⟨h1,h2,h3,h4⟩:=hc;injection hg' with hg';subst hg';clear hg;by_cases hnl:n=l.length
 ·refine zl3 (fun F=>[(ju qf.f qk,fun _=>some [.i (F.mx qk)]),(ju qf.f yd,fun _=>some [.i (F.mx yd)]),(ju qf.f q2f,fun _=>some [.i (F.mx q2f)]),(ju qf.f yo,fun _=>some [.i (F.mx yo)])]) q52 Tryz.f107 _ (fun F=>.cons (q1w _ jh _ _) (.cons (q1w _ jh _ _) (.cons (q1w _ jh _ _) (.cons (q1w _ jh _ _) .nil)))) rfl rfl (by decide) (fun F=>?_) (fun F=>rfl) (fun F hfl te=>?_)
  rotate_left
  ·rcases hfl te with h|⟨k,j,hm,-⟩
   ·rw[h];exact vF _
   ·rw[show qf.fl=[(999,0,qk),(999,1,yd),(999,2,q2f),(999,3,yo)] from rfl] at hm;simp only[gnM] at hm;rcases hm with⟨-,-,rfl⟩|⟨-,-,rfl⟩|⟨-,-,rfl⟩|⟨-,-,rfl⟩<;>exact uQ _
  rw[qbk _ _ _ _ _ rfl];subst hnl;simp[q47,Tree.go,jy,X.says,X.ev,X.evs,evl,D.rs,D.int,D.tt,h1];omega
 ·intro A F p w vs us hfl hfo hpre hvl hargs;have hF0:F.mx (.st uS)=0:=by
   rcases hfl (.st uS) with h|⟨k,j,hm,-⟩
   ·exact h
   ·have h1:(qf.fl.all fun e=> !Ty.beq e.2.2 (.st uS))=true:=by kernel_rfl
    have h2:=vT.1 h1 _ hm;rw[show Ty.beq (.st uS) (.st uS)=true from(Ty.beq_iff _ _).2 rfl] at h2;cases h2
  obtain⟨v0,r0,d0,ds0,e0,e00,⟨cs0,hpk0,hc0⟩,v1,r1,d1,ds1,e1,e11,⟨cs1,hpk1,hc1⟩,v2,r2,d2,ds2,e2',e22,⟨cs2,hpk2,hc2⟩,hr⟩:=hargs;obtain rfl:r2=[]:=hr.1;subst e1 e2';obtain⟨rfl,rfl⟩:=kQ e00;obtain⟨rfl,rfl⟩:=kQ e11;obtain⟨rfl,-⟩:=kQ e22;clear e00 e11 e22 hr;obtain⟨rfl,rfl⟩:vs=[v0,v1,v2]∧us=[]:=by
   have hl3:vs.length=3:=hvl;have hus:us.length=0:=by
    have:=congrArg kZ e0;simp at this;omega
   obtain rfl:=kO.1 hus;exact⟨by simpa using e0,rfl⟩
  clear e0;have hc0:Con A p w (D.r l) (.row 102) [(0,1)] [] cs0:=hc0;have hc2:Con A p w (D.r m) (.row 102) [(0,33)] [] cs2:=hc2;obtain⟨l',u0,q0,rfl,ho0⟩:=zk4 hc0;obtain⟨m',u2,q2,rfl,ho2⟩:=zk4 hc2;injection q0 with q0;injection q2 with q2;subst q0 q2;obtain rfl:u0=v0:=(kQ hpk0).1;obtain rfl:u2=v2:=(kQ hpk2).1;obtain⟨n',-,e,rfl⟩:=of_rdI hc1;injection e with e;subst e;obtain rfl:Value.int .i64 n=v1:=(kQ hpk1).1;obtain⟨g,cap,L,post,rfl,hpg,hL,hLo,hg,hcap,hcm,hpost⟩:=z85 ho0 (by omega);obtain⟨g2,cap2,M,post2,rfl,hpg2,hM,hMo,hg2,hcap2,-,-⟩:=z85 ho2 (by omega);have hne:g2≠g:=fun e=>by
   subst e;have:=hpre.inj _ _ _ hpg2 hpg;omega
  have hLl:l.length=L.length:=by rw[hL,kG]
  obtain⟨x,rfl⟩:∃x,M=[x]:=by
   have:M.length=1:=by rw[←h1,hM,kG]
   exact List.length_eq_one_iff.1 this
  have hx:zae x:=hMo x (by simp);obtain⟨i,rfl⟩:∃i:Nat,n=i:=⟨n.toNat,by omega⟩;have hi:i<L.length:=by omega
  have hg2:w.heap[g2]? =some (.cells (fl3 x++post2).toArray 102 (0,0)):=by simpa[fls] using hg2
  have hout:l.take (i:Int).toNat++m++l.drop (i:Int).toNat=(L.take i++x::L.drop i).map dE:=by
   rw[hL,hM,uP];simp
  have hNo:∀y∈L.take i++x::L.drop i,zae y:=fun y hy=>by
   rcases kF.1 hy with h|h
   ·exact hLo y (List.mem_of_mem_take h)
   ·rcases uY.1 h with rfl|h
    ·exact hx
    ·exact hLo y (List.mem_of_mem_drop h)
  have hNl:(L.take i++x::L.drop i).length=L.length+1:=by simp;omega
  have hlm:cap≤9223372036854775807:=by unfold maxLen at hcm;omega
  have fin:∀{VV:List Value}(g' cap':Nat)(post':List Value)(w':World),A g'→(pinned p g'∨w.heap.size≤g')→But (pinned p) w w'→Flo F w w'→w'.heap[g']? =some (.cells (fls (L.take i++x::L.drop i)++post').toArray 102 (0,0))→L.length+1≤cap'→cap'≤maxLen→post'.length=(cap' - (L.length+1)) * 3→
    ∃rs p',Ending.returned (.slice (some ⟨g',0,none⟩) (L.length+1) cap')=.returned (qet rs)∧Bs A F w (pinned p) p' w'∧q91 A p' w' qf.rs qf.ar.length rs (List.take qf.rs.length [D.r (l.take (i:Int).toNat++m++l.drop (i:Int).toNat)])∧q3k VV A p p' w' qf.all (List.drop qf.rs.length [D.r (l.take (i:Int).toNat++m++l.drop (i:Int).toNat)]):=by
   intro VV g' cap' post' w' hA hgp hb hflo hh a1 a2 a3;have hp':∀y b,(fun y=>if y=49 then some g' else none:qg) y=some b→y=49∧b=g':=fun y b h=>by
    by_cases hy:y=49
    ·subst hy;exact⟨rfl,(gnI h).symm⟩
    ·simp[hy] at h
   refine⟨[.slice (some ⟨g',0,none⟩) (L.length+1) cap'],fun y=>if y=49 then some g' else none,rfl,⟨?_,?_,hb,?_,hpre.new,?_,?_,hflo⟩,?_,rfl⟩
   ·intro y z b h1 h2;rw[(hp' y b h1).1,(hp' z b h2).1]
   ·intro y b h;rw[(hp' y b h).2];exact qq hh
   ·intro y b h;rw[(hp' y b h).2];exact hgp
   ·intro y b h;rw[(hp' y b h).2];exact hA
   ·intro y b h;rw[(hp' y b h).2];exact .inl ⟨_,_,hh⟩
   ·refine⟨_,_,_,_,rfl,rfl,⟨[.slice (some ⟨g',0,none⟩) (L.length+1) cap'],rfl,?_⟩,rfl⟩;refine .inl ⟨102,.st uS,_,_,rfl,tyU,rfl,rfl,?_⟩;rw[hout,←hNl];exact zqb rfl hNo hh (by rw[hNl];exact a1) a2 (by rw[hNl];exact a3) (by rw[hNl];omega)
  rw[h1,hLl];by_cases hroom:L.length+1≤cap
  ·refine Calls.mono (zhc w g cap g2 cap2 i L.length L x post post2 102 102 rfl hi hroom hlm hne (by rw[hpost];omega) hg hg2) ?_;rintro e w'⟨rfl,hb,hh⟩;exact .inr (fin g cap _ w' (hpre.pa _ _ hpg) (.inl ⟨_,hpg⟩) (hb.mono fun k hk _=>hk▸⟨_,hpg⟩) (hfo.same fun k hk h0=>hb.block k hk fun e=>by
    subst e;obtain⟨cs,cs',T,te,f1,f2,f3,f4,-⟩:=hfo k h0;rw[hg] at f2;injection f2 with f2;injection f2 with f5 f6;subst f6;obtain rfl:=gnI (tyU.symm.trans f3);rw[hF0] at f4;omega) hh hroom hcm (by rw[uH,hpost];omega))
  ·have hcl:cap=L.length:=by omega
   subst hcl;refine Calls.mono (zft w g g2 cap2 i L.length L x post post2 102 102 rfl hi (by omega) hne hg hg2) ?_;rintro e w'⟨G,rest,rfl,hb,a1,a2,a3,hh⟩;exact .inr (fin _ G _ w' (hpre.new _ (uQ _)).1 (.inr (uQ _)) hb.of_nil (hfo.same fun k hk _=>hb.block k hk id) hh a1 a2 a3)
end
def zsq:List D→Option (List D)
 |[x]=>some [.b false]
 |_=>none
theorem qix:FOk jo zsq:=qh7 fun ds outs hw hg=>by
 obtain⟨d,r,rfl,hd,rfl⟩:=hw;simp only[zsq,uN] at hg;subst hg;simp[q4a,gnZ,gnT]
def zk0:List D→Option (List D)
 |[x,v]=>some [.i (if x.int<v.int then -1 else if v.int<x.int then 1 else 0)]
 |_=>none
theorem q4g:FOk qx zk0:=qf0 qix fun ds outs hw hg=>by
 obtain⟨d,r,rfl,hd,e,r',rfl,he,rfl⟩:=hw;obtain⟨x,rfl,hx⟩:=wfI hd;obtain⟨v,rfl,hv⟩:=wfI he;simp only[zk0,yw,uN] at hg;subst hg;simp only[q3n,gnZ,gnT,zsq];by_cases h1:x<v<;>by_cases h2:v<x<;>simp[h1,h2]
def zlq:List D→Option (List D)
 |[x,v]=>some [.i (if(dV x).v<v.int then -1 else if v.int<(dV x).v then 1 else 0)]
 |_=>none
theorem qts:FOk q1c zlq:=qrk q4g fun ds outs hw hg=>by
 obtain⟨d,r,rfl,hd,e,r',rfl,he,rfl⟩:=hw;obtain⟨x,rfl,hx,-⟩:=wfV hd;obtain⟨v,rfl,hv⟩:=wfI he;simp only[zlq,qub,yw,uN] at hg;subst hg;simp[q8d,gnZ,gnT,zk0,z7k];rfl
theorem qxk:FOk q25 q63:=qt0 fun ds outs hw hg=>by
 obtain⟨d,r,rfl,hd,rfl⟩:=hw;obtain⟨c,rfl,hc⟩:=wfC hd;simp only[q63,q0t,uN] at hg;subst hg;simp only[q9a,gnZ,gnT,q2q];by_cases h:c.t=5<;>simp[h];rfl
def zml:List D→Option (List D)
 |[l,v]=>if SV (dVs l) then some [.i (loV (dVs l) v.int),.b (ofV (dVs l) v.int).isSome] else none
 |_=>none
theorem qj0{n:Int}(h0:0≤n)(h1:n≤9223372036854775807):yz .u64 n=true:=by
 simp[yz];omega
theorem qfc(a v:Int){i1:Decidable (a<v)}{i2:Decidable (v<a)}:((if a<v then(-1:Int) else if v<a then 1 else 0)<0)↔a<v:=by
 split
 ·simp_all
 ·split<;>simp_all
theorem half(i j:Nat):((i:Int)+(j:Int)).fdiv (2^(1:Int).toNat)=((i+j) / 2:Nat):=by
 rw[show(2:Int)^(1:Int).toNat=2 from rfl,Int.fdiv_eq_ediv_of_nonneg _ (by omega)];omega
theorem zcj{l:List Vc}(h:SV l){j:Nat}(hij:i≤j)(hj:j<l.length):(l.getD i default).v≤(l.getD j default).v:=by
 rcases vO hij with h1|rfl
 ·have h2:i<l.length:=by omega
  have:=List.pairwise_iff_getElem.1 h.1 i j h2 hj h1;simp only[gnG,gnK h2,gnK hj,Option.getD_some];omega
 ·exact vH _
theorem q2h:FOk qm zml:=q5c qts fun ds outs hw hg=>by
 obtain⟨d,r,rfl,hd,e,r',rfl,he,rfl⟩:=hw;obtain⟨l,rfl,hl,hok⟩:=qy1 hd;obtain⟨v,rfl,hv⟩:=wfI he;simp only[zml,q0d,yw,uM,uN] at hg;obtain⟨hs,rfl⟩:=hg;rw[jx,zz];refine⟨fun st=>∃i j:Nat,i≤j∧j≤l.length∧st=[.i i,.i j]∧(∀k,k<i→(l.getD k default).v<v)∧(∀k,j≤k→k<l.length→v≤(l.getD k default).v),fun st=>(st.getD 1 .u).int.toNat - (st.getD 0 .u).int.toNat,⟨0,l.length,vF _,uQ _,by simp[X.evs,X.ev,evl,D.rs],fun k hk=>absurd hk (Nat.not_lt_zero _),fun k h1 h2=>by omega⟩,?_⟩;rintro st - ⟨i,j,hij,hj,rfl,h1,h2⟩;rw[zw];refine⟨fun hlt=>?_,fun hlt=>?_⟩
 ·simp only[gnZ,gnT] at hlt;have hm:(i+j) / 2<l.length:=by omega
  simp only[gnZ,gnT,fnD,half,q31 eV hm,zlq,qub,qfc];have hk:i+j≤2 * 5864062014634:=by omega
  refine⟨⟨⟨by omega,by omega⟩,qj0 (by omega) (by omega),qj0 (by omega) (by omega),by omega,by omega⟩,⟨by omega,by omega⟩,fun hb=>⟨⟨by omega,by omega⟩,?_⟩,fun hb=>?_⟩
  ·have hlv:(l.getD ((i+j) / 2) default).v<v:=by first|exact(qfc _ _).1 hb|exact hb
   rw[jg,if_pos rfl];refine⟨⟨(i+j) / 2+1,j,by omega,hj,by simp,fun k hk=>?_,h2⟩,?_⟩
   ·have:=zcj hs (show k≤(i+j) / 2 by omega) hm;omega
   ·simp[D.int];omega
  ·have hlv:v≤(l.getD ((i+j) / 2) default).v:=Int.not_lt.1 fun q=>by first|exact hb ((qfc _ _).2 q)|exact hb q
   rw[jg,if_pos rfl];refine⟨⟨i,(i+j) / 2,by omega,by omega,by simp,h1,fun k hk hkl=>?_⟩,?_⟩
   ·have:=zcj hs (show(i+j) / 2≤k by omega) hkl;omega
   ·simp[D.int];omega
 ·simp only[gnZ,gnT] at hlt;have hl1:loV l v=i:=zil (by omega) h1 fun k hk hkl=>h2 k (by omega) hkl;rw[z8h hs,hl1];by_cases hil:i<l.length
  ·simp only[gnZ,gnT,q31 eV hil,zlq,qub];have e0:(i:Int)<l.length:=by omega
   have e1:(0:Int)≤i:=by omega
   have hx:v≤(l.getD i default).v:=h2 i (by omega) hil;generalize l.getD i default=z at hx;simp only[e0,e1,decide_true,Bool.not_true,Bool.false_or,Bool.true_and,true_and,hil];by_cases hz:z.v=v
   ·have h3:¬z.v<v:=by omega
    have h4:¬v<z.v:=by omega
    simp[hz]
   ·have h3:¬z.v<v:=by omega
    have h4:v<z.v:=by omega
    simp[hz,h3,h4]
  ·have e0:¬(i:Int)<l.length:=by omega
   simp[gnZ,gnT,e0,hil]
def eM(ms:List Sy):List D:=ms.map fun y=>.a [eY y,.b true]
def dM(d:D):List Sy:=d.ms.map fun p=>dY (p.fld 0)
theorem zpq(ms:List Sy):dM (.mp (eM ms))=ms:=by
 show(ms.map fun y=>D.a [eY y,.b true]).map (fun p=>dY (p.fld 0))=ms
 rw[jB];exact vZ (fun x=>rfl) ms
theorem z72(y:Sy):∀ms:List Sy,mfind (eY y) (eM ms)=if y∈ms then some (.b true) else none
 |[]=>by simp[eM,mfind]
 | z :: ms => by
  have ih:=z72 y ms
  show(if eY z=eY y then some (D.b true) else mfind (eY y) (eM ms))=_
  by_cases h:z=y
  ·subst h;rw[if_pos rfl];simp
  ·have h':¬y=z:=fun e=>h e.symm;rw[if_neg (fun e=>h (qvx e)),ih];simp[h']
theorem zbg{y:Sy}:∀{ms:List Sy},y∉ms→mset (eY y) (.b true) (eM ms)=eM (ms++[y])
 |[],_=>by simp[eM,mset]
 |z::ms,h=>by
  have h1:¬z=y:=fun e=>h (by simp[e]);have h2:y∉ms:=fun e=>h (by simp[e]);have ih:=zbg h2
  show(if eY z=eY y then D.a [eY y,.b true]::eM ms else D.a [eY z,.b true]::mset (eY y) (.b true) (eM ms))=_
  rw[if_neg (fun e=>h1 (qvx e)),ih];rfl
theorem qzz(ys:List Sy):∀(l m:List Te)(ms:List Sy),q6m ys ms (l++m)=q6m ys (q6m ys ms l) m
 |[],m,ms=>rfl
 |t::l,m,ms=>by rw[uT,q6m,q6m,qzz ys l m]
theorem qm7:∀(l m:List Te),q29 (l++m)=q29 l+q29 m
 |[],m=>by simp[q29]
 |t::l,m=>by rw[uT,q29,q29,qm7 l m];omega
theorem zql(ys ms:List Sy)(t:Te):qdr ys ms t=q6m ys (if t.k=2∨t.k=3 then qvb ys ms ⟨t.s,(t.l.length:Nat)⟩ else ms) t.l:=by
 cases t;rw[qdr];rfl
theorem zfa(t:Te):q5v t=if t.k=3 then 1+t.l.length+q29 t.l else 0:=by
 cases t;rw[q5v];rfl
theorem zr0{t:Te}(h:q9z t=true)(h3:¬t.k=3):t.l=[]:=by
 obtain⟨k,n,nm,l⟩:=t;rcases q1t h with h|h|h|h
 ·exact h.2.1
 ·exact h.2
 ·exact h.2.1
 ·exact(h3 h.1).elim
def z1d:List D→Option (List D)
 |[t,m,n,s]=>if m=.mp (eM (dM m))∧zq (dT t)=true∧0≤n.int∧n.int+q5v (dT t)≤1099511627776 then some [.mp (eM (qdr (dS s).ys (dM m) (dT t))),.i (n.int+q5v (dT t))] else none
 |_=>none
theorem qr9:FOk zm z1d:=qa2 (m:=mT) qax fun N ih=>qmy ih qi8 fun ds outs hw hg=>by
 obtain⟨d,r,rfl,hd,e,r',rfl,he,f,r2,rfl,hf,q,r3,rfl,hq,rfl⟩:=hw;obtain⟨t,rfl,ht⟩:=wfT hd;obtain⟨n,rfl,hn⟩:=wfI hf;obtain⟨s,rfl,hs⟩:=wfS hq;simp only[q3e,mT,z1d,kK,q1p,yw,zr,uM,uN] at hg;obtain⟨hsz,⟨hm,hnd,h0,h1⟩,rfl⟩:=hg;obtain⟨ms,hms⟩:∃ms,e=.mp (eM ms):=⟨_,hm⟩;subst hms;rw[zpq];have hl:=ht.l;have hnl:=(q67 t).1 hnd;have key:∀(x1 x2:X)(ms0:List Sy)(n0:Int),x1.ev (evl (qb [(zm,q3e mT N z1d),(yj,qdo)]) [eT t,.mp (eM ms),.i n,eS s])=.mp (eM ms0)→x2.ev (evl (qb [(zm,q3e mT N z1d),(yj,qdo)]) [eT t,.mp (eM ms),.i n,eS s])=.i n0→0≤n0→n0+q29 t.l=n+q5v t→q6m s.ys ms0 t.l=qdr s.ys ms t→Tree.go (qb [(zm,q3e mT N z1d),(yj,qdo)]) (fun o=>o=[.mp (eM (qdr s.ys ms t)),.i (n+q5v t)]) (.loop 8 4 [(.lit (.i 0)),x1,x2] (.br (.lt (.tok 4) (.len (.fld (.tok 0) 3))) (.need [(.le (.lit (.i 0)) (.tok 4)),(.lt (.tok 4) (.len (.fld (.tok 0) 3)))] (.need [(.ok 0 [(.get (.fld (.tok 0) 3) (.tok 4)),(.tok 5),(.tok 6),(.tok 3)])] (.need [(.rng .i64 (.add (.tok 4) (.lit (.i 1))))] (.back 8 [(.add (.tok 4) (.lit (.i 1))),(.call 0 0 [(.get (.fld (.tok 0) 3) (.tok 4)),(.tok 5),(.tok 6),(.tok 3)]),(.call 0 1 [(.get (.fld (.tok 0) 3) (.tok 4)),(.tok 5),(.tok 6),(.tok 3)])])))) (.leaf [(.tok 5),(.tok 6)]))) [eT t,.mp (eM ms),.i n,eS s] fun _ _=>False:=by
  intro x1 x2 ms0 n0 hx1 hx2 hn0 hc hv;rw[zz];refine⟨fun st=>∃k:Nat,k≤t.l.length∧st=[.i k,.mp (eM (q6m s.ys ms0 (t.l.take k))),.i (n0+q29 (t.l.take k))],fun st=>t.l.length - (st.getD 0 .u).int.toNat,⟨0,vF _,by simp only[X.evs,hx1,hx2,X.ev];simp[q6m,q29]⟩,?_⟩;rintro st - ⟨k,hk,rfl⟩;rw[zw];refine⟨fun hlt=>?_,fun hlt=>?_⟩
  ·simp only[gnZ,gnT] at hlt;have hkl:k<t.l.length:=by omega
   have ha:=qfv hkl;have hsn:q29 (t.l.take (k+1))=q29 (t.l.take k)+q5v (t.l.getD k default):=by
    rw[q7x hkl,qm7];simp[q29]
   have hle:q29 (t.l.take (k+1))≤q29 t.l:=by
    have:=qm7 (t.l.take (k+1)) (t.l.drop (k+1));rw[uJ] at this;omega
   have hvs:q6m s.ys ms0 (t.l.take (k+1))=qdr s.ys (q6m s.ys ms0 (t.l.take k)) (t.l.getD k default):=by
    rw[q7x hkl,qzz];rfl
   have hq:(zq (t.l.getD k default)=true∧0≤n0+(q29 (t.l.take k):Int)∧n0+(q29 (t.l.take k):Int)+q5v (t.l.getD k default)≤1099511627776):=⟨hnl.2 k hkl,by omega,by omega⟩;simp only[gnZ,gnT,quf hkl,q3e,mT,z1d,if_pos hq,if_pos (show szT (t.l.getD k default)<N by omega),zpq];refine⟨⟨by omega,by omega⟩,⟨by omega,by omega⟩,?_⟩;rw[jg,if_pos rfl];refine⟨⟨k+1,by omega,?_⟩,?_⟩
   ·rw[hvs,hsn];simp;omega
   ·simp[D.int];omega
  ·simp only[gnZ,gnT] at hlt⊢;have:k=t.l.length:=by omega
   subst this;rw[vC,hv,hc]
 rw[q6g];have ey:D.a [.s t.s,.i (t.l.length:Nat)]=eY ⟨t.s,(t.l.length:Nat)⟩:=rfl;simp only[gnZ,gnT,qdo,fnD,ey,zbo,z72];have hc3:t.k=3→q5v t=1+t.l.length+q29 t.l:=fun h=>by rw[zfa,if_pos h]
 have hc0:¬t.k=3→q5v t=0∧q29 t.l=0:=fun h=>by
  rw[zfa,if_neg h,zr0 hnl.1 h];exact⟨rfl,rfl⟩
 have hvm:=zql s.ys ms t;have hput:∀ms0,ms0=qvb s.ys ms ⟨t.s,(t.l.length:Nat)⟩→(decide (t.k=2)||decide (t.k=3))=true→q6m s.ys ms0 t.l=qdr s.ys ms t:=fun ms0 e h=>by
  rw[hvm,e,if_pos (by simpa using h)]
 have hM:(X.fn 2 [.tok 1,.mk [.fld (.tok 0) 2,.len (.fld (.tok 0) 3)],.lit (.b true)]).ev (evl (qb [(zm,q3e mT N z1d),(yj,qdo)]) [eT t,.mp (eM ms),.i n,eS s])=.mp (mset (eY ⟨t.s,(t.l.length:Nat)⟩) (.b true) (eM ms)):=by
  simp only[gnZ,gnT,fnD,ey,zbo]
 have hN:(X.add (.tok 2) (.add (.len (.fld (.tok 0) 3)) (.lit (.i 1)))).ev (evl (qb [(zm,q3e mT N z1d),(yj,qdo)]) [eT t,.mp (eM ms),.i n,eS s])=.i (n+((t.l.length:Nat)+1)):=by
  simp only[gnZ,gnT]
 have hno:((!((if(⟨t.s,(t.l.length:Nat)⟩:Sy)∈ms then some (D.b true) else none).getD (D.b false)).tt&&decide (q60 s t.s (t.l.length:Nat)<0))=true)↔¬((⟨t.s,(t.l.length:Nat)⟩:Sy)∈ms∨(⟨t.s,(t.l.length:Nat)⟩:Sy)∈s.ys):=by
  rw[←qgw (s:=s) (nm:=t.s) (ar:=(t.l.length:Nat))];by_cases hm:(⟨t.s,(t.l.length:Nat)⟩:Sy)∈ms
  ·simp[hm,D.tt]
  ·simp[hm,D.tt]
 refine⟨fun h23=>⟨fun hc=>?_,fun hc=>?_⟩,fun h23=>?_⟩
 ·have hc':=hno.1 hc;have e1:qvb s.ys ms ⟨t.s,(t.l.length:Nat)⟩=ms++[⟨t.s,(t.l.length:Nat)⟩]:=by rw[qvb,if_neg hc']
  rw[zbg fun q=>hc' (.inl q),←e1] at hM;exact⟨fun h3=>⟨⟨⟨by omega,by omega⟩,by omega,by have:=hc3 h3;omega⟩,key _ _ _ _ hM hN (by omega) (by have:=hc3 h3;omega) (hput _ rfl h23)⟩,fun h3=>key _ _ _ _ hM rfl h0 (by have:=hc0 h3;omega) (hput _ rfl h23)⟩
 ·have hc':(⟨t.s,(t.l.length:Nat)⟩:Sy)∈ms∨(⟨t.s,(t.l.length:Nat)⟩:Sy)∈s.ys:=Classical.byContradiction fun q=>by
   rw[hno.2 q] at hc;cases hc
  have e1:ms=qvb s.ys ms ⟨t.s,(t.l.length:Nat)⟩:=by rw[qvb,if_pos hc']
  exact⟨fun h3=>⟨⟨⟨by omega,by omega⟩,by omega,by have:=hc3 h3;omega⟩,key _ _ _ _ rfl hN (by omega) (by have:=hc3 h3;omega) (hput _ e1 h23)⟩,fun h3=>key _ _ _ _ rfl rfl h0 (by have:=hc0 h3;omega) (hput _ e1 h23)⟩
 ·have h3:¬t.k=3:=fun q=>by simp[q] at h23
  have h4:¬(t.k=2∨t.k=3):=fun q=>by
   rcases q with q|q<;>simp[q] at h23
  rw[if_neg h4] at hvm;exact⟨fun q=>(h3 q).elim,fun _=>key _ _ _ _ rfl rfl h0 (by have:=hc0 h3;omega) hvm.symm⟩
section
section
variable{α:Type}(ky:α→Int)
def q2s(x:α):List α→List α
 |[]=>[x]
 |y::l=>if ky y≤ky x then y::q2s x l else x::y::l
def jb(l:List α):List α:=l.foldl (fun acc x=>q2s ky x acc) []
def j4:List α→List α→List α
 |[],m=>m
 |a::l,[]=>a::l
 |a::l,b::m=>if ky a≤ky b then a::j4 l (b::m) else b::j4 (a::l) m
variable{ky}
theorem zk6(x:α)(l:List α):(q2s ky x l).length=l.length+1:=by
 induction l with
 |nil=>rfl
 |cons y l ih=>unfold q2s;split<;>simp[ih]
theorem z76(l:List α):∀acc:List α,(l.foldl (fun acc x=>q2s ky x acc) acc).length=acc.length+l.length:=by
 induction l with
 |nil=>intro acc;rfl
 |cons x l ih=>intro acc;rw[List.foldl_cons,ih,zk6];simp;omega
theorem yy(l:List α):(jb ky l).length=l.length:=by
 have:=z76 (ky:=ky) l [];simpa[jb] using this
theorem q8u(l:List α):j4 ky l []=l:=by cases l<;>simp[j4]
theorem q62(m:List α):j4 ky [] m=m:=by simp[j4]
theorem qvi:∀(l m:List α),(j4 ky l m).length=l.length+m.length
 |[],m=>by simp[j4]
 |a::l,[]=>by simp[j4]
 |a::l,b::m=>by
  unfold j4;split
  ·rw[uR,qvi l (b::m)];simp;omega
  ·rw[uR,qvi (a::l) m];simp;omega
theorem qvm(x:α):∀l:List α,j4 ky l [x]=q2s ky x l
 |[]=>by simp[j4,q2s]
 |a::l=>by
  unfold j4 q2s;split
  ·rw[qvm x l]
  ·rw[q8u]
theorem qrs(x:α):∀(A B:List α),j4 ky A (q2s ky x B)=q2s ky x (j4 ky A B)
 |[],B=>by rw[q62,q62]
 |a::A,[]=>by
  rw[q8u];exact qvm x (a::A)
 | a :: A, b :: B => by
  by_cases hb:ky b≤ky x
  ·have e:q2s ky x (b::B)=b::q2s ky x B:=by simp[q2s,hb]
   rw[e];by_cases h:ky a≤ky b
   ·have e1:j4 ky (a::A) (b::q2s ky x B)=a::j4 ky A (b::q2s ky x B):=by rw[j4,if_pos h]
    have e2:j4 ky (a::A) (b::B)=a::j4 ky A (b::B):=by rw[j4,if_pos h]
    rw[e1,e2,←e,qrs x A (b::B)];simp[q2s,show ky a≤ky x by omega]
   ·have e1:j4 ky (a::A) (b::q2s ky x B)=b::j4 ky (a::A) (q2s ky x B):=by rw[j4,if_neg h]
    have e2:j4 ky (a::A) (b::B)=b::j4 ky (a::A) B:=by rw[j4,if_neg h]
    rw[e1,e2,qrs x (a::A) B];simp[q2s,hb]
  ·have e:q2s ky x (b::B)=x::b::B:=by simp[q2s,hb]
   by_cases h:ky a≤ky x
   ·have e1:j4 ky (a::A) (x::b::B)=a::j4 ky A (x::b::B):=by rw[j4,if_pos h]
    have e2:j4 ky (a::A) (b::B)=a::j4 ky A (b::B):=by rw[j4,if_pos (by omega)]
    rw[e,e1,e2,←e,qrs x A (b::B)];simp[q2s,h]
   ·have e1:j4 ky (a::A) (x::b::B)=x::j4 ky (a::A) (b::B):=by rw[j4,if_neg h]
    rw[e,e1];by_cases h2:ky a≤ky b
    ·have e2:j4 ky (a::A) (b::B)=a::j4 ky A (b::B):=by rw[j4,if_pos h2]
     rw[e2];simp[q2s,h]
    ·have e2:j4 ky (a::A) (b::B)=b::j4 ky (a::A) B:=by rw[j4,if_neg h2]
     rw[e2];simp[q2s,hb]
theorem zd8(A B:List α):jb ky (A++B)=j4 ky (jb ky A) (jb ky B):=by
 have key:∀(n:Nat)(B:List α),B.length=n→j4 ky (jb ky A) (jb ky B)=jb ky (A++B):=by
  intro n
  induction n with
  |zero=>
   intro B h;obtain rfl:=uA h;rw[kN];exact q8u _
  |succ n ih=>
   intro B h;have hne:B≠[]:=fun e=>by subst e;cases h
   rw[←List.dropLast_concat_getLast hne];have e1:∀(L:List α)(x:α),jb ky (L++[x])=q2s ky x (jb ky L):=fun L x=>by simp[jb,vR]
   rw[e1,qrs,ih _ (by rw[List.length_dropLast];omega),←uU,e1]
 exact(key _ B rfl).symm
theorem qd2:∀(A1 B1:List α){A2 B2:List α},(∀x∈A1,∀y∈B2,ky x≤ky y)→(∀y∈B1,∀x∈A2,ky y<ky x)→j4 ky (A1++A2) (B1++B2)=j4 ky A1 B1++j4 ky A2 B2
 |[],[],A2,B2,_,_=>by simp[j4]
 | [], b :: B1, A2, B2, h1, h2 => by
  have ih:=qd2 [] B1 (A2:=A2) (B2:=B2) h1 (fun y hy=>h2 y (uV _ hy));rw[kM] at ih⊢;rw[q62] at ih⊢;cases A2 with
  |nil=>rw[q62,q62]
  |cons x A2=>
   have:=h2 b kA x kA;rw[uT,j4,if_neg (by omega),ih];rfl
 | a :: A1, [], A2, B2, h1, h2 => by
  have ih:=qd2 A1 [] (A2:=A2) (B2:=B2) (fun x hx=>h1 x (uV _ hx)) h2;rw[kM] at ih⊢;rw[q8u] at ih⊢;cases B2 with
  |nil=>rw[q8u,q8u]
  |cons y B2=>
   have:=h1 a kA y kA;rw[uT,j4,if_pos this,ih];rfl
 | a :: A1, b :: B1, A2, B2, h1, h2 => by
  have ih1:=qd2 A1 (b::B1) (A2:=A2) (B2:=B2) (fun x hx=>h1 x (uV _ hx)) h2;have ih2:=qd2 (a::A1) B1 (A2:=A2) (B2:=B2) h1 (fun y hy=>h2 y (uV _ hy));by_cases h:ky a≤ky b
  ·have e1:j4 ky (a::A1++A2) (b::B1++B2)=a::j4 ky (A1++A2) (b::B1++B2):=by rw[uT,uT,j4,if_pos h]
   have e2:j4 ky (a::A1) (b::B1)=a::j4 ky A1 (b::B1):=by rw[j4,if_pos h]
   rw[e1,e2,ih1];rfl
  ·have e1:j4 ky (a::A1++A2) (b::B1++B2)=b::j4 ky (a::A1++A2) (B1++B2):=by rw[uT,uT,j4,if_neg h]
   have e2:j4 ky (a::A1) (b::B1)=b::j4 ky (a::A1) B1:=by rw[j4,if_neg h]
   rw[e1,e2,ih2];rfl
def q7i(ky:α→Int)(l:List α):Prop:=l.Pairwise fun x y=>ky x≤ky y
theorem zib{x z:α}{l:List α}(h:z∈q2s ky x l):z=x∨z∈l:=by
 induction l with
 |nil=>simp[q2s] at h;exact .inl h
 | cons y l ih =>
  unfold q2s at h;split at h
  ·rcases uY.1 h with rfl|h
   ·exact .inr kA
   ·exact(ih h).imp id fun h=>uV _ h
  ·rcases uY.1 h with rfl|h
   ·exact .inl rfl
   ·exact .inr h
theorem zjo{x:α}{l:List α}(h:q7i ky l):q7i ky (q2s ky x l):=by
 induction l with
 |nil=>exact vK _ _
 | cons y l ih =>
  obtain⟨h1,h2⟩:=uX.1 h;unfold q2s;split
  ·rename_i hy;refine uX.2 ⟨fun z hz=>?_,ih h2⟩;rcases zib hz with rfl|hz
   ·exact hy
   ·exact h1 z hz
  ·rename_i hy;refine uX.2 ⟨fun z hz=>?_,h⟩;rcases uY.1 hz with rfl|hz
   ·omega
   ·have:=h1 z hz;omega
theorem qah(l:List α):q7i ky (jb ky l):=by
 have key:∀(l acc:List α),q7i ky acc→q7i ky (l.foldl (fun acc x=>q2s ky x acc) acc):=by
  intro l
  induction l with
  |nil=>intro acc h;exact h
  |cons x l ih=>intro acc h;exact ih _ (zjo h)
 exact key l [] List.Pairwise.nil
theorem qiy(L:List α)(x:α):jb ky (L++[x])=q2s ky x (jb ky L):=by simp[jb,vR]
theorem qk8{x:α}:∀{L1 L2:List α},(∀y∈L1,ky y≤ky x)→(∀y,L2.head? =some y→ky x<ky y)→q2s ky x (L1++L2)=L1++x::L2
 |[],[],_,_=>rfl
 |[],z::L2,_,h2=>by
  have:=h2 z rfl;simp[q2s,show ¬ky z≤ky x by omega]
 |y::L1,L2,h1,h2=>by
  rw[uT,q2s,if_pos (h1 y kA),qk8 (fun z hz=>h1 z (uV _ hz)) h2];rfl
theorem qt2{x y:α}{L:List α}(h:q7i ky (L++[y]))(hy:ky y≤ky x):∀z∈L++[y],ky z≤ky x:=fun z hz=>by
 rcases kF.1 hz with hz|hz
 ·have:=(kR.1 h).2.2 z hz y (by simp);omega
 ·obtain rfl:z=y:=by simpa using hz
  exact hy
theorem q7i.left{A B:List α}(h:q7i ky (A++B)):q7i ky A:=(kR.1 h).1
theorem q7i.right{A B:List α}(h:q7i ky (A++B)):q7i ky B:=(kR.1 h).2.1
theorem z0i{y:α}{B:List α}(h:q7i ky (y::B)){n:Int}(hn:n≤ky y):∀z∈y::B,n≤ky z:=fun z hz=>by
 rcases uY.1 hz with rfl|hz
 ·exact hn
 ·have:=(uX.1 h).1 z hz;omega
def chK(ky:α→Int):Nat→Nat→List α→List α
 |0,_,l=>l
 |t+1,k,l=>jb ky (l.take k)++chK ky t k (l.drop k)
theorem q3j:∀(t k:Nat)(l:List α),(chK ky t k l).length=l.length
 |0,_,l=>rfl
 |t+1,k,l=>by
  rw[chK,uE,yy,q3j t k,uD,uH];omega
theorem qth:∀(t k:Nat)(l:List α),(chK ky t k l).drop (t * k)=l.drop (t * k)
 |0,_,l=>by simp[chK]
 | t + 1, k, l => by
  rw[chK];by_cases h:l.length≤k
  ·rw[uF (by rw[uE,yy,q3j,uD,uH,kH];omega),uF (by rw[kH];omega)]
  ·have e:(jb ky (l.take k)).length=k:=by rw[yy,uD];omega
   rw[show(t+1) * k=k+t * k by rw[kH];omega,←uW,←uW];have:(jb ky (l.take k)++chK ky t k (l.drop k)).drop k=chK ky t k (l.drop k):=by
    conv=>lhs;arg 1;rw[←e]
    exact kD
   rw[this,qth t k]
theorem qjz:∀(t k:Nat)(l:List α),chK ky (t+1) k l=(chK ky t k l).take (t * k)++(jb ky ((l.drop (t * k)).take k)++(l.drop (t * k)).drop k)
 |0,k,l=>by simp[chK]
 | t + 1, k, l => by
  have e0:chK ky (t+2) k l=jb ky (l.take k)++chK ky (t+1) k (l.drop k):=rfl;have e1:chK ky (t+1) k l=jb ky (l.take k)++chK ky t k (l.drop k):=rfl;have e2:(t+1) * k=k+t * k:=by rw[kH];omega
  rw[e0,e1,qjz t k (l.drop k),e2,uW];by_cases h:l.length≤k
  ·have z0:l.drop k=[]:=uF h;have z1:l.drop (k+t * k)=[]:=uF (by omega);have z2:chK ky t k ([]:List α)=[]:=uA (by rw[q3j];rfl);have z3:(jb ky (l.take k)).take (k+t * k)=jb ky (l.take k):=uO (by rw[yy,uD];omega);rw[z0,z1,z2];simp only[List.drop_nil,List.take_nil,kN,z3];simp[jb]
  ·have e:(jb ky (l.take k)).length=k:=by rw[yy,uD];omega
   have z3:(jb ky (l.take k)).take (k+t * k)=jb ky (l.take k):=uO (by rw[e];omega);rw[vS,e,kE,uU,z3]
theorem zb5{t k:Nat}{l:List α}(h:l.length≤k)(ht:0<t∨l=[]):chK ky t k l=jb ky l:=by
 cases t with
 |zero=>
  rcases ht with h|rfl
  ·omega
  ·rfl
 |succ t=>
  rw[chK,uO h,uF h];have:chK ky t k ([]:List α)=[]:=uA (by rw[q3j];rfl);rw[this,kN]
end
end
def pmL(f:Nat→Nat)(l:List D):List D:=(List.range l.length).map fun i=>l.getD (f i) .u
variable{f:Nat→Nat}
theorem q1r{l:List D}:(pmL f l).length=l.length:=by simp[pmL]
theorem q6d{l:List D}(h:i<l.length):(pmL f l).getD i .u=l.getD (f i) .u:=by
 simp[pmL,gnG,List.getElem?_map,List.getElem?_range h]
theorem qvs{l m:List D}(hl:l.length=m.length)(h:∀i,i<l.length→l.getD i .u=m.getD i .u):l=m:=by
 refine List.ext_getElem hl fun i h1 h2=>?_;have:=h i h1;simpa[gnG,gnK h1,gnK h2] using this
theorem qz6{l:List D}{j:Nat}(hj:j<l.length):(l.set i d).getD j .u=if i=j then d else l.getD j .u:=by
 simp only[gnG,List.getElem?_set];split
 ·rename_i h;subst h;simp[hj]
 ·rfl
theorem zru{l:List D}(h:∀i,i<l.length→f i=i):pmL f l=l:=qvs q1r fun i hi=>by
 rw[q1r] at hi;rw[q6d hi,h i hi]
theorem zaq{l:List D}{g k:Nat→Nat}(h:∀i,i<l.length→f i<l.length∧g (f i)=k i):pmL f (pmL g l)=pmL k l:=qvs (by rw[q1r,q1r,q1r]) fun i hi=>by
 rw[q1r,q1r] at hi;rw[q6d (by rw[q1r];exact hi),q6d (h i hi).1,q6d hi,(h i hi).2]
theorem qc3(l:List D)(i:Int):(D.r l).get i=l.getD i.toNat .u:=rfl
def swF(a b k i:Nat):Nat:=if a≤i∧i<a+k then i - a+b else if b≤i∧i<b+k then i - b+a else i
def z77(a m b i:Nat):Nat:=if a≤i∧i<a+(b - m) then i - a+m else if a+(b - m)≤i∧i<b then i - (b - m) else i
theorem zoa{l:List D}{a b k:Nat}(h:a+k<b)(hb:b+k<l.length):((pmL (swF a b k) l).set (a+k) ((pmL (swF a b k) l).getD (b+k) .u)).set (b+k) ((pmL (swF a b k) l).getD (a+k) .u)=pmL (swF a b (k+1)) l:=by
 refine qvs (by simp[q1r]) fun i hi=>?_;simp only[List.length_set,q1r] at hi;rw[qz6 (by simpa[q1r] using hi),qz6 (by simpa[q1r] using hi),q6d hi,q6d (by omega),q6d (by omega),q6d hi];unfold swF;split
 ·subst_vars;rw[if_neg (by omega),if_neg (by omega),if_neg (by omega),if_pos (by omega)]
  congr 1
  omega
 ·split
  ·subst_vars;rw[if_neg (by omega),if_neg (by omega),if_pos (by omega)]
   congr 1
   omega
  ·congr 1
   split
   ·rw[if_pos (by omega)]
   ·split
    ·rw[if_neg (by omega),if_pos (by omega)]
    ·rw[if_neg (by omega),if_neg (by omega)]
def z8c:List D→Option (List D)
 |[.r l,.i a,.i b,.i n]=>if 0≤a∧0≤n∧a+n≤b∧b+n≤l.length∧l.length≤1000000 then some [.r (pmL (swF a.toNat b.toNat n.toNat) l)] else none
 |_=>none
theorem zm0:FOk z8 z8c:=q6v fun ds outs hw hg=>by
 obtain⟨d,r,rfl,hd,e,r1,rfl,he,f,r2,rfl,hf,q,r3,rfl,hq,rfl⟩:=hw;obtain⟨l,te,rfl,-,hl,-⟩:=hd.row;obtain⟨a,rfl,ha⟩:=wfI he;obtain⟨b,rfl,hb⟩:=wfI hf;obtain⟨n,rfl,hn⟩:=wfI hq;simp only[z8c,uM,uN] at hg;obtain⟨⟨h0,h1,h2,h3,h4⟩,rfl⟩:=hg;obtain⟨a,rfl⟩:=uK h0;obtain⟨n,rfl⟩:=uK h1;obtain⟨b,rfl⟩:=uK (show 0≤b by omega);simp only[uP];rw[q0h,zz];refine⟨fun st=>∃k:Nat,k≤n∧st=[.i k,.r (pmL (swF a b k) l)],fun st=>n - (st.getD 0 .u).int.toNat,⟨0,vF _,?_⟩,?_⟩
 ·rw[zru fun i _=>by unfold swF;rw[if_neg (by omega),if_neg (by omega)]];simp[X.evs,X.ev,evl]
 rintro st - ⟨k,hk,rfl⟩;rw[zw];refine⟨fun hlt=>?_,fun hlt=>?_⟩
 ·simp only[gnZ] at hlt;have ea:((a:Int)+(k:Int)).toNat=a+k:=by omega
  have eb:((b:Int)+(k:Int)).toNat=b+k:=by omega
  simp only[gnZ,qc3,ea,eb,q1r,zoa (l:=l) (a:=a) (b:=b) (k:=k) (by omega) (by omega)];refine⟨by (repeat' apply uG)<;>first|omega|trivial,?_⟩
  try refine⟨by (repeat' apply uG)<;>first|omega|trivial,?_⟩
  rw[jg,if_pos rfl];refine⟨⟨k+1,by omega,by simp⟩,?_⟩;simp[D.int];omega
 ·simp only[gnZ] at hlt;obtain rfl:k=n:=by omega
  simp[gnZ]
def z6f:List D→Option (List D)
 |[.r l,.i a,.i m,.i b]=>if 0≤a∧a<m∧m<b∧b≤l.length∧l.length≤1000000 then some [.r (pmL (z77 a.toNat m.toNat b.toNat) l)] else none
 |_=>none
theorem z1p{l:List D}{a b n:Int}{a' b' n':Nat}(ha:a=a')(hb:b=b')(hn:n=n')(h:a'+n'≤b')(h2:b'+n'≤l.length)(h3:l.length≤1000000):z8c [.r l,.i a,.i b,.i n]=some [.r (pmL (swF a' b' n') l)]:=by
 subst ha hb hn;simp only[z8c,uP];rw[if_pos (by omega)]
theorem znt:FOk qr z6f:=q8q zm0 fun ds outs hw hg=>by
 obtain⟨d,r,rfl,hd,e,r1,rfl,he,f,r2,rfl,hf,q,r3,rfl,hq,rfl⟩:=hw;obtain⟨l,te,rfl,-,hl,-⟩:=hd.row;obtain⟨a,rfl,ha⟩:=wfI he;obtain⟨m,rfl,hm⟩:=wfI hf;obtain⟨b,rfl,hb⟩:=wfI hq;simp only[z6f,uM,uN] at hg;obtain⟨⟨h0,h1,h2,h3,h4⟩,rfl⟩:=hg;obtain⟨a,rfl⟩:=uK h0;obtain⟨m,rfl⟩:=uK (show 0≤m by omega);obtain⟨b,rfl⟩:=uK (show 0≤b by omega);simp only[uP];simp only[q0x,gnZ];refine⟨by (repeat' apply uG)<;>first|omega|trivial,?_⟩
 try refine⟨by (repeat' apply uG)<;>first|omega|trivial,?_⟩
 rw[zz];refine⟨fun st=>∃(i j:Nat)(l':List D),0<i∧0<j∧i≤m∧m+j≤l.length∧st=[.i i,.i j,.r l']∧l'.length=l.length∧pmL (z77 (m - i) m (m+j)) l'=pmL (z77 a m b) l,fun st=>(st.getD 0 .u).int.toNat+(st.getD 1 .u).int.toNat,⟨m - a,b - m,l,by omega,by omega,by omega,by omega,?_,rfl,?_⟩,?_⟩
 ·simp only[X.evs,X.ev,evl,kK,kL,yw];rw[show((m:Int) - (a:Int))=((m - a:Nat):Int) by omega,show((b:Int) - (m:Int))=((b - m:Nat):Int) by omega]
 ·rw[show m - (m - a)=a by omega,show m+(b - m)=b by omega]
 rintro st - ⟨i,j,l',hi,hj,him,hmj,rfl,hll,hrot⟩;rw[zw];refine⟨fun hne=>?_,fun he=>?_⟩
 ·simp only[gnZ,q6r,kS,decide_eq_false_iff_not] at hne;have hne:i≠j:=by omega
  rw[zw];refine⟨fun hlt=>?_,fun hlt=>?_⟩
  ·simp only[gnZ] at hlt;have hS:z8c [.r l',.i ((m:Int) - (i:Int)),.i m,.i j]=some [.r (pmL (swF (m - i) m j) l')]:=z1p (by omega) rfl rfl (by omega) (by omega) (by omega);simp only[gnZ,hS];refine⟨by (repeat' apply uG)<;>first|omega|trivial,?_⟩
   try refine⟨by (repeat' apply uG)<;>first|omega|trivial,?_⟩
   rw[jg,if_pos rfl];refine⟨⟨i - j,j,pmL (swF (m - i) m j) l',by omega,hj,by omega,hmj,?_,by rw[q1r];exact hll,?_⟩,?_⟩
   ·simp only[kY,q6r,and_true,true_and];omega
   ·rw[←hrot];refine zaq fun x hx=>?_;rw[hll] at hx;rw[show m - (i - j)=m - i+j by omega];unfold z77 swF
    repeat' split
    all_goals omega
   ·simp[D.int];omega
  ·simp only[gnZ] at hlt;have hS:z8c [.r l',.i ((m:Int) - (i:Int)),.i ((m:Int)+(j:Int) - (i:Int)),.i i]=some [.r (pmL (swF (m - i) (m+j - i) i) l')]:=z1p (by omega) (by omega) rfl (by omega) (by omega) (by omega);simp only[gnZ,hS];refine⟨by (repeat' apply uG)<;>first|omega|trivial,?_⟩
   try refine⟨by (repeat' apply uG)<;>first|omega|trivial,?_⟩
   rw[jg,if_pos rfl];refine⟨⟨i,j - i,pmL (swF (m - i) (m+j - i) i) l',hi,by omega,him,by omega,?_,by rw[q1r];exact hll,?_⟩,?_⟩
   ·simp only[kY,q6r,and_true,true_and];omega
   ·rw[←hrot];refine zaq fun x hx=>?_;rw[hll] at hx;rw[show m+(j - i)=m+j - i by omega];unfold z77 swF
    repeat' split
    all_goals omega
   ·simp[D.int];omega
 ·simp only[gnZ,q6r,vB,gnD] at he;obtain rfl:i=j:=by omega
  have hS:z8c [.r l',.i ((m:Int) - (i:Int)),.i m,.i i]=some [.r (pmL (swF (m - i) m i) l')]:=z1p (by omega) rfl rfl (by omega) (by omega) (by omega);simp only[gnZ,hS];refine⟨by (repeat' apply uG)<;>first|omega|trivial,?_⟩
  try refine⟨by (repeat' apply uG)<;>first|omega|trivial,?_⟩
  rw[←hrot]
  congr 2
  refine qvs (by rw[q1r,q1r]) fun x hx=>?_;rw[q1r] at hx;rw[q6d hx,q6d hx]
  congr 1
  unfold z77 swF
  repeat' split
  all_goals omega
def kyD(d:D):Int:=(d.fld 0).int
def gCw:List D→Option (List D)
 |[x,y]=>some [.i (if kyD x<kyD y then -1 else if kyD y<kyD x then 1 else 0)]
 |_=>none
theorem q5l:FOk qy gCw:=qmo q4g fun ds outs hw hg=>by
 obtain⟨d,r,rfl,hd,e,r',rfl,he,rfl⟩:=hw;simp only[gCw,uN] at hg;subst hg;simp[q6b,gnZ,zk0,kyD];rfl
theorem zvu{l:List D}{a b:Nat}(h1:a≤b)(h2:b≤l.length):∃U S W,l=U++(S++W)∧U.length=a∧S.length=b - a∧l.take a=U∧(l.drop a).take (b - a)=S∧l.drop b=W:=by
 refine⟨l.take a,(l.drop a).take (b - a),l.drop b,?_,by simp;omega,by simp;omega,rfl,rfl,rfl⟩;have e:l.drop b=(l.drop a).drop (b - a):=by rw[uW];congr 1;omega
 rw[e,uJ,uJ]
variable{x:D}
theorem q2e{A B:List D}{n:Nat}(h:n=A.length):(A++x::B).getD n .u=x:=by
 subst h;simp[gnG]
theorem z0k{A B:List D}{y:D}{n:Nat}(h:n=A.length+1):(A++y::x::B).getD n .u=x:=by
 rw[show A++y::x::B=(A++[y])++x::B by simp];exact q2e (by simp;omega)
theorem z6r{A B:List D}{y:D}{n k:Nat}(h:n=A.length)(hk:k=A.length+1):((A++y::x::B).set k y).set n x=A++x::y::B:=by
 subst h hk;simp[vU]
theorem zdz{A B:List D}{y:D}{n k:Nat}(h:n=A.length)(hk:k=A.length+1):((A++y::x::B).set n x).set k y=A++x::y::B:=by
 subst h hk;simp[vU]
theorem zek{l:List D}(h:l.length≤1):jb kyD l=l:=by
 rcases l with _|⟨x,_|⟨y,l⟩⟩
 ·rfl
 ·rfl
 ·simp at h
def zeq:List D→Option (List D)
 |[.r l,.i a,.i b]=>if 0≤a∧a≤b∧b≤l.length∧l.length≤1000000 then some [.r (l.take a.toNat++(jb kyD ((l.drop a.toNat).take (b.toNat - a.toNat))++l.drop b.toNat))] else none
 |_=>none
theorem zo3:FOk qw zeq:=q59 q5l fun ds outs hw hg=>by
 obtain⟨d,r,rfl,hd,e,r1,rfl,he,f,r2,rfl,hf,rfl⟩:=hw;obtain⟨l,te,rfl,-,hl,-⟩:=hd.row;obtain⟨a,rfl,ha⟩:=wfI he;obtain⟨b,rfl,hb⟩:=wfI hf;simp only[zeq,uM,uN] at hg;obtain⟨⟨h0,h1,h2,h3⟩,rfl⟩:=hg;obtain⟨a,rfl⟩:=uK h0;obtain⟨b,rfl⟩:=uK (show 0≤b by omega);simp only[uP];obtain⟨U,S,W,hlq,hU,hS,e1,e2,e3⟩:=zvu (l:=l) (a:=a) (b:=b) (by omega) (by omega);rw[e1,e2,e3];have hlen:l.length=U.length+(S.length+W.length):=by rw[hlq];simp
 simp only[jt];rw[qp];refine⟨by simp only[gnZ];(repeat' apply uG)<;>first|omega|trivial,?_⟩;rw[zz];have e11:((a:Int)+1)=((a+1:Nat):Int):=by omega
 refine⟨fun st=>∃t:Nat,1≤t∧(t≤S.length∨t=1)∧st=[.i ((a+t:Nat):Int),.r (U++(jb kyD (S.take t)++(S.drop t++W)))],fun st=>b - (st.getD 0 .u).int.toNat,⟨1,uQ _,.inr rfl,?_⟩,?_⟩
 ·rw[zek (by rw[uD];omega),←uU (S.take 1),uJ,←hlq];simp only[X.evs,X.ev,evl,kK,kL,yw,e11]
 rintro st - ⟨t,ht1,ht,rfl⟩;rw[zw];refine⟨fun hlt=>?_,fun hlt=>?_⟩
 ·simp only[gnZ] at hlt;have hts:t<S.length:=by omega
  obtain⟨x,hx⟩:∃x,S[t]=x:=⟨_,rfl⟩;have hdr:S.drop t=x::S.drop (t+1):=by rw[kI hts,hx]
  have htk:S.take (t+1)=S.take t++[x]:=by rw[List.take_succ_eq_append_getElem hts,hx]
  have hsl:(jb kyD (S.take t)).length=t:=by rw[yy,uD];omega
  rw[zz];refine⟨fun st=>∃L1 L2:List D,L1++L2=jb kyD (S.take t)∧(∀y∈L2,kyD x<kyD y)∧st=[.i ((a+L1.length:Nat):Int),.r ((U++L1)++x::(L2++(S.drop (t+1)++W)))],fun st=>(st.getD 0 .u).int.toNat,⟨jb kyD (S.take t),[],by simp,by simp,?_⟩,?_⟩
  ·simp[X.evs,X.ev,evl,hsl,hdr]
  rintro st - ⟨L1,L2,hL,hL2,rfl⟩;have hll:L1.length+L2.length=t:=by rw[←hsl,←hL,uE]
  have hrl:((U++L1)++x::(L2++(S.drop (t+1)++W))).length=l.length:=by
   simp only[uE,uR,uH];omega
  have hgx:((U++L1)++x::(L2++(S.drop (t+1)++W))).getD (a+L1.length) .u=x:=q2e (by simp;omega);rw[qp];refine⟨?_,?_⟩
  ·simp only[gnZ,qc3,hrl,gCw,Bool.or_eq_true,kS,decide_eq_false_iff_not,Bool.or_true]
   (repeat' apply uG)<;>first|omega|trivial
  rw[zw];rcases kB L1 with rfl|⟨L1',y,hcat⟩
  ·refine⟨fun hc=>?_,fun hc=>?_⟩
   ·simp only[gnZ,gnB,gnD] at hc;exact absurd hc.1 (by simp)
   ·rw[qp];refine⟨by simp only[gnZ];(repeat' apply uG)<;>first|omega|trivial,?_⟩;simp only[gnZ];rw[jg,if_neg (by decide),jg,if_pos rfl];refine⟨⟨t+1,by omega,.inl (by omega),?_⟩,?_⟩
    ·rw[htk,qiy,←hL,qk8 (by simp) (fun z hz=>hL2 z (vL hz))];simp[X.ev,X.evs,evl];omega
    ·simp[D.int];omega
  ·rw[kC] at hcat;subst hcat;have hgy:((U++(L1'++[y]))++x::(L2++(S.drop (t+1)++W))).getD (a+L1'.length) .u=y:=by
    rw[show(U++(L1'++[y]))++x::(L2++(S.drop (t+1)++W))=(U++L1')++y::(x::(L2++(S.drop (t+1)++W))) by simp];exact q2e (by simp;omega)
   have ej:(((a+(L1'++[y]).length:Nat):Int) - 1).toNat=a+L1'.length:=by simp;omega
   have ej0:((a+(L1'++[y]).length:Nat):Int).toNat=a+(L1'++[y]).length:=by omega
   refine⟨fun hc=>?_,fun hc=>?_⟩
   ·simp only[gnZ,qc3,ej,ej0,hgx,hgy,gCw,gnB,gnD,qfc] at hc;rw[qp];refine⟨?_,?_⟩
    ·simp only[gnZ,qc3,hrl];simp only[uE,uR,uZ] at hll⊢
     (repeat' apply uG)<;>first|omega|trivial
    rw[qp];refine⟨by simp only[gnZ];(repeat' apply uG)<;>first|omega|trivial,?_⟩;simp only[gnZ,qc3,ej,ej0,hgx,hgy];rw[jg,if_pos rfl];refine⟨⟨L1',y::L2,by rw[←hL];simp,fun z hz=>?_,?_⟩,?_⟩
    ·rcases uY.1 hz with rfl|hz
     ·exact hc.2
     ·exact hL2 z hz
    ·rw[show(U++(L1'++[y]))++x::(L2++(S.drop (t+1)++W))=(U++L1')++y::x::(L2++(S.drop (t+1)++W)) by simp,z6r (by simp;omega) (by simp;omega)];simp only[uT,kY,q6r,and_true];simp;omega
    ·simp[D.int];omega
   ·simp only[gnZ,qc3,ej,ej0,hgx,hgy,gCw,uI,decide_eq_false_iff_not,qfc] at hc;have hc':kyD y≤kyD x:=by
     rcases hc with hc|hc
     ·exact absurd (show(a:Int)<((a+(L1'++[y]).length:Nat):Int) by simp;omega) hc
     ·omega
    rw[qp];refine⟨by simp only[gnZ];(repeat' apply uG)<;>first|omega|trivial,?_⟩;simp only[gnZ];rw[jg,if_neg (by decide),jg,if_pos rfl];refine⟨⟨t+1,by omega,.inl (by omega),?_⟩,?_⟩
    ·have hsr:q7i kyD ((L1'++[y])++L2):=by rw[hL];exact qah _
     rw[htk,qiy,←hL,qk8 (qt2 hsr.left hc') (fun z hz=>hL2 z (vL hz))];simp[X.ev,X.evs,evl];omega
    ·simp[D.int];omega
 ·simp only[gnZ] at hlt;have hts:S.length≤t:=by omega
  simp only[gnZ];rw[uO hts,uF hts,kM]
def sgD(l:List D)(a b:Nat):List D:=(l.drop a).take (b - a)
theorem zw1{l:List D}{a m b:Nat}(h0:a≤m)(h1:m≤b)(h2:b≤l.length):∃U A B W,l=U++(A++(B++W))∧U.length=a∧A.length=m - a∧B.length=b - m∧l.take a=U∧sgD l a m=A∧sgD l m b=B∧l.drop b=W:=by
 refine⟨l.take a,sgD l a m,sgD l m b,l.drop b,?_,by simp;omega,by simp[sgD];omega,by simp[sgD];omega,rfl,rfl,rfl,rfl⟩;have e1:l.drop m=sgD l m b++l.drop b:=by
  have e:l.drop b=(l.drop m).drop (b - m):=by rw[uW];congr 1;omega
  rw[sgD,e,uJ]
 have e2:l.drop a=sgD l a m++l.drop m:=by
  have e:l.drop m=(l.drop a).drop (m - a):=by rw[uW];congr 1;omega
  rw[sgD,e,uJ]
 rw[←e1,←e2,uJ]
theorem zg0{P X Y Q:List D}{a m b:Nat}(ha:a=P.length)(hm:m=a+X.length)(hb:b=m+Y.length):pmL (z77 a m b) (P++(X++(Y++Q)))=P++(Y++(X++Q)):=by
 refine qvs (by rw[q1r];simp;omega) fun i hi=>?_;rw[q1r] at hi;rw[q6d hi];simp only[uE] at hi;simp only[gnG]
 congr 1
 unfold z77;by_cases h1:i<a
 ·rw[if_neg (by omega),if_neg (by omega),uC (by omega),uC (by omega)]
 ·by_cases h2:i<a+(b - m)
  ·rw[if_pos ⟨by omega,h2⟩,uB (by omega),uB (by omega),uC (by omega),uB (by omega),uC (by omega)]
   congr 1
   omega
  ·by_cases h3:i<b
   ·rw[if_neg (by omega),if_pos (by omega),uB (by omega),uC (by omega),uB (by omega),uB (by omega),uC (by omega)]
    congr 1
    omega
   ·rw[if_neg (by omega),if_neg (by omega),uB (by omega),uB (by omega),uB (by omega),uB (by omega),uB (by omega),uB (by omega)]
    congr 1
    omega
theorem zau:∀{B1 B2:List D},(∀y∈B1,kyD y<kyD x)→(∀y,B2.head? =some y→kyD x≤kyD y)→j4 kyD [x] (B1++B2)=B1++x::B2
 |[],[],_,_=>by simp[j4]
 |[],y::B2,_,h=>by
  have:=h y rfl;rw[kM,j4,if_pos this,q62];rfl
 |y::B1,B2,h1,h2=>by
  have:=h1 y kA;rw[uT,j4,if_neg (by omega),zau (fun z hz=>h1 z (uV _ hz)) h2];rfl
theorem qzp{n:Int}{y:D}{L:List D}(h:q7i kyD (L++[y]))(hy:kyD y<n):∀z∈L++[y],kyD z<n:=fun z hz=>by
 rcases kF.1 hz with hz|hz
 ·have:=(kR.1 h).2.2 z hz y (by simp);omega
 ·obtain rfl:z=y:=by simpa using hz
  exact hy
theorem zdx{l U A1 A2 B1 B2 W:List D}{s m e:Nat}(hl:l=U++(A1++(A2++(B1++(B2++W)))))(hs:s=U.length+A1.length)(hm:m=s+A2.length)(he:e=m+B1.length)(sA:q7i kyD (A1++A2))(sB:q7i kyD (B1++B2))
  (h1:A1=[]∨B2=[]∨kyD (l.getD (s - 1) .u)≤kyD (l.getD e .u))(h2:A2=[]∨B1=[]∨kyD (l.getD (e - 1) .u)<kyD (l.getD s .u)):j4 kyD (A1++A2) (B1++B2)=j4 kyD A1 B1++j4 kyD A2 B2:=by
 refine qd2 A1 B1 ?_ ?_
 ·intro x hx y hy;rcases h1 with rfl|rfl|h1
  ·cases hx
  ·cases hy
  rcases kB A1 with rfl|⟨A,z,hc⟩
  ·cases hx
  rw[kC] at hc;subst hc;cases B2 with
  |nil=>cases hy
  | cons q B2 =>
   have e1:l.getD (s - 1) .u=z:=by
    rw[hl,show U++((A++[z])++(A2++(B1++(q::B2++W))))=(U++A)++z::(A2++(B1++(q::B2++W))) by simp];exact q2e (by simp at hs⊢;omega)
   have e2:l.getD e .u=q:=by
    rw[hl,show U++((A++[z])++(A2++(B1++(q::B2++W))))=(U++((A++[z])++(A2++B1)))++q::(B2++W) by simp];exact q2e (by simp at hs⊢;omega)
   rw[e1,e2] at h1;have a1:=qt2 (x:=z) sA.left (vH _) x hx;have a2:=z0i (q7i.right sB) (vH _) y hy;omega
 ·intro y hy x hx;rcases h2 with rfl|rfl|h2
  ·cases hx
  ·cases hy
  rcases kB B1 with rfl|⟨B,z,hc⟩
  ·cases hy
  rw[kC] at hc;subst hc;cases A2 with
  |nil=>cases hx
  | cons q A2 =>
   have e1:l.getD (e - 1) .u=z:=by
    rw[hl,show U++(A1++(q::A2++((B++[z])++(B2++W))))=(U++(A1++(q::A2++B)))++z::(B2++W) by simp];exact q2e (by simp at hm he⊢;omega)
   have e2:l.getD s .u=q:=by
    rw[hl,show U++(A1++(q::A2++((B++[z])++(B2++W))))=(U++A1)++q::(A2++((B++[z])++(B2++W))) by simp];exact q2e (by simp;omega)
   rw[e1,e2] at h2;have a1:=qzp sB.left h2 y hy;have a2:=z0i (q7i.right sA) (vH _) x hx;omega
open Classical in
noncomputable def qrc:List D→Option (List D)
 |[.r l,.i a,.i m,.i b]=>if 0≤a∧a<m∧m<b∧b≤l.length∧l.length≤1000000∧q7i kyD (sgD l a.toNat m.toNat)∧q7i kyD (sgD l m.toNat b.toNat) then some [.r (l.take a.toNat++(j4 kyD (sgD l a.toNat m.toNat) (sgD l m.toNat b.toNat)++l.drop b.toNat))] else none
 |_=>none
theorem qro{U A B W:List D}{a m b:Int}(ha:a=U.length)(hm:m=U.length+A.length)(hb:b=U.length+A.length+B.length)(h1:0<A.length)(h2:0<B.length)(h3:U.length+A.length+B.length+W.length≤1000000)(sA:q7i kyD A)(sB:q7i kyD B):qrc [.r (U++(A++(B++W))),.i a,.i m,.i b]=some [.r (U++(j4 kyD A B++W))]:=by
 have d1:(U++(A++(B++W))).drop (U.length+A.length)=B++W:=by rw[←uW,kD,kD]
 have t1:(U++(A++(B++W))).take U.length=U:=kP;have t2:sgD (U++(A++(B++W))) U.length (U.length+A.length)=A:=by rw[sgD,kD,kE,kP]
 have t3:sgD (U++(A++(B++W))) (U.length+A.length) (U.length+A.length+B.length)=B:=by rw[sgD,d1,kE,kP]
 have t4:(U++(A++(B++W))).drop (U.length+A.length+B.length)=W:=by rw[←uW,d1,kD]
 have ea:a.toNat=U.length:=by omega
 have em:m.toNat=U.length+A.length:=by omega
 have eb:b.toNat=U.length+A.length+B.length:=by omega
 simp only[qrc];rw[if_pos ⟨by omega,by omega,by omega,by simp;omega,by simp;omega,by rw[ea,em,t2];exact sA,by rw[em,eb,t3];exact sB⟩,ea,em,eb,t1,t2,t3,t4]
def qxl(ds:List D):Nat:=((ds.getD 3 .u).int - (ds.getD 1 .u).int).toNat
set_option maxHeartbeats 4000000 in
theorem zkm:FOk qi qrc:=qa2 (m:=qxl) q2r fun N ih=>q7j q5l znt ih fun ds outs hw hg=>by
 obtain⟨d,r,rfl,hd,e,r1,rfl,he,f,r2,rfl,hf,q,r3,rfl,hq,rfl⟩:=hw;obtain⟨l,te,rfl,-,hl,-⟩:=hd.row;obtain⟨a,rfl,ha⟩:=wfI he;obtain⟨m,rfl,hm⟩:=wfI hf;obtain⟨b,rfl,hb⟩:=wfI hq;simp only[q3e,qxl,qrc,kK,kL,yw,uM,uN] at hg;obtain⟨hN,⟨h0,h1,h2,h3,h4,sA,sB⟩,rfl⟩:=hg;obtain⟨a,rfl⟩:=uK h0;obtain⟨m,rfl⟩:=uK (show 0≤m by omega);obtain⟨b,rfl⟩:=uK (show 0≤b by omega);simp only[uP] at sA sB⊢;obtain⟨U,A,B,W,hlq,hU,hA,hB,e1,e2,e3,e4⟩:=zw1 (l:=l) (a:=a) (m:=m) (b:=b) (by omega) (by omega) (by omega);rw[e2] at sA;rw[e3] at sB;rw[e1,e2,e3,e4];have hlen:l.length=U.length+(A.length+(B.length+W.length)):=by rw[hlq];simp
 rw[q0l,qp];refine⟨by simp only[gnZ];(repeat' apply uG)<;>first|omega|trivial,?_⟩;rw[zw];refine⟨fun hc=>?_,fun hc=>?_⟩
 ·-- one element before
  simp only[gnZ,q6r] at hc;obtain⟨x,rfl⟩:∃x,A=[x]:=by
   rcases A with _|⟨x,_|⟨y,A⟩⟩
   ·simp at hA;omega
   ·exact⟨x,rfl⟩
   ·simp at hA;omega
  have hgx:l.getD a .u=x:=by rw[hlq];exact q2e hU.symm
  rw[zz];refine⟨fun st=>∃i j:Nat,m≤i∧i≤j∧j≤b∧st=[.i i,.i j]∧(i=m∨kyD (l.getD (i - 1) .u)<kyD x)∧(j=b∨kyD x≤kyD (l.getD j .u)),fun st=>(st.getD 1 .u).int.toNat - (st.getD 0 .u).int.toNat,⟨m,b,uQ _,by omega,uQ _,by simp[X.evs,X.ev,evl],.inl rfl,.inl rfl⟩,?_⟩;rintro st - ⟨i,j,hmi,hij,hjb,rfl,hi,hj⟩;rw[zw];refine⟨fun hlt=>?_,fun hlt=>?_⟩
  ·simp only[gnZ] at hlt;rw[qp];refine⟨by simp only[gnZ,fnD,half,gCw];(repeat' apply uG)<;>first|omega|trivial|exact qj0 (by omega) (by omega),?_⟩;rw[qp];refine⟨by simp only[gnZ,fnD,half,gCw,uP,qc3,hgx];(repeat' apply uG)<;>first|omega|trivial|exact qj0 (by omega) (by omega),?_⟩;rw[zw];simp only[gnZ,fnD,half,gCw,qc3,uP,hgx,qfc];refine⟨fun hc2=>⟨by omega,?_⟩,fun hc2=>?_⟩
   ·rw[jg,if_pos rfl];refine⟨⟨(i+j) / 2+1,j,by omega,by omega,hjb,by simp,.inr (by simpa using hc2),hj⟩,?_⟩;simp[D.int];omega
   ·rw[jg,if_pos rfl];refine⟨⟨i,(i+j) / 2,hmi,by omega,by omega,by simp,hi,.inr (by omega)⟩,?_⟩;simp[D.int];omega
  ·simp only[gnZ] at hlt;obtain rfl:i=j:=by omega
   obtain⟨B1,B2,hB12,hB1⟩:∃B1 B2,B=B1++B2∧B1.length=i - m:=⟨B.take (i - m),B.drop (i - m),(uJ _ _).symm,by rw[uD];omega⟩;subst hB12;have hb1:∀y∈B1,kyD y<kyD x:=by
    rcases kB B1 with rfl|⟨C,z,hc3⟩
    ·simp
    rw[kC] at hc3;subst hc3;have hz:l.getD (i - 1) .u=z:=by
     rw[hlq,show U++([x]++(C++[z]++B2++W))=(U++([x]++C))++z::(B2++W) by simp];exact q2e (by simp at hB1 hA⊢;omega)
    rcases hi with hi|hi
    ·simp at hB1;omega
    ·rw[hz] at hi;exact qzp sB.left hi
   have hb2:∀y,B2.head? =some y→kyD x≤kyD y:=by
    intro y hy;cases B2 with
    |nil=>cases hy
    | cons z B2 =>
     obtain rfl:z=y:=gnI hy;have hz:l.getD i .u=z:=by
      rw[hlq,show U++([x]++(B1++z::B2++W))=(U++([x]++B1))++z::(B2++W) by simp];exact q2e (by simp at hB1 hA⊢;omega)
     rcases hj with hj|hj
     ·simp at hB;omega
     ·rw[hz] at hj;exact hj
   rw[zau hb1 hb2];rw[zz];refine⟨fun st=>∃C1 C2:List D,C1++C2=B1∧st=[.i ((a+C1.length:Nat):Int),.r ((U++C1)++x::(C2++(B2++W)))],fun st=>b - (st.getD 0 .u).int.toNat,⟨[],B1,rfl,?_⟩,?_⟩
   ·simp[X.evs,X.ev,evl,hlq]
   rintro st - ⟨C1,C2,rfl,rfl⟩;have hrl:((U++C1)++x::(C2++(B2++W))).length=l.length:=by
    rw[hlen];simp;omega
   rw[qp];refine⟨by simp only[gnZ];(repeat' apply uG)<;>first|omega|trivial,?_⟩;rw[zw];simp only[uE] at hB1 hB;cases C2 with
   | nil =>
    refine⟨fun hlt2=>?_,fun hlt2=>?_⟩
    ·simp only[gnZ] at hlt2;simp only[uZ] at hB1;simp only[uR,uZ] at hA;omega
    ·simp[gnZ]
   | cons y C2 =>
    refine⟨fun hlt2=>?_,fun hlt2=>?_⟩
    ·have ei:((a+C1.length:Nat):Int).toNat=a+C1.length:=by omega
     have ei1:(((a+C1.length:Nat):Int)+1).toNat=a+C1.length+1:=by omega
     have g1:((U++C1)++x::(y::C2++(B2++W))).getD (a+C1.length) .u=x:=q2e (by simp;omega);have g2:((U++C1)++x::(y::C2++(B2++W))).getD (a+C1.length+1) .u=y:=by
      rw[uT];exact z0k (by simp;omega)
     simp only[uR,uZ] at hB1 hA hB;rw[uT] at hrl g1 g2;rw[qp];refine⟨by simp only[gnZ,hrl];(repeat' apply uG)<;>first|omega|trivial,?_⟩
     first
      |(rw[qp];refine⟨by simp only[gnZ];(repeat' apply uG)<;>first|omega|trivial,?_⟩)
      |skip
     simp only[gnZ,qc3,ei,ei1,g1,g2];rw[jg,if_pos rfl];refine⟨⟨C1++[y],C2,by simp,?_⟩,?_⟩
     ·rw[zdz (by simp;omega) (by simp;omega)];simp;omega
     ·simp[D.int];omega
    ·simp only[gnZ] at hlt2;simp only[uR,uZ] at hB1 hA;omega
 ·simp only[gnZ,q6r,decide_eq_false_iff_not] at hc;rw[qp];refine⟨by simp only[gnZ];(repeat' apply uG)<;>first|omega|trivial,?_⟩;rw[zw];refine⟨fun hc2=>?_,fun hc2=>?_⟩
  ·-- one element behind
   simp only[gnZ,q6r] at hc2;obtain⟨x,rfl⟩:∃x,B=[x]:=by
    rcases B with _|⟨x,_|⟨y,B⟩⟩
    ·simp at hB;omega
    ·exact⟨x,rfl⟩
    ·simp at hB;omega
   have hgx:l.getD m .u=x:=by
    rw[hlq,show U++(A++([x]++W))=(U++A)++x::W by simp];exact q2e (by simp;omega)
   rw[zz];refine⟨fun st=>∃i j:Nat,a≤i∧i≤j∧j≤m∧st=[.i i,.i j]∧(i=a∨kyD (l.getD (i - 1) .u)≤kyD x)∧(j=m∨kyD x<kyD (l.getD j .u)),fun st=>(st.getD 1 .u).int.toNat - (st.getD 0 .u).int.toNat,⟨a,m,uQ _,by omega,uQ _,by simp[X.evs,X.ev,evl],.inl rfl,.inl rfl⟩,?_⟩;rintro st - ⟨i,j,hai,hij,hjm,rfl,hi,hj⟩;rw[zw];refine⟨fun hlt=>?_,fun hlt=>?_⟩
   ·simp only[gnZ] at hlt;rw[qp];refine⟨by simp only[gnZ,fnD,half,gCw];(repeat' apply uG)<;>first|omega|trivial|exact qj0 (by omega) (by omega),?_⟩;rw[qp];refine⟨by simp only[gnZ,fnD,half,gCw,uP,qc3,hgx];(repeat' apply uG)<;>first|omega|trivial|exact qj0 (by omega) (by omega),?_⟩;rw[zw];simp only[gnZ,fnD,half,gCw,qc3,uP,hgx,qfc,kS,vB,gnD,decide_eq_false_iff_not];refine⟨fun hc3=>⟨by omega,?_⟩,fun hc3=>?_⟩
    ·rw[jg,if_pos rfl];refine⟨⟨(i+j) / 2+1,j,by omega,by omega,hjm,by simp,.inr (by rw[vP];omega),hj⟩,?_⟩;simp[D.int];omega
    ·rw[jg,if_pos rfl];refine⟨⟨i,(i+j) / 2,hai,by omega,by omega,by simp,hi,.inr (by omega)⟩,?_⟩;simp[D.int];omega
   ·simp only[gnZ] at hlt;obtain rfl:i=j:=by omega
    obtain⟨A1,A2,hA12,hA1⟩:∃A1 A2,A=A1++A2∧A1.length=i - a:=⟨A.take (i - a),A.drop (i - a),(uJ _ _).symm,by rw[uD];omega⟩;subst hA12;have ha1:∀y∈A1,kyD y≤kyD x:=by
     rcases kB A1 with rfl|⟨C,z,hc3⟩
     ·simp
     rw[kC] at hc3;subst hc3;have hz:l.getD (i - 1) .u=z:=by
      rw[hlq,show U++(C++[z]++A2++([x]++W))=(U++C)++z::(A2++([x]++W)) by simp];exact q2e (by simp at hA1⊢;omega)
     rcases hi with hi|hi
     ·simp at hA1;omega
     ·rw[hz] at hi;exact qt2 sA.left hi
    have ha2:∀y,A2.head? =some y→kyD x<kyD y:=by
     intro y hy;cases A2 with
     |nil=>cases hy
     | cons z A2 =>
      obtain rfl:z=y:=gnI hy;have hz:l.getD i .u=z:=by
       rw[hlq,show U++(A1++z::A2++([x]++W))=(U++A1)++z::(A2++([x]++W)) by simp];exact q2e (by simp;omega)
      rcases hj with hj|hj
      ·simp at hA;omega
      ·rw[hz] at hj;exact hj
    rw[qvm,qk8 ha1 ha2];rw[zz];refine⟨fun st=>∃C1 C2:List D,C1++C2=A2∧st=[.i ((a+A1.length+C1.length:Nat):Int),.r ((U++(A1++C1))++x::(C2++W))],fun st=>(st.getD 0 .u).int.toNat,⟨A2,[],by simp,?_⟩,?_⟩
    ·simp only[uE] at hA;simp[X.evs,X.ev,evl,hlq];omega
    rintro st - ⟨C1,C2,rfl,rfl⟩;have hrl:((U++(A1++C1))++x::(C2++W)).length=l.length:=by
     rw[hlen];simp;omega
    rw[zw];simp only[uE,uR,uZ] at hA hB;rcases kB C1 with rfl|⟨C1',y,hcat⟩
    ·refine⟨fun hlt2=>?_,fun hlt2=>?_⟩
     ·simp only[gnZ] at hlt2;simp only[uZ] at hlt2;omega
     ·simp[gnZ]
    ·rw[kC] at hcat;subst hcat;refine⟨fun hlt2=>?_,fun hlt2=>?_⟩
     ·have ej0:((a+A1.length+(C1'++[y]).length:Nat):Int).toNat=a+A1.length+C1'.length+1:=by simp;omega
      have ej:(((a+A1.length+(C1'++[y]).length:Nat):Int) - 1).toNat=a+A1.length+C1'.length:=by simp;omega
      have er:(U++(A1++(C1'++[y])))++x::(C2++W)=(U++(A1++C1'))++y::x::(C2++W):=by simp
      rw[er] at hrl;have g1:((U++(A1++C1'))++y::x::(C2++W)).getD (a+A1.length+C1'.length) .u=y:=q2e (by simp;omega);have g2:((U++(A1++C1'))++y::x::(C2++W)).getD (a+A1.length+C1'.length+1) .u=x:=z0k (by simp;omega);simp only[uE,uR,uZ] at hA;rw[er,qp];refine⟨by simp only[gnZ,hrl,uE,uR,uZ];(repeat' apply uG)<;>first|omega|trivial,?_⟩
      first
       |(rw[qp];refine⟨by simp only[gnZ];(repeat' apply uG)<;>first|omega|trivial,?_⟩)
       |skip
      simp only[gnZ,qc3,ej,ej0,g1,g2];rw[jg,if_pos rfl];refine⟨⟨C1',y::C2,by simp,?_⟩,?_⟩
      ·rw[z6r (by simp;omega) (by simp;omega)];simp;omega
      ·simp[D.int];omega
     ·simp only[gnZ] at hlt2;simp only[uE,uR,uZ] at hlt2;omega
  ·-- both longer
   simp only[gnZ,q6r,decide_eq_false_iff_not] at hc2;obtain⟨mid,hmid⟩:∃mid,(a+b) / 2=mid:=⟨_,rfl⟩
   have key:∀{x1 x2:X}{body:Tree}(lo hi:Nat),x1.ev (evl (qb [(qy,gCw),(qr,z6f),(qi,q3e qxl N qrc)]) [.r l,.i a,.i m,.i b])=.i lo→x2.ev (evl (qb [(qy,gCw),(qr,z6f),(qi,q3e qxl N qrc)]) [.r l,.i a,.i m,.i b])=.i hi→lo≤hi→
     (∀s r:Nat,lo≤s→s≤r→r≤hi→(s=lo∨kyD (l.getD (s - 1) .u)≤kyD (l.getD (mid+m - s) .u))→(r=hi∨kyD (l.getD (mid+m - 1 - r) .u)<kyD (l.getD r .u))→body.go (qb [(qy,gCw),(qr,z6f),(qi,q3e qxl N qrc)]) (fun o=>o=[.r (U++(j4 kyD A B++W))]) [.r l,.i a,.i m,.i b,.i s,.i r] (jg (fun _ _=>False) 33 fun st'=>(∃s r:Nat,lo≤s∧s≤r∧r≤hi∧st'=[.i s,.i r]∧(s=lo∨kyD (l.getD (s - 1) .u)≤kyD (l.getD (mid+m - s) .u))∧(r=hi∨kyD (l.getD (mid+m - 1 - r) .u)<kyD (l.getD r .u)))∧(st'.getD 1 .u).int.toNat - (st'.getD 0 .u).int.toNat<r - s))→
     (Tree.loop 33 4 [x1,x2] body).go (qb [(qy,gCw),(qr,z6f),(qi,q3e qxl N qrc)]) (fun o=>o=[.r (U++(j4 kyD A B++W))]) [.r l,.i a,.i m,.i b] fun _ _=>False:=fun lo hi hx1 hx2 hlh hb=>by
    rw[zz];refine⟨fun st=>∃s r:Nat,lo≤s∧s≤r∧r≤hi∧st=[.i s,.i r]∧(s=lo∨kyD (l.getD (s - 1) .u)≤kyD (l.getD (mid+m - s) .u))∧(r=hi∨kyD (l.getD (mid+m - 1 - r) .u)<kyD (l.getD r .u)),fun st=>(st.getD 1 .u).int.toNat - (st.getD 0 .u).int.toNat,⟨lo,hi,uQ _,hlh,uQ _,by simp only[X.evs,hx1,hx2],.inl rfl,.inl rfl⟩,?_⟩;rintro st - ⟨s,r,g1,g2,g3,rfl,g4,g5⟩;exact hb s r g1 g2 g3 g4 g5
   rw[qp];refine⟨by simp only[gnZ,fnD,half];(repeat' apply uG)<;>first|omega|trivial|exact qj0 (by omega) (by omega),?_⟩
   first
    |(rw[qp];refine⟨by simp only[gnZ,fnD,half];(repeat' apply uG)<;>first|omega|trivial|exact qj0 (by omega) (by omega),?_⟩)
    |skip
   first
    |(rw[qp];refine⟨by simp only[gnZ,fnD,half];(repeat' apply uG)<;>first|omega|trivial|exact qj0 (by omega) (by omega),?_⟩)
    |skip
   rw[zw];refine⟨fun hc3=>?ga,fun hc3=>?gb⟩
   all_goals simp only[gnZ,fnD,half,hmid] at hc3
   case' ga=>
    rw[qp];refine⟨by simp only[gnZ,fnD,half];(repeat' apply uG)<;>first|omega|trivial|exact qj0 (by omega) (by omega),?_⟩;rw[qp];refine⟨by simp only[gnZ,fnD,half];(repeat' apply uG)<;>first|omega|trivial|exact qj0 (by omega) (by omega),?_⟩;obtain⟨lo,hlo⟩:∃lo,mid+m - b=lo:=⟨_,rfl⟩;obtain⟨hi,hhi⟩:∃hi,mid=hi:=⟨_,rfl⟩;have hlh:lo≤hi∧a≤lo∧hi≤m∧hi≤mid∧mid+m≤lo+b∧(lo=a∨lo+b=mid+m)∧(hi=m∨hi=mid):=by omega
    refine key lo hi ?_ ?_ hlh.1 ?_
    ·simp only[gnZ,fnD,half,hmid];omega
    ·simp only[gnZ,fnD,half,hmid,hhi]
    clear hlo hhi key
   case' gb=>
    rw[qp];refine⟨by simp only[gnZ,fnD,half];(repeat' apply uG)<;>first|omega|trivial|exact qj0 (by omega) (by omega),?_⟩;obtain⟨lo,hlo⟩:∃lo,a=lo:=⟨_,rfl⟩;obtain⟨hi,hhi⟩:∃hi,m=hi:=⟨_,rfl⟩;have hlh:lo≤hi∧a≤lo∧hi≤m∧hi≤mid∧mid+m≤lo+b∧(lo=a∨lo+b=mid+m)∧(hi=m∨hi=mid):=by omega
    refine key lo hi ?_ ?_ hlh.1 ?_
    ·simp only[gnZ,hlo]
    ·simp only[gnZ,hhi]
    clear hlo hhi key
   all_goals
    obtain⟨-,q1,q2,q3,q4,q5,q6⟩:=hlh;intro s r g1 g2 g3 g4 g5;rw[zw];refine⟨fun hlt=>?_,fun hlt=>?_⟩
    ·simp only[gnZ] at hlt;have ep:((mid:Int)+(m:Int) - 1 - (((s+r) / 2:Nat):Int)).toNat=mid+m - 1 - (s+r) / 2:=by omega
     rw[qp];refine⟨by simp only[gnZ,fnD,half];(repeat' apply uG)<;>first|omega|trivial|exact qj0 (by omega) (by omega),?_⟩;rw[qp];refine⟨by simp only[gnZ,fnD,half,hmid,gCw,qc3,uP];(repeat' apply uG)<;>first|omega|trivial|exact qj0 (by omega) (by omega),?_⟩;rw[zw];simp only[gnZ,fnD,half,hmid,gCw,qc3,uP,ep,qfc,kS,vB,gnD,decide_eq_false_iff_not];refine⟨fun hc4=>⟨by omega,?_⟩,fun hc4=>?_⟩
     ·rw[jg,if_pos rfl];refine⟨⟨(s+r) / 2+1,r,by omega,by omega,g3,by simp,.inr ?_,g5⟩,?_⟩
      ·rw[vP,show mid+m - ((s+r) / 2+1)=mid+m - 1 - (s+r) / 2 by omega];omega
      ·simp[D.int];omega
     ·rw[jg,if_pos rfl];refine⟨⟨s,(s+r) / 2,g1,by omega,by omega,by simp,g4,.inr hc4⟩,?_⟩;simp[D.int];omega
    ·simp only[gnZ] at hlt;obtain rfl:s=r:=by omega
     rw[qp];refine⟨by simp only[gnZ,fnD,half];(repeat' apply uG)<;>first|omega|trivial|exact qj0 (by omega) (by omega),?_⟩;obtain⟨e,he⟩:∃e,mid+m - s=e:=⟨_,rfl⟩;have he1:m≤e∧e≤b∧e+s=mid+m∧a≤s∧s≤m∧mid<b∧a<mid:=by omega
     have ee:(mid:Int)+(m:Int) - (s:Int)=(e:Int):=by omega
     obtain⟨A1,A2,hA12,hA1⟩:∃A1 A2,A=A1++A2∧A1.length=s - a:=⟨A.take (s - a),A.drop (s - a),(uJ _ _).symm,by rw[uD];omega⟩;obtain⟨B1,B2,hB12,hB1⟩:∃B1 B2,B=B1++B2∧B1.length=e - m:=⟨B.take (e - m),B.drop (e - m),(uJ _ _).symm,by rw[uD];omega⟩;subst hA12 hB12;simp only[uE] at hA hB hlen;have hl1:l=U++(A1++(A2++(B1++(B2++W)))):=by rw[hlq];simp
     rw[zdx (l:=l) (U:=U) (W:=W) (s:=s) (m:=m) (e:=e) hl1 (by omega) (by omega) (by omega) sA sB
      (by
       rcases g4 with g4|g4
       ·rcases q5 with q5|q5
        ·exact .inl (uA (by omega))
        ·exact .inr (.inl (uA (by omega)))
       ·rw[he] at g4;exact .inr (.inr g4))
      (by
       rcases g5 with g5|g5
       ·rcases q6 with q6|q6
        ·exact .inl (uA (by omega))
        ·exact .inr (.inl (uA (by omega)))
       ·rw[show mid+m - 1 - s=e - 1 by omega] at g5;exact .inr (.inr g5))]
     have sA1:=q7i.left sA;have sA2:=q7i.right sA;have sB1:=q7i.left sB;have sB2:=q7i.right sB;have hml:(j4 kyD A1 B1).length=A1.length+B1.length:=qvi _ _;have hR:s<m∧m<e→z6f [.r l,.i s,.i m,.i e]=some [.r (U++(A1++(B1++(A2++(B2++W)))))]:=fun h=>by
      simp only[z6f,uP];rw[if_pos (by omega),hl1,show U++(A1++(A2++(B1++(B2++W))))=(U++A1)++(A2++(B1++(B2++W))) by simp,zg0 (by simp;omega) (by omega) (by omega)];simp
     have hRn:¬(s<m∧m<e)→l=U++(A1++(B1++(A2++(B2++W)))):=fun h=>by
      rw[hl1];by_cases hs:s<m
      ·obtain rfl:B1=[]:=uA (by omega);simp
      ·obtain rfl:A2=[]:=uA (by omega);simp
     have hM1:a<s∧s<mid→q3e qxl N qrc [.r (U++(A1++(B1++(A2++(B2++W))))),.i a,.i s,.i mid]=some [.r (U++(j4 kyD A1 B1++(A2++(B2++W))))]:=fun h=>by
      unfold q3e;rw[if_pos (by simp[qxl,D.int];omega)];exact qro (by omega) (by omega) (by omega) (by omega) (by omega) (by simp;omega) sA1 sB1
     have hM1n:¬(a<s∧s<mid)→U++(A1++(B1++(A2++(B2++W))))=U++(j4 kyD A1 B1++(A2++(B2++W))):=fun h=>by
      by_cases hs:a<s
      ·obtain rfl:B1=[]:=uA (by omega);rw[q8u];simp
      ·obtain rfl:A1=[]:=uA (by omega);rw[q62];simp
     have hM2:mid<e∧e<b→q3e qxl N qrc [.r (U++(j4 kyD A1 B1++(A2++(B2++W)))),.i mid,.i e,.i b]=some [.r (U++(j4 kyD A1 B1++j4 kyD A2 B2++W))]:=fun h=>by
      unfold q3e;rw[if_pos (by simp[qxl,D.int];omega),show U++(j4 kyD A1 B1++(A2++(B2++W)))=(U++j4 kyD A1 B1)++(A2++(B2++W)) by simp];rw[qro (by simp;omega) (by simp;omega) (by simp;omega) (by omega) (by omega) (by simp;omega) sA2 sB2];simp
     have hM2n:¬(mid<e∧e<b)→U++(j4 kyD A1 B1++(A2++(B2++W)))=U++(j4 kyD A1 B1++j4 kyD A2 B2++W):=fun h=>by
      by_cases hs:mid<e
      ·obtain rfl:B2=[]:=uA (by omega);rw[q8u];simp
      ·obtain rfl:A2=[]:=uA (by omega);rw[q62];simp
     rw[zw];refine⟨fun k0=>?_,fun k0=>?_⟩
     ·simp only[gnZ,fnD,half,hmid,ee,gnB,uI,gnD,decide_eq_false_iff_not] at k0;have R:=hR (by omega);rw[qp];refine⟨by simp only[gnZ,fnD,half,hmid,ee,R],?_⟩;rw[zw];refine⟨fun k1=>?_,fun k1=>?_⟩
      ·simp only[gnZ,fnD,half,hmid,ee,gnB,uI,gnD,decide_eq_false_iff_not] at k1;have M1:=hM1 (by omega);rw[qp];refine⟨by simp only[gnZ,fnD,half,hmid,ee,R,M1],?_⟩;rw[zw];refine⟨fun k2=>?_,fun k2=>?_⟩
       ·simp only[gnZ,fnD,half,hmid,ee,gnB,uI,gnD,decide_eq_false_iff_not] at k2;have M2:=hM2 (by omega);rw[qp];refine⟨by simp only[gnZ,fnD,half,hmid,ee,R,M1,M2],?_⟩;simp only[gnZ,fnD,half,hmid,ee,R,M1,M2]
       ·simp only[gnZ,fnD,half,hmid,ee,gnB,uI,gnD,decide_eq_false_iff_not] at k2;have M2:=hM2n (by omega);rw[M2] at M1;simp only[gnZ,fnD,half,hmid,ee,R,M1]
      ·simp only[gnZ,fnD,half,hmid,ee,gnB,uI,gnD,decide_eq_false_iff_not] at k1;have M1:=hM1n (by omega);rw[M1] at R;rw[zw];refine⟨fun k2=>?_,fun k2=>?_⟩
       ·simp only[gnZ,fnD,half,hmid,ee,gnB,uI,gnD,decide_eq_false_iff_not] at k2;have M2:=hM2 (by omega);rw[qp];refine⟨by simp only[gnZ,fnD,half,hmid,ee,R,M2],?_⟩;simp only[gnZ,fnD,half,hmid,ee,R,M2]
       ·simp only[gnZ,fnD,half,hmid,ee,gnB,uI,gnD,decide_eq_false_iff_not] at k2;have M2:=hM2n (by omega);rw[M2] at R;simp only[gnZ,fnD,half,hmid,ee,R]
     ·simp only[gnZ,fnD,half,hmid,ee,gnB,uI,gnD,decide_eq_false_iff_not] at k0;have R:=hRn (by omega);rw[R];rw[zw];refine⟨fun k1=>?_,fun k1=>?_⟩
      ·simp only[gnZ,fnD,half,hmid,ee,gnB,uI,gnD,decide_eq_false_iff_not] at k1;have M1:=hM1 (by omega);rw[qp];refine⟨by simp only[gnZ,fnD,half,hmid,ee,M1],?_⟩;rw[zw];refine⟨fun k2=>?_,fun k2=>?_⟩
       ·simp only[gnZ,fnD,half,hmid,ee,gnB,uI,gnD,decide_eq_false_iff_not] at k2;have M2:=hM2 (by omega);rw[qp];refine⟨by simp only[gnZ,fnD,half,hmid,ee,M1,M2],?_⟩;simp only[gnZ,fnD,half,hmid,ee,M1,M2]
       ·simp only[gnZ,fnD,half,hmid,ee,gnB,uI,gnD,decide_eq_false_iff_not] at k2;have M2:=hM2n (by omega);rw[M2] at M1;simp only[gnZ,fnD,half,hmid,ee,M1]
      ·simp only[gnZ,fnD,half,hmid,ee,gnB,uI,gnD,decide_eq_false_iff_not] at k1;have M1:=hM1n (by omega);rw[M1];rw[zw];refine⟨fun k2=>?_,fun k2=>?_⟩
       ·simp only[gnZ,fnD,half,hmid,ee,gnB,uI,gnD,decide_eq_false_iff_not] at k2;have M2:=hM2 (by omega);rw[qp];refine⟨by simp only[gnZ,fnD,half,hmid,ee,M2],?_⟩;simp only[gnZ,fnD,half,hmid,ee,M2]
       ·simp only[gnZ,fnD,half,hmid,ee,gnB,uI,gnD,decide_eq_false_iff_not] at k2;have M2:=hM2n (by omega);rw[M2];simp only[gnZ,fnD,half,hmid,ee]
section
section
variable{α:Type}{ky:α→Int}
theorem zku{t k:Nat}:chK ky t k ([]:List α)=[]:=uA (by rw[q3j];rfl)
theorem qgz:∀(j:Nat){T k:Nat}{l:List α},j≤T→(chK ky T k l).drop (j * k)=chK ky (T - j) k (l.drop (j * k))
 |0,T,k,l,_=>by simp
 |j+1,0,k,l,h=>by omega
 | j + 1, T + 1, k, l, h => by
  have e2:(j+1) * k=k+j * k:=by rw[kH];omega
  have e0:chK ky (T+1) k l=jb ky (l.take k)++chK ky T k (l.drop k):=rfl;by_cases hk:l.length≤k
  ·rw[uF (by rw[q3j];omega),uF (show l.length≤(j+1) * k by omega),zku]
  ·have e:(jb ky (l.take k)).length=k:=by rw[yy,uD];omega
   have e3:(chK ky (T+1) k l).drop k=chK ky T k (l.drop k):=by
    rw[e0]
    conv=>lhs;arg 1;rw[←e]
    exact kD
   rw[e2,←uW,←uW,e3,qgz j (by omega)]
   congr 1
   omega
def upS(ky:α→Int)(T k:Nat)(l:List α)(s:Nat):List α:=(chK ky s (2 * k) l).take (s * (2 * k))++(chK ky T k l).drop (s * (2 * k))
theorem zmw{T k:Nat}{l:List α}:upS ky T k l 0=chK ky T k l:=by simp[upS]
theorem zhb{T k s:Nat}{l:List α}(h:2 * s+2≤T)(hm:k<(l.drop (s * (2 * k))).length):upS ky T k l s=(chK ky s (2 * k) l).take (s * (2 * k))++(jb ky ((l.drop (s * (2 * k))).take k)++(jb ky (((l.drop (s * (2 * k))).drop k).take k)++chK ky (T - 2 * s - 2) k ((l.drop (s * (2 * k))).drop (2 * k)))):=by
 unfold upS
 congr 1
 rw[show s * (2 * k)=(2 * s) * k by rw[kW 2 s,kT],qgz (2 * s) (by omega)];rw[show T - 2 * s=(T - 2 * s - 2)+1+1 by omega];generalize l.drop (2 * s * k)=m at *;rw[chK,chK,uW,show k+k=2 * k by omega];simp
theorem z6e{k:Nat}{m:List α}:j4 ky (jb ky (m.take k)) (jb ky ((m.drop k).take k))=jb ky (m.take (2 * k)):=by
 rw[←zd8,show 2 * k=k+k by omega,List.take_add]
theorem zco{T k s:Nat}{l:List α}(h:2 * s+2≤T):(chK ky s (2 * k) l).take (s * (2 * k))++(jb ky ((l.drop (s * (2 * k))).take (2 * k))++chK ky (T - 2 * s - 2) k ((l.drop (s * (2 * k))).drop (2 * k)))=upS ky T k l (s+1):=by
 have e2:(s+1) * (2 * k)=s * (2 * k)+2 * k:=by rw[kH];omega
 have e3:(s+1) * (2 * k)=(2 * s+2) * k:=by rw[kW 2 k,←kT,kW _ 2,←kT];congr 1
 have eb:(chK ky T k l).drop ((s+1) * (2 * k))=chK ky (T - 2 * s - 2) k ((l.drop (s * (2 * k))).drop (2 * k)):=by
  rw[e3,qgz (2 * s+2) h,←e3,e2,←uW,Nat.sub_sub]
 have ea:(chK ky (s+1) (2 * k) l).take ((s+1) * (2 * k))=(chK ky s (2 * k) l).take (s * (2 * k))++jb ky ((l.drop (s * (2 * k))).take (2 * k)):=by
  rw[qjz,←uU];by_cases hl:s * (2 * k)+2 * k≤l.length
  ·exact List.take_left' (by rw[uE,uD,q3j,yy,uD,uH,e2];omega)
  ·have z:(l.drop (s * (2 * k))).drop (2 * k)=[]:=uF (by rw[uH];omega);rw[z,kN];exact uO (by rw[uE,uD,q3j,yy,uD,uH,e2];omega)
 rw[upS,ea,eb,uU]
theorem zqi{T k s:Nat}{l:List α}(h:l.length≤(s+1) * (2 * k)):upS ky T k l (s+1)=chK ky (s+1) (2 * k) l:=by
 rw[upS,uO (by rw[q3j];exact h),uF (by rw[q3j];exact h),kN]
theorem zrp{T k s:Nat}{l:List α}(hT:l.length≤T * k)(hk:0<k)(h1:s * (2 * k)≤l.length)(h:l.length≤s * (2 * k)+k):upS ky T k l s=chK ky (s+1) (2 * k) l:=by
 have e4:s * (2 * k)=(2 * s) * k:=by rw[kW 2 s,kT]
 have hs:2 * s≤T∧(2 * s<T∨l.length=s * (2 * k)):=by
  rw[e4] at h1;have h2:(2 * s) * k≤T * k:=kX h1 hT;have h3:=Nat.le_of_mul_le_mul_right h2 hk;refine⟨h3,?_⟩;rcases vO h3 with h4|h4
  ·exact .inl h4
  ·right;rw[←h4] at hT;rw[e4];exact Nat.le_antisymm hT h1
 rw[upS,qjz]
 congr 1
 conv=>lhs;rw[e4,qgz (2 * s) hs.1,←e4]
 have hml:(l.drop (s * (2 * k))).length≤k:=by rw[uH];omega
 have z1:(l.drop (s * (2 * k))).take (2 * k)=l.drop (s * (2 * k)):=uO (by omega);have z2:(l.drop (s * (2 * k))).drop (2 * k)=[]:=uF (by omega);rw[zb5 hml (hs.2.imp (fun h=>by omega) fun h=>uA (by rw[uH];omega)),z1,z2,kN]
end
theorem zbl{t:Nat}{k:Nat}{l:List D}{a b:Int}(ha:a=(t * k:Nat))(hb:b=(t * k+k:Nat)∧t * k+k≤l.length∨b=l.length∧t * k≤l.length∧l.length≤t * k+k)(hl:l.length≤1000000):zeq [.r (chK kyD t k l),.i a,.i b]=some [.r (chK kyD (t+1) k l)]:=by
 have hab:0≤a∧a≤b∧b≤l.length:=by omega
 have ea:a.toNat=t * k:=by omega
 simp only[zeq];rw[q3j,if_pos ⟨hab.1,hab.2.1,hab.2.2,hl⟩,ea,qth,qjz]
 congr 4
 rcases hb with⟨hb,h⟩|⟨hb,h,h'⟩
 ·have eb:b.toNat=t * k+k:=by omega
  rw[eb,kE,←uW,qth]
 ·have eb:b.toNat=l.length:=by omega
  have z1:(l.drop (t * k)).take (l.length - t * k)=l.drop (t * k):=uO (by rw[uH];omega);have z2:(l.drop (t * k)).take k=l.drop (t * k):=uO (by rw[uH];omega);have z3:(chK kyD t k l).drop l.length=[]:=uF (by rw[q3j];exact uQ _);have z4:(l.drop (t * k)).drop k=[]:=uF (by rw[uH];omega);rw[eb,z1,z2,z3,z4]
def zmr:List D→Option (List D)
 |[.r l,.i n]=>if n=l.length∧l.length≤1000 then some [.r (jb kyD l)] else none
 |_=>none
set_option maxHeartbeats 1000000 in
theorem zqk:FOk zg zmr:=q92 q5l zo3 zkm fun ds outs hw hg=>by
 obtain⟨d,r,rfl,hd,e,r1,rfl,he,rfl⟩:=hw;obtain⟨l,te,rfl,-,hl,-⟩:=hd.row;obtain⟨n,rfl,hn⟩:=wfI he;simp only[zmr,uM,uN] at hg;obtain⟨⟨rfl,h3⟩,rfl⟩:=hg;rw[q0w,zz];refine⟨fun st=>∃t:Nat,t * 20≤l.length∧st=[.i ((t * 20:Nat):Int),.i ((t * 20+20:Nat):Int),.r (chK kyD t 20 l)],fun st=>l.length+20 - (st.getD 1 .u).int.toNat,⟨0,by omega,rfl⟩,?_⟩;rintro st - ⟨t,ht,rfl⟩;rw[zw];refine⟨fun hlt=>?_,fun hlt=>?_⟩
 ·simp only[gnZ] at hlt;have hI:zeq [.r (chK kyD t 20 l),.i ((t * 20:Nat):Int),.i ((t * 20+20:Nat):Int)]=some [.r (chK kyD (t+1) 20 l)]:=zbl rfl (.inl ⟨rfl,by omega⟩) (by omega);rw[qp];refine⟨by simp only[gnZ,hI],?_⟩;rw[qp];refine⟨by simp only[gnZ];(repeat' apply uG)<;>first|omega|trivial,?_⟩;simp only[gnZ,hI];rw[jg,if_pos rfl];refine⟨⟨t+1,by omega,?_⟩,?_⟩
  ·simp only[kY,q6r,and_true];omega
  ·simp[D.int];omega
 ·simp only[gnZ] at hlt;have hI:zeq [.r (chK kyD t 20 l),.i ((t * 20:Nat):Int),.i l.length]=some [.r (chK kyD (t+1) 20 l)]:=zbl rfl (.inr ⟨rfl,ht,by omega⟩) (by omega);rw[qp];refine⟨by simp only[gnZ,hI],?_⟩;rw[zz];refine⟨fun st=>∃(x y:Int)(T k:Nat),0<k∧0<T∧l.length≤T * k∧st=[.i x,.i y,.i k,.r (chK kyD T k l)],fun st=>l.length - (st.getD 2 .u).int.toNat,⟨(t * 20:Nat),(t * 20+20:Nat),t+1,20,by omega,by omega,by omega,by simp only[gnZ,hI];rfl⟩,?_⟩;rintro st - ⟨x,y,T,k,hk,hT,hTk,rfl⟩;rw[zw];refine⟨fun hlt2=>?_,fun hlt2=>?_⟩
  ·simp only[gnZ] at hlt2;have hkn:k<l.length:=by omega
   rw[qp];refine⟨by simp only[gnZ];(repeat' apply uG)<;>first|omega|trivial,?_⟩;rw[zz];refine⟨fun st=>∃s:Nat,s * (2 * k)≤l.length∧st=[.i ((s * (2 * k):Nat):Int),.i ((s * (2 * k)+2 * k:Nat):Int),.r (upS kyD T k l s)],fun st=>l.length+2 * k - (st.getD 1 .u).int.toNat,⟨0,by omega,?_⟩,?_⟩
   ·simp only[gnZ,zmw];simp
   rintro st - ⟨s,hs,rfl⟩;obtain⟨p,hp⟩:∃p,s * (2 * k)=p:=⟨_,rfl⟩;have hp2:(2 * s) * k=p:=by rw[←hp,kW 2 s,kT]
   have hml:(l.drop (s * (2 * k))).length=l.length - p:=by rw[uH,hp]
   have hTs:p+k<l.length→2 * s+2≤T:=fun h=>by
    have h1:(2 * s+1) * k<T * k:=by rw[kH];omega
    have:=Nat.lt_of_mul_lt_mul_right h1;omega
   have hP:((chK kyD s (2 * k) l).take (s * (2 * k))).length=p:=by rw[uD,q3j,hp];omega
   rw[zw];refine⟨fun hlt3=>?_,fun hlt3=>?_⟩
   ·simp only[gnZ,hp] at hlt3;have h2:=hTs (by omega);have hS:qrc [.r (upS kyD T k l s),.i p,.i ((p:Int)+(k:Int)),.i ((p+2 * k:Nat):Int)]=some [.r (upS kyD T k l (s+1))]:=by
     have e:((l.drop (s * (2 * k))).take k).length=k:=by rw[uD,hml];omega
     have e':(((l.drop (s * (2 * k))).drop k).take k).length=k:=by rw[uD,uH,hml];omega
     rw[zhb h2 (by rw[hml];omega),qro (by rw[hP]) (by rw[hP,yy,e]) (by rw[hP,yy,yy,e,e'];omega) (by rw[yy,e];exact hk) (by rw[yy,e'];exact hk) (by rw[hP,yy,yy,e,e',q3j,uH,hml];omega) (qah _) (qah _),z6e,zco h2]
    rw[qp];refine⟨by simp only[gnZ,hp,hS];(repeat' apply uG)<;>first|omega|trivial,?_⟩;rw[qp];refine⟨by simp only[gnZ,hp,hS];(repeat' apply uG)<;>first|omega|trivial,?_⟩;simp only[gnZ,hp,hS];rw[jg,if_pos rfl];have e2:(s+1) * (2 * k)=p+2 * k:=by rw[kH,hp];omega
    refine⟨⟨s+1,by rw[e2];omega,?_⟩,?_⟩
    ·rw[e2];have z:((p+2 * k:Nat):Int)+2 * (k:Int)=((p+2 * k+2 * k:Nat):Int):=by omega
     rw[z]
    ·simp[D.int,hp];omega
   ·simp only[gnZ,hp] at hlt3;have e2:(s+1) * (2 * k)=p+2 * k:=by rw[kH,hp];omega
    rw[qp];refine⟨by simp only[gnZ,hp];(repeat' apply uG)<;>first|omega|trivial,?_⟩;rw[zw];refine⟨fun hlt4=>?_,fun hlt4=>?_⟩
    ·simp only[gnZ,hp] at hlt4;have h2:=hTs (by omega);have hS:qrc [.r (upS kyD T k l s),.i p,.i ((p:Int)+(k:Int)),.i l.length]=some [.r (chK kyD (s+1) (2 * k) l)]:=by
      have e:((l.drop (s * (2 * k))).take k).length=k:=by rw[uD,hml];omega
      have e':(((l.drop (s * (2 * k))).drop k).take k).length=l.length - p - k:=by rw[uD,uH,hml];omega
      rw[zhb h2 (by rw[hml];omega),qro (by rw[hP]) (by rw[hP,yy,e]) (by rw[hP,yy,yy,e,e'];omega) (by rw[yy,e];exact hk) (by rw[yy,e'];omega) (by rw[hP,yy,yy,e,e',q3j,uH,hml];omega) (qah _) (qah _),z6e,zco h2,zqi (by rw[e2];omega)]
     rw[qp];refine⟨by simp only[gnZ,hp,hS],?_⟩;rw[qp];refine⟨by simp only[gnZ,hp];(repeat' apply uG)<;>first|omega|trivial,?_⟩;simp only[gnZ,hp,hS];rw[jg,if_neg (by decide),jg,if_pos rfl];refine⟨⟨(p:Nat),(p+2 * k:Nat),s+1,2 * k,by omega,by omega,by rw[e2];omega,?_⟩,?_⟩
     ·rw[show((k:Int) * 2)=((2 * k:Nat):Int) by omega]
     ·simp[D.int];omega
    ·simp only[gnZ,hp] at hlt4;have h1:=zrp (ky:=kyD) hTk hk hs (by rw[hp];omega);rw[qp];refine⟨by simp only[gnZ,hp];(repeat' apply uG)<;>first|omega|trivial,?_⟩;simp only[gnZ,hp,h1];rw[jg,if_neg (by decide),jg,if_pos rfl];refine⟨⟨(p:Nat),(p+2 * k:Nat),s+1,2 * k,by omega,by omega,by rw[e2];omega,?_⟩,?_⟩
     ·rw[show((k:Int) * 2)=((2 * k:Nat):Int) by omega]
     ·simp[D.int];omega
  ·simp only[gnZ] at hlt2;simp only[gnZ];rw[zb5 (by omega) (.inl hT)]
def zh5:List D→Option (List D)
 |[.r l]=>if l.length≤1000 then some [.r (jb kyD l)] else none
 |_=>none
theorem zgm:FOk z6 zh5:=q82 q5l zqk fun ds outs hw hg=>by
 obtain⟨d,r,rfl,hd,rfl⟩:=hw;obtain⟨l,te,rfl,-,hl,-⟩:=hd.row;simp only[zh5,uM,uN] at hg;obtain⟨h3,rfl⟩:=hg;have hS:zmr [.r l,.i l.length]=some [.r (jb kyD l)]:=by
  simp only[zmr];rw[if_pos (by simpa using h3)]
 simp only[q0q,gnZ,hS,and_self]
end
variable{P:Program}{Q:Exit→Act→World→Prop}{ann:Ann}{R:List D→Prop}{K:Act→World→Prop}{kill:List Nat}{σ σk:St}{B:Nat→List D→Prop}
section
theorem z64{F:Fence}{n:Nat}{o:Oper}{a:Act}{next next':Act→World→Prop}{Q':Exit→Act→World→Prop}{r:Result Next}(hn:∀a w,next a w→next' a w)(hp:∀ch a w,Q (.panic ch) a w→Q' (.panic ch) a w)(ho:LetsOut Q→LetsOut Q')(h:o.uponIn F n P a next Q r):o.uponIn F n P a next' Q' r:=by
 cases r with
 | ok x w' =>
  cases x with
  |value v=>exact hn _ _ h
  |skip=>exact hn _ _ h
  |defer d=>exact hn _ _ h
  |enter f args=>
   refine⟨h.1,h.2.1,fun cs hr=>?_⟩;obtain⟨e,w2,fr,hR,rest⟩:=h.2.2 cs hr;refine⟨e,w2,fr,?_,rest⟩;cases e with
   |returned v=>exact hn _ _ hR
   |panicked ch=>exact hp _ _ _ hR
   |outgrown=>exact ho hR
  |row row args=>exact⟨h.1,h.2.mono fun v w2 hR=>hn _ _ hR⟩
  |round l f tmps assign body=>
   refine⟨h.1,h.2.mono fun e w2 hR=>?_⟩;cases e with
   |returned v=>exact hn _ _ hR
   |panicked ch=>exact hp _ _ _ hR
   |outgrown=>exact ho hR
  |_=>exact h.elim
 |halt x w'=>
  cases x with
  |panic v=>exact hp _ _ _ h
  |_=>exact h.elim
theorem qdp{F:Fence}{n:Nat}{ops:Array Oper}:∀(l m:List Oper){a:Act}{w:World},wpListIn F n P ops (Exit.then (wpListIn F n P ops Q m) Q) l a w→wpListIn F n P ops Q (l++m) a w
 |[],m,a,w,h=>h
 | o :: l, m, a, w, h => by
  show wpListIn F n P ops Q (o::(l++m)) a w
  unfold wpListIn at h⊢;split
  ·rename_i hw;rw[if_pos hw] at h;exact⟨h.1,z64 (fun a w h=>qdp l m h) (fun ch a w h=>h) (fun h=>h) h.2⟩
  ·rename_i hw;rw[if_neg hw] at h;exact⟨h.1,qdp l m h.2⟩
def qbb(F:Fence)(n:Nat)(P:Program)(Q:Exit→Act→World→Prop):List Code→(Act→World→Prop)→Act→World→Prop
 |[],K=>K
 |x::xs,K=>fun a w=>x.wpIn F n P (Exit.then (qbb F n P Q xs K) Q) a w
def seqs:List Code→Code→Code
 |[],y=>y
 |x::xs,y=>.seq x (seqs xs y)
theorem q2g{F:Fence}{n:Nat}:∀(xs:List Code){y:Code}{a:Act}{w:World},qbb F n P Q xs (fun a w=>y.wpIn F n P Q a w) a w→(seqs xs y).wpIn F n P Q a w
 |[],y,a,w,h=>h
 | x :: xs, y, a, w, h => wpIn_seq (wpIn_mono h fun e a w hq => by
   cases e with
   |normal=>exact q2g xs hq
   |_=>exact hq)
theorem qcq{F:Fence}{n:Nat}:∀(xs ys:List Code){K:Act→World→Prop}{a:Act}{w:World},qbb F n P Q (xs++ys) K a w→qbb F n P Q xs (qbb F n P Q ys K) a w
 |[],ys,K,a,w,h=>h
 | x :: xs, ys, K, a, w, h => wpIn_mono h fun e a w hq => by
   cases e with
   |normal=>exact qcq xs ys hq
   |_=>exact hq
theorem q8b{F:Fence}{n:Nat}{Q':Exit→Act→World→Prop}(hQ:∀e a w,e≠.normal→Q e a w→Q' e a w):∀(xs:List Code){K K':Act→World→Prop}(hK:∀a w,K a w→K' a w){a:Act}{w:World},qbb F n P Q xs K a w→qbb F n P Q' xs K' a w
 |[],K,K',hK,a,w,h=>hK _ _ h
 | x :: xs, K, K', hK, a, w, h => wpIn_mono h fun e a w hq => by
   cases e with
   |normal=>exact q8b hQ xs hK hq
   |exit i=>exact hQ _ _ _ (by simp) hq
   |ret=>exact hQ _ _ _ (by simp) hq
   |goto i=>exact hQ _ _ _ (by simp) hq
   |panic ch=>exact hQ _ _ _ (by simp) hq
   |outgrown=>exact hQ _ _ _ (by simp) hq
section
variable{c:Cx}{p:qg}{w w0:World}{S0:Nat→Prop}{a:Act}{σ σ':St}{d:List Deferred}{z:Nat}{tbl:Tbl}
theorem qba(ro:Option Nat)(nn:Nat)(htb:q0i tbl)(hfm:∀te,c.F.mx te≤flM tbl te)(hnp:q76 tbl=true):∀(xs:List Code){n:Nat}{σ:St}{k:Nat→ResD→St→Tree}{l:List D}{B:Nat→List D→Prop}{p:qg}{w:World}{a:Act},
  (q5p uL tbl ann c.lo z xs n σ k).go (qb tbl) R l B→l.length=n→Bs c.A c.F w0 S0 p w→SF (c.at (qb tbl) l) σ p w a→a.defers=d→a.tmps.size=z→
  (∀n' r σ' l' B' p' w' a',l'.length=n'→l'.take n=l→(k n' r σ').go (qb tbl) R l' B'→Bs c.A c.F w0 S0 p' w'→SF (c.at (qb tbl) l') σ' p' w' a'→a'.defers=d→a'.tmps.size=z→Exit.then K Q r.exit' a' w')→qbb (FR ro) nn uL Q xs K a w
 |[],n,σ,k,l,B,p,w,a,h,hl,hb,hf,hd,hz,hk=>hk n .normal σ l B p w a hl (by rw[←hl];exact vC) h hb hf hd hz
 | x :: xs, n, σ, k, l, B, p, w, a, h, hl, hb, hf, hd, hz, hk => by
  refine qdg ro nn htb hfm x h hl hb hf hd hz (q3l hnp) (qbz hnp) fun n' r σ' l' B' p' w' a' hl' hpre _ hgo hb' hf' hd' hz'=>?_;have hnn:n≤n':=by
   have:=congrArg kZ hpre;simp at this;omega
  cases r with
  |normal=>exact qba ro nn htb hfm hnp xs hgo hl' hb' hf' hd' hz' fun n2 r2 σ2 l2 B2 p2 w2 a2 h1 h2=>hk n2 r2 σ2 l2 B2 p2 w2 a2 h1 (by rw[←hpre,←h2,List.take_take,Nat.min_eq_left hnn])
  |ret=>exact hk n' .ret σ' l' B' p' w' a' hl' hpre hgo hb' hf' hd' hz'
  |exit i=>exact hk n' (.exit i) σ' l' B' p' w' a' hl' hpre hgo hb' hf' hd' hz'
def qpx(ts ms:List Item)(kill:List Nat)(σk:St):Nat→ResD→St→Tree:=fun _ r σ=>match r with
 |.normal=>(match conv ts ms (σ.drop kill) with
  |some (σc,va,vb)=>if covers σc σk then .leaf (va++vb) else .bad 1
  |none=>.need (z6h (σ.drop kill) ts ms) (.bad 2))
 |.ret=>.leaf []
 |.exit i=>.leaf [.lit (.i (jD i))]
theorem zd1{ts ms:List Item}{σc:St}{va vb:List X}{l:List D}(h:conv ts ms (σ.drop kill)=some (σc,va,vb))(hcov:covers σc σk=true)(hb:Bs c.A c.F w0 S0 p w)(hf:SF (c.at (qb tbl) l) σ p w a):
  ∃p',Bs c.A c.F w0 S0 p' w∧SF (c.at (qb tbl) l) σk p' w a∧ItT c.snap c.A p' w a ts (X.evs (evl (qb tbl) l) va)∧ItM c.A p' w ms (X.evs (evl (qb tbl) l) vb):=by
 have hf2:=SF.un (c:=c.at (qb tbl) l) (q:=qap kill σ) hb.inj hb.pa hf;have hb2:=hb.un (qap kill σ);change SF _ (σ.drop kill) _ _ _ at hf2;unfold conv at h
 split at h
 ·rename_i hrb;split at h
  ·rename_i wa wb hwa hwb;simp only[gnS] at h;obtain⟨rfl,rfl,rfl⟩:=h;obtain⟨p3,hb3,hf3⟩:=qe2 (c:=c.at (qb tbl) l) hrb hb2 hf2;exact⟨p3,hb3,q2u hcov hf3,z60 hf3 hwa,qv8 hf3 hwb⟩
  ·cases h
 ·cases h
theorem z59{ts ms:List Item}{σc:St}{va vb:List X}(h:conv ts ms σ=some (σc,va,vb)):va.length=ts.length∧vb.length=ms.length:=by
 unfold conv at h
 split at h
 ·split at h
  ·rename_i wa wb hwa hwb;simp only[gnS] at h;obtain⟨-,rfl,rfl⟩:=h;exact⟨qab hwa,qab hwb⟩
  ·cases h
 ·cases h
theorem qtf(ro:Option Nat)(nn:Nat)(htb:q0i tbl)(hfm:∀te,c.F.mx te≤flM tbl te)(hnp:q76 tbl=true)(xs:List Code){n:Nat}{ts ms:List Item}{l:List D}
  (h:(q5p uL tbl ann c.lo z xs n σ (qpx ts ms kill σk)).go (qb tbl) R l B)(hl:l.length=n)(hb:Bs c.A c.F w0 S0 p w)(hf:SF (c.at (qb tbl) l) σ p w a)(hd:a.defers=d)(hz:a.tmps.size=z)
  (hk:∀st p' w' a',R st→st.length=ts.length+ms.length→Bs c.A c.F w0 S0 p' w'→SF (c.at (qb tbl) (l++st)) (q0z ts ms n (jv ts ms kill n σk)) p' w' a'→a'.defers=d→a'.tmps.size=z→K a' w')
  (ho:∀p' w' a',R []→Bs c.A c.F w0 S0 p' w'→a'.defers=d→a'.tmps.size=z→Q .ret a' w')
  (he:∀i p' w' a',R [.i (jD i)]→Bs c.A c.F w0 S0 p' w'→a'.defers=d→a'.tmps.size=z→Q (.exit i) a' w'):qbb (FR ro) nn uL Q xs K a w:=by
 refine qba ro nn htb hfm hnp xs h hl hb hf hd hz fun n' r σ' l' B' p' w' a' hl' hpre hgo hb' hf' hd' hz'=>?_;cases r with
 |ret=>exact ho p' w' a' hgo hb' hd' hz'
 |exit i=>exact he i p' w' a' hgo hb' hd' hz'
 | normal =>
  simp only[qpx] at hgo;split at hgo
  ·rename_i σc va vb hcv;split at hgo
   ·rename_i hcov;obtain⟨p2,hb2,hf2,h1,h2⟩:=zd1 (c:=c) hcv hcov hb' hf';obtain⟨q1,q2⟩:=z59 hcv;have hR:R (X.evs (evl (qb tbl) l') (va++vb)):=hgo;rw[q8l] at hR;have hnl:n≤l'.length:=by
     have:=congrArg kZ hpre;simp at this;omega
    refine hk _ p2 w' a' hR (by simp[q6n,q1,q2]) hb2 ?_ hd' hz';refine qju (c:=c.at (qb tbl) l') (c':=c.at (qb tbl) (l++_)) rfl rfl ⟨rfl,rfl,rfl⟩ (fun k hk=>?_) (fun i hi=>?_) (qfx hf2) h1 h2
    ·show l'.getD k .u=(l++_).getD k .u
     simp only[gnG];rw[uC (by omega),←hpre,vJ hk]
    ·show(l++_).getD (n+i) .u=_
     simp only[gnG];rw[uB (by omega)]
     congr 2
     omega
   ·exact hgo.elim
  ·exact hgo.2.elim
end
end
theorem zdb{ct:Ct}{rs:List ResultVar}{n:Nat}{r:ResD}{S:Nat→List D→Option (List D)}{R':List D→Prop}{l:List D}{B':Nat→List D→Prop}(h:(qbs ct rs n r σ).go S R l B)(hR:∀o,R o→R' o):(qbs ct rs n r σ).go S R' l B':=by
 cases r with
 |exit i=>exact h.elim
 |normal=>
  simp only[qbs] at h⊢;split at h
  ·exact hR _ h
  ·exact h.elim
 |ret=>
  simp only[qbs] at h⊢;split at h
  ·exact hR _ h
  ·exact h.elim
variable{S0:Nat→Prop}
theorem Bs.fr{F F':Flr}{w0 w:World}(h:Bs A F w0 S0 p w)(h1:F'.fl=F.fl)(h2:F'.mx=F.mx)(h3:∀b,w0.heap.size≤b→F'.fr b):Bs A F' w0 S0 p w:=⟨h.inj,h.bd,h.but,h.pin,fun b hb=>⟨(h.new b hb).1,h3 b hb⟩,h.pa,h.obj,by
 intro k hk;rw[h1] at hk⊢;rw[h2];exact h.flo k hk⟩
variable{tbl:Tbl}
theorem qlh{c:Cx}{p':qg}{w' w0:World}{a':Act}{σ':St}{ts ms:List Item}{n n':Nat}{l l':List D}{B':Nat→List D→Prop}(hgo:(qpx ts ms kill σk n' .normal σ').go (qb tbl) R l' B')(hpre:l'.take n=l)(hl:l.length=n)(hb':Bs c.A c.F w0 S0 p' w')(hf':SF (c.at (qb tbl) l') σ' p' w' a'):
  ∃st p2,R st∧st.length=ts.length+ms.length∧Bs c.A c.F w0 S0 p2 w'∧SF (c.at (qb tbl) (l++st)) (q0z ts ms n (jv ts ms kill n σk)) p2 w' a':=by
 simp only[qpx] at hgo;split at hgo
 ·rename_i σc va vb hcv;split at hgo
  ·rename_i hcov;obtain⟨p2,hb2,hf2,h1,h2⟩:=zd1 (c:=c) hcv hcov hb' hf';obtain⟨q1,q2⟩:=z59 hcv;have hR:R (X.evs (evl (qb tbl) l') (va++vb)):=hgo;rw[q8l] at hR;have hnl:n≤l'.length:=by
    have:=congrArg kZ hpre;simp at this;omega
   refine⟨_,p2,hR,by simp[q6n,q1,q2],hb2,?_⟩;refine qju (c:=c.at (qb tbl) l') (c':=c.at (qb tbl) (l++_)) rfl rfl ⟨rfl,rfl,rfl⟩ (fun k hk=>?_) (fun i hi=>?_) (qfx hf2) h1 h2
   ·show l'.getD k .u=(l++_).getD k .u
    simp only[gnG];rw[uC (by omega),←hpre,vJ hk]
   ·show(l++_).getD (n+i) .u=_
    simp only[gnG];rw[uB (by omega)]
    congr 2
    omega
  ·exact hgo.elim
 ·exact hgo.2.elim
def toN(ts ms:List Item)(kill:List Nat)(σk:St):Nat→ResD→St→Tree:=fun n r σ=>match r with
 |.normal=>qpx ts ms kill σk n .normal σ
 |_=>.bad 1
theorem qa0{c:Cx}{w w0:World}{a:Act}{d:List Deferred}{z:Nat}(ro:Option Nat)(nn:Nat)(htb:q0i tbl)(hfm:∀te,c.F.mx te≤flM tbl te)(hnp:q76 tbl=true)(xs:List Code){n:Nat}{ts ms:List Item}{l:List D}
  (h:(q5p uL tbl ann c.lo z xs n σ (toN ts ms kill σk)).go (qb tbl) R l B)(hl:l.length=n)(hb:Bs c.A c.F w0 S0 p w)(hf:SF (c.at (qb tbl) l) σ p w a)(hd:a.defers=d)(hz:a.tmps.size=z)
  (hk:∀st p' w' a',R st→st.length=ts.length+ms.length→Bs c.A c.F w0 S0 p' w'→SF (c.at (qb tbl) (l++st)) (q0z ts ms n (jv ts ms kill n σk)) p' w' a'→a'.defers=d→a'.tmps.size=z→K a' w'):qbb (FR ro) nn uL Q xs K a w:=by
 refine qba ro nn htb hfm hnp xs h hl hb hf hd hz fun n' r σ' l' B' p' w' a' hl' hpre hgo hb' hf' hd' hz'=>?_;cases r with
 |ret=>exact hgo.elim
 |exit i=>exact hgo.elim
 |normal=>
  obtain⟨st,p2,hR,hst,hb2,hf2⟩:=qlh (c:=c) (n':=n') hgo hpre hl hb' hf';exact hk st p2 w' a' hR hst hb2 hf2 hd' hz'
set_option maxHeartbeats 1000000 in
theorem zde{ct:Ct}{g:List D→Option (List D)}(S:Nat→List D→Option (List D))(fn:Func)(cd:Code)(hf:uL.funcs[ct.f]? =some fn)(hb:fn.body=some cd)
  (hen:∀args w,(callFunc ct.f args).run uL w=.ok (.enter ct.f args) w)(hsz:ct.ar.length≤fn.ntmps)
  (h:∀ds outs,WfA ct.ars ds→g ds=some outs→∀(c:Cx)(p:qg)(w:World)(a:Act)(Q:Exit→Act→World→Prop),c.lo=ct.ar.length→(∀te,c.F.mx te=0)→(∀b,c.F.fr b→w.heap.size≤b)→ds.length=q6f ct.ars→Bs c.A c.F w (pinned p) p w→SF (c.at S ds) (qn1 ct) p w a→a.defers=[]→a.tmps.size=fn.ntmps→
   (∀n' r σ' l' B' p' w' a'(c2:Cx),l'.length=n'→(qbs ct fn.results.toList n' r σ').go S (fun o=>o=outs) l' B'→c2.lo=c.lo→c2.F=c.F→c2.At=c.At→(∀b,c2.A b→c.A b)→Bs c.A c.F w (pinned p) p' w'→Bs c2.A c2.F w' (pinned p') p' w'→SF (c2.at S l') σ' p' w' a'→Dfs c2.A w.heap.size [] w' a'.defers→a'.tmps.size=fn.ntmps→Q r.exit' a' w')→
   cd.wpIn (FR none) 5 uL Q a w)(hmr:(ct.all.all fun e=>zqg e.2)=true:=by rfl)(hkp:ct.kp=[]:=by rfl)(hfl:ct.fl=[]:=by rfl):FOk ct g:=by
 refine⟨hen,fun A F p w vs us ds outs hg hfl0 hfo hpre hvl hargs=>callsIn_wide.1 (callsIn_of_wp_marks (F:=FR none) (n:=5) hf hb trivial ?_),fun h=>absurd hkp h⟩;obtain⟨hwf,hdl,-⟩:=hargs.wf;rw[all_map] at hwf hdl;have hfz:=hfl0.zero hfl
 let c:Cx:=⟨evl S ds,A,⟨F.fl,F.mx,fun b=>w.heap.size≤b⟩,ct.ar.length,fun k g=>(k<ct.ar.length∨VB≤k)→p (k * 16)=some g,fun k g hk h2 h=>absurd h (by omega),fun q=>(vs++us).getD q undef⟩
 have hb0:Bs c.A c.F w (pinned p) p w:=⟨hpre.inj,hpre.bd,But.refl _ _,fun x b hx=>.inl ⟨x,hx⟩,fun b hb=>⟨(hpre.new b hb).1,hb⟩,hpre.pa,hpre.obj,hfo⟩;have hsf:SF (c.at S ds) (qn1 ct) p w {tmps:=vs.toArray++Array.replicate (fn.ntmps - vs.toArray.size) undef,defers:=[]}:=by
  refine⟨fun t x hx=>?_,qls (c:=c.at S ds) (A:=A) rfl (fun k=>rfl) hargs fun e he=>List.mem_iff_getElem?.1 he⟩;obtain⟨h1,h2⟩:=qlo (c:=c.at S ds) (A:=A) (n0:=ct.ar.length) rfl rfl rfl hargs (fun k=>rfl) _ _ t x hx;have hlt:t<vs.length:=by omega
  refine⟨(vs++us).getD t undef,?_,h2⟩
  show(vs.toArray++_)[t]? =_
  rw[Array.getElem?_append_left (by simpa using hlt),gnG,uC hlt];simp[gnK hlt]
 refine h ds outs hwf hg c p w _ _ rfl hfz (fun b hb=>hb) hdl hb0 hsf rfl (by simp;omega) fun n' r σ' l' B' p' w' a' c2 hl' hgo' hlo2 hF2 hT2 hA2 hb' hbn hf' hd' hz'=>?_;obtain⟨Ds,hds,hnd,hDs⟩:=hd';have hds:a'.defers=Ds.map qom:=by rw[hds];simp
 have hst:=qdt hbn.pa Ds w' fun D hD=>(hDs D hD).2.2;have hbF:=qlp (F:=c.F) (fun te=>hfz te) hbn.pa Ds w' hb' fun D hD=>⟨(hDs D hD).1,(hDs D hD).2.2⟩;have hfF:SF (c2.at S l') σ' p' (ji w' Ds) a':=SF.same hst hf';have hbnF:Bs c2.A c2.F (ji w' Ds) (pinned p') p' (ji w' Ds):=⟨hbF.inj,hbF.bd,But.refl _ _,fun x b hx=>.inl ⟨x,hx⟩,fun b hb=>hbn.new b (kX hst.size hb),hbn.pa,hbF.obj,by rw[hF2];exact hbF.flo.anew⟩;have fin':∀xs,fin ct fn.results.toList σ'=some xs→X.evs (evl S l') xs=outs→∃v,(results fn a'.tmps).run uL (ji w' Ds)=.ok v (ji w' Ds)∧((∃T,ct.pn=some T∧outs=[.u]∧(Ending.returned v)=.panicked (q98 T)∧But (pinned p) w (ji w' Ds))∨∃rs p2,(Ending.returned v)=.returned (qet rs)∧Bs A F w (pinned p) p2 (ji w' Ds)∧q91 A p2 (ji w' Ds) ct.rs ct.ar.length rs (outs.take ct.rs.length)∧q3k (vs++us) A p p2 (ji w' Ds) ct.all (outs.drop ct.rs.length)):=by
  intro xs hfin hout;unfold fin at hfin;simp only at hfin;split at hfin
  ·rename_i hok;simp only[gnB] at hok;split at hfin
   ·rename_i xa xb hxa hxb;injection hfin with hfin;subst hfin;have hb1:=hbnF.un (fun y=> !zu ((qcg σ' (fn.results.toList.zip ct.rs) ct.ar.length++q9h σ' ct.all).map (·.1)++(q74 ct.all++q3q σ' fn.results.toList)) y);have hf1:=SF.un (c:=c2.at S l') (q:=fun y=> !zu ((qcg σ' (fn.results.toList.zip ct.rs) ct.ar.length++q9h σ' ct.all).map (·.1)++(q74 ct.all++q3q σ' fn.results.toList)) y) hbnF.inj hbnF.pa hfF;obtain⟨p2,hb2,hf2⟩:=qe2 (c:=c2.at S l') hok.1 hb1 hf1;obtain⟨l,h1,h2,h3⟩:=qk3 hf2 (gnN hok.2) hxa;have h4:=qk4 (VV:=vs++us) (p0:=p) (n0:=ct.ar.length) hf2 hT2 (fun e he=>qs1 he) (fun i t hm=>(vT.1 hmr _ hm|>fun h=>by cases h)) hxb;have hev:X.evs (evl S l') xa++X.evs (evl S l') xb=outs:=by rw[←q8l];exact hout
    have hla:(X.evs (evl S l') xa).length=ct.rs.length:=by rw[q6n,h3]
    refine⟨_,qc9 h1,.inr ⟨l,p2,rfl,(hbF.up (show Bs c2.A c.F _ _ _ _ from hF2▸hb2) hA2).fr rfl rfl (fun b hb=>(hpre.new b hb).2),q91.chA (A:=c2.A) (fun b _ h=>hA2 b h) ?_,q3k.chA (A:=c2.A) (fun b _ h=>hA2 b h) ?_⟩⟩
    ·rw[←hev,vE (by omega),←hla,vC];exact h2
    ·rw[←hev,←hla,kD];exact h4
   ·cases hfin
  ·cases hfin
 have last:∀xs,fin ct fn.results.toList σ'=some xs→X.evs (evl S l') xs=outs→LeavesInM (FR none) 5 uL fn a'.tmps (fun e w'=>(∃T,ct.pn=some T∧outs=[.u]∧e=.panicked (q98 T)∧But (pinned p) w w')∨∃rs p',e=.returned (qet rs)∧Bs A F w (pinned p) p' w'∧q91 A p' w' ct.rs ct.ar.length rs (outs.take ct.rs.length)∧q3k (vs++us) A p p' w' ct.all (outs.drop ct.rs.length)) a'.defers .returning w':=fun xs hx ho=>by
  rw[hds];exact qmi Ds w' hnd (fun D hD=>(hDs D hD).2.1) (fin' xs hx ho)
 cases r with
 |exit i=>exact hgo'.elim
 | normal =>
  simp only[qbs] at hgo';split at hgo'
  ·rename_i xs hx;exact last xs hx hgo'
  ·exact hgo'.elim
 | ret =>
  simp only[qbs] at hgo';split at hgo'
  ·rename_i xs hx;exact last xs hx hgo'
  ·exact hgo'.elim
end Go.Proofs.YtdaadonfbnedaaaGreat
