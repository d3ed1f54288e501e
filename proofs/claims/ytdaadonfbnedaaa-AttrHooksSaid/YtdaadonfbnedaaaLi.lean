/-
 Lemmas of the walk and plain laws, put together. No condition.
-/
import Derived.Deep.AppendSrc
import Derived.StillTailTactics
import Derived.TacticsInMore
import Derived.Test.YtdaadonfbnedaaaLh
namespace Go.Proofs.Ytdaadonfbnedaaa
open Go.RowKit
set_option linter.unusedVariables false
set_option linter.unusedSimpArgs false
set_option maxRecDepth 100000
open _root_.Bool renaming not_eq_true'→uA,or_eq_true→uD,not_eq_false'→kI,and_false→kT,or_eq_false_iff→kZ,and_eq_true_iff→vA,false_and→vR,and_assoc→vS,true_and→vT,false_or→vU
open _root_.List renaming mem_cons_of_mem→uB,length_cons→uC,length_append→uE,mem_cons_self→uF,mem_cons→uG,length_map→uI,getElem?_append_left→uJ,mem_singleton→uK,mem_append→uM,length_set→uN,getElem_of_mem→uP,length_nil→uQ,mem_range→uT,all_eq_true→uV,map_cons→uW,getElem?_set_ne→uZ,mem_map→kA,length→kB,ext_getElem?→kC,not_mem_nil→kD,length_drop→kE,append_nil→kF,mem_iff_getElem→kG,range→kH,findIdx?_eq_some_iff_getElem→kJ,size_toArray→kK,map_set→kL,mapIdx_cons→kO,getElem_mem→kP,nodup_cons→kR,nil_append→kS,pairwise_iff_getElem→kV,take_append_drop→kX,getElem?_eq_none→kY,getD_cons_zero→vD,getD_cons_succ→vE,getElem?_take→vF,nodup_append→vG,getElem?_set→vH,getElem?_map→vI,append_assoc→vJ,length_take→vK,cons_append→vL,map_append→vM,take_left→vP,nodup_nil→vQ,map_nil→vV
open _root_.Int renaming toNat_natCast→uH
open _root_.Go.Proofs.Try renaming prog→uL,f8→jA
open _root_.Nat renaming le_refl→uO,zero_add→kM,le_trans→kN,mul_le_mul→kU,add_zero→kW,not_lt_zero→vN,min_eq_left→vO,zero_mul→vY
open _root_.Option.some renaming injEq→uR
open _root_.Option renaming ite_none_right_eq_some→uU
open _root_.List.cons renaming inj→uX
open Builtin renaming append_→uY,clear_→kQ
variable{S:So}{c:Ce}{nm:ByteArray}{i:Int}
section
theorem cell_of{p:Nat}(h:S.cs[p]? =some c):inS S p=true∧cellAt S p=c:=by
 have hl:=(gnH.1 h).1;refine⟨qi.2 ⟨by omega,by omega⟩,?_⟩
 show S.cs.getD ((p:Nat):Int).toNat default=c
 rw[uH,gnG,h];rfl
theorem qw6{y:Nat}{k:Int}(h:S.ys[y]? =some ⟨nm,k⟩):arS S y=k∧qf6 S y=⟨nm,k⟩:=by
 have hl:=(gnH.1 h).1;have e:S.ys.getD y default=⟨nm,k⟩:=by
  rw[gnG,h];rfl
 have e2:qf6 S y=⟨nm,k⟩:=by
  show S.ys.getD ((y:Nat):Int).toNat default=_
  rw[uH,e]
 refine⟨?_,e2⟩;unfold arS;rw[if_pos ⟨by omega,by omega⟩,uH,e]
mutual
/-- A term with terms for its variables. -/
def qi3(g:Int→Te):Te→Te
 |.mk k n s l=>if k=0 then g n else .mk k n s (qbz g l)
def qbz(g:Int→Te):List Te→List Te
 |[]=>[]
 |t::l=>qi3 g t::qbz g l
end
theorem z22(hv:vcR S c=true)(h:c.t≠0∨cellAt S c.n=c):q00 S c=c:=by
 rw[q00,if_pos hv,qcc,if_neg];rintro⟨h1,h2,h3⟩;rcases h with h|h
 ·exact h h1
 ·exact h3 h
def q7r(S:So):Nat→Nat→List Ce
 |p,0=>[]
 |p,k+1=>cellAt S p::q7r S (p+1) k
theorem qz8(S:So):∀(k p:Nat),(kH k).map (fun j:Nat=>cellAt S ((p:Nat)+(j:Nat)))=q7r S p k
 |0,p=>rfl
 |k+1,p=>by
  rw[List.range_succ_eq_map,uW,List.map_map,q7r,←qz8 S k (p+1)]
  congr 1
  refine List.map_congr_left fun j _=>?_
  show cellAt S ((p:Int)+((j+1:Nat):Int))=cellAt S (((p+1:Nat):Int)+(j:Int))
  congr 1
  omega
theorem z3p(S:So)(p k:Nat):q8j S (p:Nat) k=q7r S (p+1) k:=by
 rw[←qz8];rfl
theorem zd8{k n:Int}{s:ByteArray}{l:List Te}(h:q3q (.mk k n s l)=true):(k=1→s=⟨#[]⟩∧l=[])∧(k=2→n=0∧l=[])∧(k=3→n=0):=by
 have hc:=q2i h;rw[zb8] at h;refine⟨fun e=>?_,fun e=>?_,fun e=>?_⟩
 ·subst e;simp at h;exact⟨h.1,h.2⟩
 ·subst e;simp at h;exact⟨h.1,h.2.2⟩
 ·subst e;simp at h;exact h.1
section
variable{S:So}{f:Int→Ce}{g:Int→Te}{V:List Int}
mutual
theorem z2u(hg:∀v∈V,∀(m:Nat)(l:Int),szT (g v)≤m→(szT (g v):Int)≤l→q6f S m (f v) l=(g v,l - szT (g v))):∀(t:Te)(c:Ce),inV V t→z6 t=true→Rh S f t c→∀(m:Nat)(l:Int),szT (qi3 g t)≤m→(szT (qi3 g t):Int)≤l→q6f S m c l=(qi3 g t,l - szT (qi3 g t))
 | .mk k n nm l, c, hi, hn, hr, m, a, hm, ha => by
  rw[qmd] at hi;rw[z6,gnB] at hn;obtain⟨f1,f2,f3⟩:=zd8 hn.1;rw[Rh] at hr;rcases hr with⟨rfl,rfl⟩|⟨rfl,rfl⟩|⟨rfl,ht,y,hy,hs⟩|⟨rfl,ht,p,y,hp,hc,hs,hl⟩
  ·rw[qi3,if_pos rfl] at hm ha⊢;exact hg n (hi.1 rfl) m a hm ha
  ·obtain⟨rfl,rfl⟩:=f1 rfl;rw[qi3,if_neg (by decide),qbz] at hm ha⊢;simp only[szT,q04] at hm ha⊢;obtain⟨m,rfl⟩:∃m',m=m'+1:=⟨m - 1,by omega⟩;have hd:q00 S ⟨1,n⟩=⟨1,n⟩:=z22 rfl (.inl (fun h=>absurd h (by decide:¬(1:Int)=0)));rw[q6f,if_neg (by omega),hd];rfl
  ·obtain⟨rfl,rfl⟩:=f2 rfl;obtain⟨q1,q2⟩:=qw6 hs;rw[qi3,if_neg (by decide),qbz] at hm ha⊢;simp only[szT,q04] at hm ha⊢;obtain⟨m,rfl⟩:∃m',m=m'+1:=⟨m - 1,by omega⟩;have hv:vcR S c=true:=by
    unfold vcR;rw[if_neg (by omega),if_neg (by omega),if_pos ht,hy,q1];rfl
   have hd:q00 S c=c:=z22 hv (.inl (by omega));rw[q6f,if_neg (by omega),hd,if_neg (by omega),if_pos ht,hy,q2];rfl
  ·have hn0:=f3 rfl;subst hn0;obtain⟨q1,q2⟩:=qw6 hs;obtain⟨q3,q4⟩:=cell_of hc;rw[qi3,if_neg (by decide)] at hm ha⊢;simp only[szT] at hm ha⊢;obtain⟨m,rfl⟩:∃m',m=m'+1:=⟨m - 1,by omega⟩;have hv:vcR S c=true:=by
    unfold vcR;rw[if_neg (by omega),if_neg (by omega),if_neg (by omega),if_pos ht,hp,zw q3,q4];rfl
   have hd:q00 S c=c:=z22 hv (.inl (by omega));have ih:=z53 hg l (p+1) hi.2 hn.2 hl m (a - 1) (by omega) (by omega);rw[q6f,if_neg (by omega),hd,if_neg (by omega),if_neg (by omega),if_pos ht,hp,q4];simp only[q1,q2,z3p,uH,ih]
   congr 1
   omega
theorem z53(hg:∀v∈V,∀(m:Nat)(l:Int),szT (g v)≤m→(szT (g v):Int)≤l→q6f S m (f v) l=(g v,l - szT (g v))):∀(l:List Te)(p:Nat),qi7 V l→j7 l=true→Rhs S f l p→∀(m:Nat)(a:Int),q04 (qbz g l)≤m→(q04 (qbz g l):Int)≤a→qif (q6f S m) (q7r S p l.length) a=(qbz g l,a - q04 (qbz g l))
 |[],p,_,_,_,m,a,_,_=>by
  simp only[uQ,q7r,qif,qbz,q04]
  congr 1
  omega
 |t::l,p,hi,hn,hr,m,a,hm,ha=>by
  rw[qi7] at hi;rw[j7,gnB] at hn;rw[Rhs] at hr;obtain⟨⟨c,hc,hrt⟩,hrl⟩:=hr;obtain⟨q3,q4⟩:=cell_of hc;rw[qbz] at hm ha⊢;rw[q04] at hm ha⊢;have h1:=z9p (qi3 g t);have ih:=z2u hg t c hi.1 hn.1 hrt m a (by omega) (by omega);have ih2:=z53 hg l (p+1) hi.2 hn.2 hrl m (a - szT (qi3 g t)) (by omega) (by omega);rw[uC,q7r,q4,qif,if_neg (by omega),ih];simp only[ih2]
  congr 1
  omega
end
end
structure Ext(s S:So):Prop where
 cs:∀i:Nat,i<s.cs.length→S.cs[i]? =s.cs[i]?
 len:s.cs.length≤S.cs.length
 ys:∀(i:Nat)y,s.ys[i]? =some y→S.ys[i]? =some y
section
variable{s S:So}
theorem Ext.inS(E:Ext s S)(h:inS s i=true):inS S i=true∧cellAt S i=cellAt s i:=by
 have q:=qi.1 h;have hl:=E.len;refine⟨qi.2 ⟨q.1,by omega⟩,?_⟩;unfold cellAt;rw[gnG,gnG,E.cs _ (by omega)]
theorem Ext.tag(E:Ext s S)(h:i<s.cs.length):q0d S i=q0d s i:=by
 cases hi:Go.Proofs.Ytdaadonfbnedaaa.inS s i with
 |true=>rw[zw hi,zw (E.inS hi).1,(E.inS hi).2]
 | false =>
  rw[q4i hi,q4i];cases h2:Go.Proofs.Ytdaadonfbnedaaa.inS S i with
  |false=>rfl
  |true=>
   have q:=qi.1 h2;rw[qi.2 ⟨q.1,h⟩] at hi;cases hi
theorem Ext.ar(E:Ext s S){n:Int}(h:0≤arS s n):arS S n=arS s n∧qf6 S n=qf6 s n:=by
 obtain⟨h0,h1,h2⟩:=qji h;have hy:s.ys[n.toNat]? =some (qf6 s n):=by
  unfold qf6;rw[gnG,gnK (by omega)];rfl
 have hY:=E.ys _ _ hy;have hn:n=((n.toNat:Nat):Int):=by omega
 generalize hz:qf6 s n=z at hY hy;obtain⟨nm,k⟩:=z;have a1:=qw6 hy;have a2:=qw6 hY;rw[←hn] at a1 a2;exact⟨a2.1.trans a1.1.symm,a2.2⟩
theorem Ext.vc(E:Ext s S)(h:vcR s c=true):vcR S c=true:=by
 rcases z0w h with ht|ht|ht|ht|ht
 ·obtain⟨h1,h2⟩:=qfk h ht;obtain⟨h3,h4⟩:=E.inS h1;unfold vcR;rw[if_pos ht,zw h3,h3,h4];simp[h2]
 ·unfold vcR;rw[if_neg (by omega),if_pos ht]
 ·unfold vcR at h⊢;rw[if_neg (by omega),if_neg (by omega),if_pos ht] at h⊢;have h:=of_decide_eq_true h;rw[(E.ar (by omega)).1,h];rfl
 ·unfold vcR at h⊢;rw[if_neg (by omega),if_neg (by omega),if_neg (by omega),if_pos ht] at h⊢;have h:=of_decide_eq_true h;rw[E.tag (qi.1 (q8q (by decide) h)).2,h];rfl
 ·unfold vcR at h⊢;rw[if_neg (by omega),if_neg (by omega),if_neg (by omega),if_neg (by omega),if_pos ht] at h⊢;have h:=of_decide_eq_true h;rw[E.tag (qi.1 (q8q (by decide) h)).2,h];rfl
theorem Ext.ends(E:Ext s S)(h:qr s=true):∀(k:Nat)(n:Int),Go.Proofs.Ytdaadonfbnedaaa.inS s n=true→q2n s k n=true→q2n S k n=true
 |0,n,_,h1=>by cases h1
 | k + 1, n, hi, h1 => by
  have hT:=E.tag (qi.1 hi).2;have hC:=(E.inS hi).2;by_cases hn:Ns s n
  ·have hn':Ns S n:=⟨hT.trans hn.1,by rw[hC];exact hn.2⟩;rw[q0w hn] at h1;rw[q0w hn',nx,hC];exact Ext.ends E h k _ (zaz h hn) h1
  ·exact q3r fun q=>hn ⟨hT.symm.trans q.1,by have:=q.2;rwa [hC] at this⟩
end
end
variable{ys:List Sy}
section
theorem qzz:q7n ys=true↔ys.length≤1048576∧ys.Nodup∧∀y∈ys,okY y=true:=by
 unfold q7n;rw[gnB,gnD,uV];refine and_congr Iff.rfl ?_;constructor
 ·intro h;have h':∀k,k<ys.length→qda ys k=true:=fun k hk=>h k (uT.2 hk);refine⟨kV.2 fun i j hi hj hij e=>?_,fun y hy=>?_⟩
  ·have:=h' j hj;simp only[qda,gnB,uA,decide_eq_false_iff_not] at this;refine this.2 ?_;rw[show ys.getD j default=ys[i] by rw[e];simp[gnG,hj]];exact kG.2 ⟨i,by simp;omega,by simp⟩
  ·obtain⟨k,hk,rfl⟩:=kG.1 hy;have:=h' k hk;simp only[qda,gnB] at this;simpa[gnG,hk] using this.1
 ·rintro⟨hn,ho⟩k hk;have hk:=uT.1 hk;simp only[qda,gnB,uA,decide_eq_false_iff_not];have e:ys.getD k default=ys[k]:=by simp[gnG,hk]
  rw[e];refine⟨ho _ (kP hk),fun hm=>?_⟩;obtain⟨i,hi,he⟩:=kG.1 hm;have hi2:i<k:=by simp at hi;omega
  rw[List.getElem_take] at he;exact kV.1 hn i k (by omega) hk hi2 he
def zdv(ys:List Sy):Prop:=ys.Nodup∧∀y∈ys,okY y=true
theorem za2{y:Sy}(h:zdv ys)(hy:okY y=true):zdv (qd8 ys y):=by
 unfold qd8;split
 ·exact h
 ·rename_i hm;refine⟨vG.2 ⟨h.1,by simp,fun a ha b hb e=>?_⟩,fun z hz=>?_⟩
  ·rw[uK.1 hb] at e;exact hm (e▸ha)
  ·rcases uM.1 hz with hz|hz
   ·exact h.2 z hz
   ·rw[uK.1 hz];exact hy
mutual
theorem z5m:∀(t:Te)(ys:List Sy),z6 t=true→zdv ys→zdv (q38 ys t)
 | .mk k n nm l, ys, hn, h => by
  rw[z6,gnB] at hn;rw[q38];refine qzj l _ hn.2 ?_;rcases q2i hn.1 with⟨rfl,rfl,h1,h2⟩|⟨rfl,rfl⟩|⟨rfl,rfl,h1⟩|⟨rfl,h1,h2,h3⟩
  ·exact h
  ·exact h
  ·refine za2 h ?_;simp[okY];omega
  ·refine za2 h ?_;simp[okY];omega
theorem qzj:∀(l:List Te)(ys:List Sy),j7 l=true→zdv ys→zdv (q15 ys l)
 |[],ys,_,h=>by rw[q15];exact h
 |t::l,ys,hn,h=>by
  rw[j7,gnB] at hn;rw[q15];exact qzj l _ hn.2 (z5m t ys hn.1 h)
end
structure Vgood(S:So)(c:Ce):Prop where
 vc:vcR S c=true
 no5:c.t≠5
 ends:c.t=0→q2n S S.cs.length c.n=true
section
variable{s S:So}{f:Int→Ce}{V:List Int}
theorem z1x(hf:∀v∈V,Vgood S (f v)){t:Te}(hi:inV V t)(hn:z6 t=true)(h:Rh S f t c):Vgood S c:=by
 obtain⟨k,n,nm,l⟩:=t;rw[qmd] at hi;rw[Rh] at h;rcases h with⟨rfl,rfl⟩|⟨rfl,rfl⟩|⟨rfl,ht,y,hy,hs⟩|⟨rfl,ht,p,y,hp,hc,hs,hl⟩
 ·exact hf n (hi.1 rfl)
 ·exact⟨rfl,fun h=>absurd h (by decide:¬(1:Int)=5),fun h=>absurd h (by decide:¬(1:Int)=0)⟩
 ·obtain⟨q1,q2⟩:=qw6 hs;refine⟨?_,by omega,fun h=>by omega⟩;unfold vcR;rw[if_neg (by omega),if_neg (by omega),if_pos ht,hy,q1];rfl
 ·obtain⟨q3,q4⟩:=cell_of hc;refine⟨?_,by omega,fun h=>by omega⟩;unfold vcR;rw[if_neg (by omega),if_neg (by omega),if_neg (by omega),if_pos ht,hp,zw q3,q4];rfl
theorem Vgood.no4(h:Vgood S c):c.t≠4:=fun e=>by
 rcases z0w h.vc with q|q|q|q|q<;>omega
theorem qz2(E:Ext s S)(hs:S.ser=s.ser)(h:q2q s i=true):q2q S i=true:=by
 simp only[q2q,gnB,gnD,uA,decide_eq_false_iff_not] at h⊢;obtain⟨h1,h2,h3,h4,h5,h6⟩:=h;have i1:=q8q (by decide) h1;have i2:=zj1 h4;rw[E.tag (qi.1 i1).2,E.tag (qi.1 i2).2,(E.inS i1).2,hs];exact⟨h1,h2,h3,h4,h5,h6⟩
theorem qms(E:Ext s S)(h:qr s=true)(hs:S.ser=s.ser)(hi:inS s i=true):q34 S i=true:=by
 have hc:=q8o h hi;have he:=qgm h hi;have hl:=E.len;unfold q34 at hc⊢;rw[(E.inS hi).2];split at hc
 ·rename_i ht;rw[if_pos ht];simp only[gnB,gnD,uV,uT,uA,decide_eq_false_iff_not] at hc⊢;obtain⟨h1,h2,h3⟩:=hc;rw[(E.ar (by omega)).1];have q:=qi.1 h2;refine⟨h1,(E.inS h2).1,fun j hj=>?_⟩;rw[E.tag (by omega)];exact h3 j hj
 ·rename_i ht;rw[if_neg ht];simp only[gnB,uD,gnD] at hc⊢;obtain⟨h1,h2,h3⟩:=hc;refine⟨E.vc h1,?_,h3.imp id fun q=>⟨q.1,qz2 E hs q.2⟩⟩;exact qfo (by omega) (E.ends h _ _ hi he)
theorem z1b(E:Ext s S)(hs:S.ser=s.ser){u:Un}(h:ql8 s u=true):ql8 S u=true:=by
 simp only[ql8,z5b,gnB] at h⊢;obtain⟨h1,h2⟩:=h;have q:=qi.1 h1;refine⟨(E.inS h1).1,?_⟩;split at h2
 ·rename_i h3;rw[if_pos h3];exact h2
 rename_i h3;rw[if_neg h3];split at h2
 ·rename_i h4;rw[if_pos h4];simp only[gnB] at h2⊢;refine⟨h2.1,qz2 E hs h2.2.1,?_⟩;rw[E.tag (by omega)];exact h2.2.2
 rename_i h4;rw[if_neg h4];split at h2
 ·rename_i h5;rw[if_pos h5];exact E.vc h2
 ·cases h2
theorem qrz(E:Ext s S)(hs:S.ser=s.ser){w:Wk}(h:wkB vcR s w=true):wkB vcR S w=true:=by
 simp only[wkB,gnB] at h⊢;rw[hs];exact⟨h.1,h.2.1,E.vc h.2.2.1,E.vc h.2.2.2⟩
theorem zcw(hf:∀v∈V,Vgood S (f v)){i:Nat}(h:z3i S f (fun t=>z6 t=true∧inV V t) i):q34 S i=true:=by
 have e1:∀k:Nat,(k:Int).toNat=k:=fun k=>uH k;rcases h with⟨y,k,nm,hc,hy,h1,h2,hj⟩|⟨t,c,⟨hn,hi⟩,hc,hr⟩
 ·obtain⟨q1,q2⟩:=cell_of hc;obtain⟨q3,q4⟩:=qw6 hy;unfold q34;rw[q2,if_pos rfl];simp only[q3,e1,gnB,gnD,uV,uT,uA,decide_eq_false_iff_not];refine⟨by omega,?_,fun j hjk=>?_⟩
  ·obtain⟨t,c,-,g1,-⟩:=hj k h1 (uO _);exact(cell_of g1).1
  ·obtain⟨t,c,⟨g0,g00⟩,g1,g2⟩:=hj (j+1) (by omega) (by omega);obtain⟨g3,g4⟩:=cell_of g1;have e:((i:Int)+((j:Int)+1))=((i+(j+1):Nat):Int):=by omega
   rw[e,zw g3,g4];exact(z1x hf g00 g0 g2).no4
 ·obtain⟨q1,q2⟩:=cell_of hc;have hg:=z1x hf hi hn hr;unfold q34;rw[q2,if_neg hg.no4,hg.vc];simp only[vT,gnB,uD];refine⟨?_,.inl (by simp[hg.no5])⟩;unfold qcy;by_cases hN:Ns S i
  ·rw[q0w hN,nx,q2];refine hg.ends ?_;have:=hN.1;rwa [zw q1,q2] at this
  ·exact q3r hN
theorem zek(h:qr s=true)(E:Ext s S)(hm:S.mx=s.mx)(ht:S.tr=s.tr)(hw:S.wk=s.wk)(hs:S.ser=s.ser)(hc:(S.cs.length:Int)≤S.mx)(hy:q7n S.ys=true)(hf:∀v∈V,Vgood S (f v))(hn:∀i,s.cs.length≤i→i<S.cs.length→z3i S f (fun t=>z6 t=true∧inV V t) i):qr S=true:=by
 have hh:=qho h;have h0:=h;simp only[qr,q5b,gnB,gnD] at h hh⊢;obtain⟨-,h2,h3,h4⟩:=h;rw[hm,hs,ht,hw];refine⟨⟨hh.1,hh.2.1,by rw[←hm];exact hc,hh.2.2.2.1,hy⟩,q3k fun i hi=>?_,q3k fun i hi=>z1b E hs (q9i h3 hi),q3k fun i hi=>qrz E hs (q9i h4 hi)⟩;rcases Nat.lt_or_ge i s.cs.length with h5|h5
 ·exact qms E h0 hs (qi.2 ⟨by omega,by omega⟩)
 ·exact zcw hf (hn i h5 hi)
end
end
def Fr(all:List Vc)(n:Nat)(H:Nat→Prop):Prop:=∀v c,ofV all v=some c→∃p:Nat,c=⟨0,p⟩∧p<n∧¬H p
def Inj(all:List Vc):Prop:=∀v w c,ofV all v=some c→ofV all w=some c→v=w
theorem Inj.ins{all:List Vc}{n:Int}(h:Inj all)(ho:ofV all n=none)(hc:∀v,ofV all v≠some c):Inj (qc9 all n c):=fun v w d hv hw=>by
 rw[q7c ho] at hv hw;split at hv<;>split at hw
 ·rename_i h1 h2;exact h1.trans h2.symm
 ·cases hv;exact absurd hw (hc w)
 ·cases hw;exact absurd hv (hc v)
 ·exact h v w d hv hw
mutual
theorem z3z:∀(t:Te)(q:Sv)(a:Int)(H:Nat→Prop),z6 t=true→SV q.2→Fr q.2 q.1.cs.length H→(0≤a→H a.toNat)→(∀p,H p→p<q.1.cs.length)→Inj q.2→Inj (zm q t a).2.2∧Fr (zm q t a).2.2 (zm q t a).2.1.cs.length (fun p=>H p∧(p:Int)≠a)
 | .mk k n nm l, q, a, H, hn, hs, hf, ha, hH, hi => by
  have hm:=qag (a:=a) hn hs;rw[z6,gnB] at hn;rcases q2i hn.1 with⟨rfl,rfl,h1,h2⟩|⟨rfl,rfl⟩|⟨rfl,rfl,h1⟩|⟨rfl,h1,h2,h3⟩
  ·rw[qgt] at hm⊢;cases ho:ofV q.2 n with
   |some c=>
    simp only[ho] at hm⊢;exact⟨hi,fun v c hv=>(hf v c hv).imp fun p⟨e1,e2,e3⟩=>⟨e1,e2,fun q=>e3 q.1⟩⟩
   | none =>
    by_cases h0:a<0
    ·simp only[ho,if_pos h0] at hm⊢;refine⟨hi.ins ho fun v hv=>?_,fun v c hv=>?_⟩
     ·obtain⟨p,e1,e2,-⟩:=hf v _ hv;have:=congrArg Ce.n e1;simp only at this;omega
     ·rw[q7c ho] at hv;split at hv
      ·cases hv;exact⟨_,rfl,by simp,fun h=>absurd (hH _ h.1) (Nat.lt_irrefl _)⟩
      ·obtain⟨p,e1,e2,e3⟩:=hf v c hv;exact⟨p,e1,by omega,fun q=>e3 q.1⟩
    ·simp only[ho,if_neg h0] at hm⊢;have e:(a.toNat:Int)=a:=Int.toNat_of_nonneg (by omega);have haH:=ha (by omega);refine⟨hi.ins ho fun v hv=>?_,fun v c hv=>?_⟩
     ·obtain⟨p,e1,e2,e3⟩:=hf v _ hv;have:=congrArg Ce.n e1;simp only at this;have:p=a.toNat:=by omega
      subst this;exact e3 haH
     ·rw[q7c ho] at hv;split at hv
      ·cases hv;exact⟨a.toNat,by rw[e],hH _ haH,fun h=>h.2 e⟩
      ·obtain⟨p,e1,e2,e3⟩:=hf v c hv;exact⟨p,e1,by omega,fun q=>e3 q.1⟩
  ·rw[qfp];exact⟨hi,fun v c hv=>(hf v c hv).imp fun p⟨e1,e2,e3⟩=>⟨e1,e2,fun q=>e3 q.1⟩⟩
  ·rw[qfn] at hm⊢;exact⟨hi,fun v c hv=>(hf v c hv).imp fun p⟨e1,e2,e3⟩=>⟨e1,by have hm:=hm;simp only at hm⊢;omega,fun q=>e3 q.1⟩⟩
  ·rw[qgo] at hm⊢;have hg:=qlk q.1 (q0p q.1 nm (l.length:Nat)).1 l.length;have ih:=qyv l ({(q0p q.1 nm (l.length:Nat)).2 with cs:=grow q.1 (q0p q.1 nm (l.length:Nat)).1 l.length},q.2) (q.1.cs.length+1) (fun p=>H p∨q.1.cs.length+1≤p∧p<q.1.cs.length+1+l.length) hn.2 hs (fun v c hv=>by
    obtain⟨p,e1,e2,e3⟩:=hf v c hv;refine⟨p,e1,?_,?_⟩
    ·show p<(grow _ _ _).length
     omega
    ·rintro(h|h)
     ·exact e3 h
     ·omega) (fun p hp=>by
    show p<(grow _ _ _).length
    rcases hp with h|h
    ·have:=hH p h;omega
    ·omega) (fun i g1 g2=>.inr ⟨g1,g2⟩) hi
   obtain⟨i1,i2⟩:=ih;refine⟨i1,fun v c hv=>?_⟩;obtain⟨p,e1,e2,e3⟩:=i2 v c hv;refine⟨p,e1,e2,fun h=>e3 ⟨.inl h.1,fun r=>?_⟩⟩;have:=hH p h.1;omega
theorem qyv:∀(l:List Te)(q:Sv)(to:Nat)(H:Nat→Prop),j7 l=true→SV q.2→Fr q.2 q.1.cs.length H→(∀p,H p→p<q.1.cs.length)→(∀i,to≤i→i<to+l.length→H i)→Inj q.2→Inj (ju q l to).2∧Fr (ju q l to).2 (ju q l to).1.cs.length (fun p=>H p∧¬(to≤p∧p<to+l.length))
 |[],q,to,H,_,_,hf,_,_,hi=>by
  rw[ju];exact⟨hi,fun v c hv=>(hf v c hv).imp fun p⟨e1,e2,e3⟩=>⟨e1,e2,fun q=>e3 q.1⟩⟩
 | t :: l, q, to, H, hn, hs, hf, hH, hr, hi => by
  rw[j7,gnB] at hn;rw[uC] at hr;rw[ju];have h4:=(q45 t q (to:Nat) hn.1 hs).2.2.2;have hm:=qag (a:=(to:Nat)) hn.1 hs;obtain⟨i1,i2⟩:=z3z t q (to:Nat) H hn.1 hs hf (fun _=>by rw[uH];exact hr to (uO _) (by omega)) hH hi;have hL:=q8w (zm q t (to:Nat)).2.1 to (zm q t (to:Nat)).1;obtain⟨j1,j2⟩:=qyv l (qdw (zm q t (to:Nat)).2.1 to (zm q t (to:Nat)).1,(zm q t (to:Nat)).2.2) (to+1) (fun p=>H p∧(p:Int)≠(to:Nat)) hn.2 h4 (by rw[hL];exact i2) (fun p hp=>by
   rw[hL];have:=hH p hp.1;omega) (fun i g1 g2=>⟨hr i (by omega) (by omega),by omega⟩) i1
  refine⟨j1,fun v c hv=>?_⟩;obtain⟨p,e1,e2,e3⟩:=j2 v c hv;refine⟨p,e1,e2,fun h=>e3 ⟨⟨h.1,fun r=>?_⟩,fun r=>?_⟩⟩
  ·have h2:=h.2;rw[uC] at h2;omega
  ·have h2:=h.2;rw[uC] at h2;omega
end
theorem zf7{l:List Vc}(h:SV l){x:Vc}(hx:x∈l):ofV l x.v=some x.c:=by
 have h1:=h.1;clear h
 induction l with
 |nil=>cases hx
 | cons y l ih =>
  rw[List.pairwise_cons] at h1;rw[ofV];rcases uG.1 hx with rfl|hx
  ·rw[if_pos rfl]
  ·have:=h1.1 x hx;rw[if_neg (by omega)];exact ih hx h1.2
def fOf(all:List Vc)(v:Int):Ce:=jl ((ofV all v).getD default)
theorem qdc{all:List Vc}{v:Int}(h:ofV all v=some c):fOf all v=jl c:=by rw[fOf,h];rfl
structure PutOk(s:So)(t:Te)(l:List Vc)(c:Ce)(all:List Vc)(S:So):Prop where
 ext:Ext s S
 rst:Rst s S
 valid:qr S=true
 rep:Rh S (fOf all) t c
 sv:SV all
 of:∀v d,ofV l v=some d→ofV all v=some d
 new:∀v d,ofV all v=some d→ofV l v=some d∨∃p:Nat,d=⟨0,p⟩∧S.cs[p]? =some d
 vc:vcR S c=true
 vv:vvP S all=true
 len:S.cs.length=s.cs.length+q6g t l
 ys:∃m,S.ys=s.ys++m
 vars:∀v,v∈q78 (l.map Vc.v) t↔(ofV all v).isSome=true
 varsG:∀vs:List Int,(∀v,v∈vs↔(ofV l v).isSome=true)→(∀v,v∈q78 vs t↔(ofV all v).isSome=true)∧all.length+vs.length=l.length+(q78 vs t).length
 cnt:all.length=(q78 (l.map Vc.v) t).length
 inj:∀H:Inj l,(∀v d,ofV l v=some d→∃p:Nat,d=⟨0,p⟩∧p<s.cs.length)→Inj all∧∀v d,ofV all v=some d→∃p:Nat,d=⟨0,p⟩∧p<S.cs.length
theorem mem_of{l:List Vc}(v:Int):v∈l.map Vc.v↔(ofV l v).isSome=true:=by
 induction l with
 |nil=>simp[ofV]
 | cons x l ih =>
  rw[uW,uG,ih,ofV];by_cases h:x.v=v
  ·simp[h]
  ·have h':¬v=x.v:=fun e=>h e.symm;simp[h,h']
theorem zcl{s:So}(h:qr s=true)(E:Ext s S)(hl:0<S.cs.length)(hc:vcR s c=true):Vgood S (jl c):=by
 have hL:=E.len;unfold jl;split
 ·rename_i h5;have ht:q0d s c.n=5:=by
   unfold vcR at hc;rw[if_neg (by omega),if_neg (by omega),if_neg (by omega),if_neg (by omega),if_pos h5] at hc;exact of_decide_eq_true hc
  have hi:=q8q (by decide) ht;have hT:=E.tag (qi.1 hi).2;have hI:=(E.inS hi).1;refine⟨?_,fun h=>absurd h (by decide:¬(0:Int)=5),fun _=>?_⟩
  ·unfold vcR;rw[if_pos rfl];simp only[hI,hT,ht];rfl
  ·obtain⟨k,hk⟩:∃k,S.cs.length=k+1:=⟨S.cs.length - 1,by omega⟩;rw[hk];exact q3r fun q=>by have:=q.1;simp only[hT,ht] at this;omega
 ·rename_i h5;refine⟨E.vc hc,h5,fun h0=>?_⟩;have:=(qfk hc h0).1;exact qfo hL (E.ends h _ _ this (qgm h this))
theorem qzn{p:Nat}(h:S.cs[p]? =some ⟨0,p⟩):Vgood S ⟨0,p⟩:=by
 obtain⟨h1,h2⟩:=cell_of h;have hl:=(gnH.1 h).1;refine⟨?_,fun h=>absurd h (by decide:¬(0:Int)=5),fun _=>?_⟩
 ·unfold vcR;rw[if_pos rfl];simp only[h1,zw h1,h2];rfl
 ·obtain⟨k,hk⟩:∃k,S.cs.length=k+1:=⟨S.cs.length - 1,by omega⟩;rw[hk];refine q3r fun q=>q.2 ?_
  show(cellAt S (p:Nat)).n=_
  rw[h2]
theorem zev{s:So}{t:Te}{l:List Vc}(hs:qr s=true)(ht:yj t=true)(hl:vvP s l=true)(hr:qov s t l=true):PutOk s t l (zm (s,l) t (-1)).1 (zm (s,l) t (-1)).2.2 (zm (s,l) t (-1)).2.1:=by
 have hA:=z55 hs ht hl hr;simp only[qix,gnB,gnD] at hA;obtain⟨hn,hsv,-,-,hys,-⟩:=hA;have hcs:(s.cs.length:Int)+((q6g t l:Nat):Int)≤s.mx:=by
  simp only[qov,gnB,gnD] at hr;omega
 obtain⟨g1,g2,⟨r1,r2,r3,r4⟩,g4⟩:=q45 t (s,l) (-1) hn hsv;have hk:=fun i h=>qyr t (s,l) (-1) i hn hsv h;have hof:=z0q t (s,l) (-1) hn;obtain⟨v1,v2⟩:=qob t (s,l) (-1) (l.map Vc.v) hn (fun v=>mem_of v);have hvg:=fun vs h=>qob t (s,l) (-1) vs hn h;have hnew:=z70 (S:=(zm (s,l) t (-1)).2.1) t (s,l) (-1) hn hsv (fun i _ _=>rfl) (fun h=>absurd h (by decide));have hinj:=fun H h1 h2 h3 h4=>z3z t (s,l) (-1) H hn hsv h1 h2 h3 h4;have hm:=qag (a:= -1) (q:=(s,l)) hn hsv;rw[if_pos (by decide)] at g1;obtain⟨hd1,hd2,hd3,hd4⟩:=qyo hs;obtain⟨m,hpre⟩:=qzf t s.ys;have hrep:=qvu (S:=(zm (s,l) t (-1)).2.1) (f:=fOf (zm (s,l) t (-1)).2.2) (P:=fun u=>z6 u=true∧inV (q78 (l.map Vc.v) t) u) (fun k n nm l' hp u hu=>by
  rw[z6,gnB,qmd] at hp;exact⟨q8y.1 hp.1.2 u hu,z4w.1 hp.2.2 u hu⟩) t (s,l) (-1) ⟨hn,qw1 t _⟩ hn hsv (fun i _ _=>rfl) (fun i y h=>h) (fun v c h=>qdc h)
 have hcz:=qk9 t;simp only[yj,gnB,gnD] at ht;generalize zm (s,l) t (-1)=R at *;obtain⟨rep,news⟩:=hrep;have E:Ext s R.2.1:=⟨fun i h=>hk i h,hm,fun i y h=>by rw[g2];show(q38 s.ys t)[i]? =_;rw[hpre];exact zhr h⟩;have hvs:=q4l hs;have hlv:=(qa9.1 hl).2;have hvP:∀c,vcP s c=vcR s c:=hvs.vc;have hsome:∀v d,ofV R.2.2 v=some d→Vgood R.2.1 (jl d):=fun v d hv=>by
  rcases hnew v d hv with h|⟨p,e,h,-⟩
  ·have hmem:=z0b h;have hvd:vcR s d=true:=by rw[←hvP];exact hlv _ hmem
   have hpos:0<R.2.1.cs.length∨d.t≠0∧d.t≠5:=by
    rcases Nat.eq_zero_or_pos R.2.1.cs.length with h0|h0
    ·right;have hs0:s.cs.length=0:=by have:s.cs.length≤R.2.1.cs.length:=hm;omega
     refine⟨fun q=>?_,fun q=>?_⟩
     ·have:=qi.1 (qfk hvd q).1;omega
     ·unfold vcR at hvd;rw[if_neg (by omega),if_neg (by omega),if_neg (by omega),if_neg (by omega),if_pos q] at hvd;have:=qi.1 (q8q (by decide) (of_decide_eq_true hvd));omega
    ·exact .inl h0
   rcases hpos with h0|h0
   ·exact zcl hs E h0 hvd
   ·have:jl d=d:=if_neg h0.2;rw[this];exact⟨E.vc hvd,h0.2,fun q=>absurd q h0.1⟩
  ·subst e;exact qzn h
 have hgood:∀v∈q78 (l.map Vc.v) t,Vgood R.2.1 (fOf R.2.2 v):=fun v hv=>by
  have:=(v1 v).1 hv;cases ho:ofV R.2.2 v with
  |none=>rw[ho] at this;cases this
  |some d=>rw[qdc ho];exact hsome v d ho
 have hsy:q7n R.2.1.ys=true:=by
  have h0:=qzz.1 (qrg hs);refine qzz.2 ⟨by rw[g2];exact hys,?_⟩;rw[g2];exact z5m t s.ys hn ⟨h0.2.1,h0.2.2⟩
 have hval:qr R.2.1=true:=zek (V:=q78 (l.map Vc.v) t) (f:=fOf R.2.2) hs E r1 r2 r3 r4 (by rw[g1,r1];show((s.cs.length+q6g t l:Nat):Int)≤s.mx;have hcs:(s.cs.length:Int)+((q6g t l:Nat):Int)≤s.mx:=hcs;omega) hsy hgood news;have hvP2:∀c,vcP R.2.1 c=vcR R.2.1 c:=(q4l hval).vc;refine⟨E,⟨r1,r2,r3,r4⟩,hval,rep,g4,hof,fun v d hv=>(hnew v d hv).imp id fun⟨p,e,h,_⟩=>⟨p,e,h⟩,(z1x hgood (qw1 t _) hn rep).vc,qa9.2 ⟨g4,fun x hx=>?_⟩,g1,⟨m,by rw[g2];exact hpre⟩,v1,hvg,?_,fun H hb=>?_⟩
 ·rw[hvP2];rcases hnew _ _ (zf7 g4 hx) with h|⟨p,e,h,-⟩
  ·exact E.vc (by rw[←hvP];exact hlv _ (z0b h))
  ·rw[e] at h⊢;exact(qzn h).vc
 ·rw[uI] at v2;have v2:R.2.2.length+l.length=l.length+(q78 (l.map Vc.v) t).length:=v2;omega
 ·obtain⟨i1,i2⟩:=hinj (fun _=>False) (fun v c hv=>(hb v c hv).imp fun p⟨e1,e2⟩=>⟨e1,e2,id⟩) (fun h=>absurd h (by decide)) (fun p h=>h.elim) H;exact⟨i1,fun v d hv=>(i2 v d hv).imp fun p⟨e1,e2,_⟩=>⟨e1,e2⟩⟩
section
namespace Dl
open Go.RowKit Go.Shelf
attribute [local go_sem] Oper.semAt_some
theorem zck(w:World){ops:Array Oper}{rest:List Oper}{o:Oper}{a:Act}{Q:Exit→Act→World→Prop}(hgd:o.guard=none)(s x:Operand)(t t':TypeId)
  (ho:o.op=.call {callee:=.builtin .append,args:= #[s,x],argTypes:= #[t,t']})(v u:Value)(hs:a.eval s=v)(hx:a.eval x=u){v':Value}{w':World}
  (hr:(uY #[t,t'] o.type #[v,u]).run uL w=.ok v' w')(h:wpList uL ops Q rest (a.put o.dst v') w'):wpList uL ops Q (o::rest) a w:=
 wpList_plain hgd fun _ hK=>by
  unfold Oper.wp execOp;simp only[ho,resolve,invoke,builtin,Sem.run_bind,Sem.run_pure,Result.andThen_ok,List.map_toArray,uW,vV,hs,hx,hr];exact hK _ _ h
theorem zl7(w:World)(b cap n i:Nat)(hi:i<n)(hcap:n≤cap)(hc63:cap≤9223372036854775807)(w1 w2:World)
  (happ:∀o:Addr,o.block=b→(i+1<n→o=⟨b,(i+1) * 3,none⟩)→(uY #[77,77] 77 #[.slice (some ⟨b,0,none⟩) i cap,.slice (some o) (n - (i+1)) (cap - (i+1))]).run uL w.drew=.ok (.slice (some ⟨b,0,none⟩) (n - 1) cap) w1)
  (hclr:(kQ #[77] 0 #[.slice (some ⟨b,(n - 1) * 3,none⟩) 1 (cap - (n - 1))]).run uL w1=.ok (.tuple #[]) w2):Calls uL 59 #[.slice (some ⟨b,0,none⟩) n cap,.int .i64 (i:Nat),.int .i64 ((i:Nat)+1)] w fun e w'=>e=.returned (.slice (some ⟨b,0,none⟩) (n - 1) cap)∧w'=w2:=by
 have hne:¬((i:Int)=(i:Int)+1):=by omega
 have h1:i≤cap:=by omega
 have h2:i+1≤n:=by omega
 have h3:i+1≤cap:=by omega
 have h4:(0:Int)≤(i:Int)+1∧(i:Int)+1≤(n:Int):=by omega
 go_enter Try.func59,Try.ntmps59
 go_wp2_with fail
 go_still_tail 6,(by kernel_rfl)
 change wpList _ _ _ _ _ w.drew;obtain⟨o,ho⟩:∃o:Addr,(if cap=i+1 then some (⟨b,0,none⟩:Addr) else some ⟨b,(i+1) * 3,none⟩)=some o:=by
  by_cases e:cap=i+1
  ·exact⟨_,if_pos e⟩
  ·exact⟨_,if_neg e⟩
 have ho1:o.block=b:=by
  split at ho<;>(injection ho with ho;subst ho;rfl)
 have ho2:i+1<n→o=⟨b,(i+1) * 3,none⟩:=fun h=>by
  rw[if_neg (by omega)] at ho;injection ho with ho;exact ho.symm
 rw[ho];have ha:=happ o ho1 ho2;refine zck _ rfl _ _ _ _ rfl _ _ rfl rfl ha ?_;have k1:n - 1≤n:=by omega
 have k2:n≤cap:=hcap;have k3:((n - 1:Nat):Int)≤(n:Int):=by omega
 have k4:n - (n - 1)=1:=by omega
 have k5:¬cap=n - 1:=by omega
 go_wp2_with fail
 exact bodyPost_ret (v:=.slice (some ⟨b,0,none⟩) (n - 1) cap) (by simp[results,Try.results59,go_sem]) rfl ⟨rfl,rfl⟩
end Dl
end
variable{A F:Nat→Prop}{cs:List Value}{T:TypeId}{p:qj}{pin:Nat}
section
namespace Dl
open Go.RowKit Go.Shelf
abbrev tAt:TypeId:=81
abbrev z5g:TypeId:=77
theorem wA:(Ty.st aS).w=3:=by kernel_rfl
def flT(a:At):List Value:=[.string a.name,.int .i64 a.val.t,.int .i64 a.val.n]
def rwA(l:List At):List Value:=l.flatMap flT
theorem qec(l:List At):(rwA l).length=l.length * 3:=by
 induction l with
 |nil=>rfl
 |cons x l ih=>simp[rwA,flT] at ih⊢;omega
theorem z2m(l m:List At):rwA (l++m)=rwA l++rwA m:=List.flatMap_append
theorem z3w(x:At)(l:List At):rwA (x::l)=flT x++rwA l:=rfl
theorem zna{l:List At}:∀v∈rwA l,v.oneCell'=true:=fun v hv=>by
 obtain⟨x,-,hx⟩:=List.mem_flatMap.1 hv;simp only[flT,uG,kD,or_false] at hx;rcases hx with rfl|rfl|rfl<;>rfl
theorem zwe{x:At}(h:x.ok)(w:World)(F:Nat→Prop):Rd w F (eA x) (.st aS) (flT x):=
 ⟨_,_,rfl,flA,.str,[ql],[.string x.name],ceL x.val,rfl,rfl,⟨rfl,rfl,h.1⟩,ql,[],ceL x.val,[],rfl,by simp,qy9 h.2,rfl,rfl⟩
theorem zr9{w:World}{d:D}(h:Rd w F d (.st aS) cs):∃x:At,x.ok∧d=eA x∧cs=flT x:=by
 obtain⟨l,rfl,hF⟩:=Ins.of_rdS flA h;obtain⟨d1,l1,c1,c2,rfl,rfl,h1,hG⟩:=Ins.of_rdF hF;obtain⟨d2,l2,c3,c4,rfl,rfl,h2,hH⟩:=Ins.of_rdF hG;obtain⟨rfl,rfl⟩:=Ins.of_rdN hH;obtain⟨x,ha,hx⟩:=wfA ⟨w,F,_,h⟩;obtain⟨n,v⟩:=x;have e:=congrArg D.fs ha;simp only[eA,D.fs,List.cons.injEq,and_true] at e;obtain⟨rfl,rfl⟩:=e;obtain rfl:=qym h2;obtain⟨-,rfl,-⟩:=h1;exact⟨⟨n,v⟩,hx,rfl,rfl⟩
theorem qz0{w:World}{b o:Nat}{cur:Array Value}(hc:w.heap[b]? =some (.cells cur T (0,0))):∀{rs:List D}{i:Nat},RdE w F rs (.st aS) (some ⟨b,o,none⟩) i→∃L:List At,rs=L.map eA∧(∀x∈L,x.ok)∧cur.toList.drop (o+i * 3)=rwA L++cur.toList.drop (o+(i+rs.length) * 3)
 |[],i,_=>⟨[],rfl,fun x hx=>(by cases hx),by simp[rwA]⟩
 |d::rs,i,⟨⟨b',o',cs,e,hF,hr,hd⟩,h⟩=>by
  injection e with e;injection e with e1 e2;subst e1 e2;obtain⟨x,hx,rfl,rfl⟩:=zr9 hd;obtain⟨L,rfl,hL,hdr⟩:=qz0 hc h;rw[wA] at hr;refine⟨x::L,rfl,fun y hy=>(uG.1 hy).elim (fun e=>e▸hx) (hL y),?_⟩;have:=Ins.range_drop3 hc hr;rw[this,show o+i * 3+3=o+(i+1) * 3 by omega,hdr,show i+1+(L.map eA).length=i+(eA x::L.map eA).length by simp;omega];rfl
theorem zch{w:World}{dep:List Nat}{l:List D}{v:Value}(h:q32 A p w dep pin tAt (.st aS) l v)(h0:0<l.length):
  ∃g cap L post,v=.slice (some ⟨g,0,none⟩) l.length cap∧p pin=some g∧l=L.map eA∧(∀x∈L,x.ok)∧w.heap[g]? =some (.cells (rwA L++post).toArray tAt (0,0))∧l.length≤cap∧cap≤maxLen∧post.length=(cap - l.length) * 3:=by
 rcases h with⟨-,rfl⟩|⟨g,cap,cur,rfl,hg,hh,h1,h2,h3,h4,h5⟩
 ·simp at h0
 ·obtain⟨L,hL,hok,hdr⟩:=qz0 (F:=FFD A p (pin::dep)) (o:=0) hh (rs:=l) (i:=0) (q1r.2 fun j hj=>by
   obtain⟨cs,hr,hx⟩:=h5 j hj;exact⟨g,0,cs,rfl,.inr ⟨pin,by simp,hg⟩,by simpa using hr,hx.mono fun b _ hb=>hb.mono fun x hx=>uB _ hx⟩)
  have hl:=qec L;have hll:l.length=L.length:=by rw[hL,uI]
  simp only[vY,kM,List.drop_zero] at hdr;rw[wA] at h3;have hcl:=congrArg kB hdr;rw[uE,kE,Array.length_toList] at hcl;refine⟨g,cap,L,cur.toList.drop (l.length * 3),rfl,hg,hL,hok,?_,h1,h2,?_⟩
  ·rw[←hdr];exact hh
  ·rw[kE,Array.length_toList];omega
theorem zc1:∀{l:List At}{i:Nat}(h:i<l.length){j:Nat}{v:Value},(flT l[i])[j]? =some v→(rwA l)[i * 3+j]? =some v
 |x::l,0,_,j,v,hj=>by
  rw[vY,kM,z3w];exact uJ (by have:=(gnH.1 hj).1;exact this)▸hj
 |x::l,i+1,h,j,v,hj=>by
  have:=zc1 (l:=l) (i:=i) (by simpa using h) (j:=j) (v:=v) (by simpa using hj);rw[z3w,show(i+1) * 3+j=i * 3+j+3 by omega];exact this
theorem qyi{w:World}{b k:Nat}(h:w.heap[b]? =some (.cells cs.toArray T (0,0))){v:Value}(hv:cs[k]? =some v):w.cell? ⟨b,k,none⟩=some v:=by
 have:=cell_of_row w b k _ T (0,0) h;rw[this];simpa using hv
theorem zm6{w:World}{g cap:Nat}{M:List At}{post:List Value}(hp:p pin=some g)(hM:∀x∈M,x.ok)(hh:w.heap[g]? =some (.cells (rwA M++post).toArray tAt (0,0)))(h1:M.length≤cap)(h2:cap≤maxLen)(h3:post.length=(cap - M.length) * 3)(h4:M.length≤4398046510976):
  q32 A p w [] pin tAt (.st aS) (M.map eA) (.slice (some ⟨g,0,none⟩) M.length cap):=by
 have hl:=qec M;refine .inr ⟨g,cap,_,by rw[uI],hp,hh,by rw[uI];exact h1,h2,by rw[kK,uE,wA];omega,by rw[uI,lmA];exact h4,fun i hi=>?_⟩;have hi':i<M.length:=by simpa using hi
 refine⟨flT M[i],fun j v hj=>?_,by simpa using zwe (hM _ (kP hi')) _ _⟩;rw[wA];have:=zc1 hi' hj;exact qyi hh (uJ (by have:=(gnH.1 this).1;exact this)▸this)
theorem zeq:uL.underlying z5g=some (.slice tAt):=by kernel_rfl
theorem zmj:(uL.info? tAt).map (fun i=>i.size)=some 3:=by kernel_rfl
theorem zmh(w:World):(zeroValue tAt).run uL w=.ok (.agg #[.string ⟨#[]⟩,.int .i64 0,.int .i64 0]) w:=by kernel_rfl
theorem z7d(w:World)(g i m cap mc:Nat)(a:Addr)(cur:Array Value)(t:TypeId)(cs:List Value)
  (hg:w.heap[g]? =some (.cells cur t (0,0)))(hl:cs.length=m * 3)(hsrc:∀j v,cs[j]? =some v→w.cell? (a.add j)=some v)(hroom:i+m≤cap)(hfit:i * 3+cs.length≤cur.size)(h1:∀v∈cs,v.oneCell'=true):
  (uY #[z5g,z5g] z5g #[.slice (some ⟨g,0,none⟩) i cap,.slice (some a) m mc]).run uL w=
   .ok (.slice (some ⟨g,0,none⟩) (i+m) cap) (w.setRow g (cur.toList.take (i * 3)++cs++cur.toList.drop (i * 3+cs.length)).toArray):=by
 have hld:=run_loadCells_list (P:=uL) w a cs hsrc;have hst:=run_storeCells_at uL g (i * 3) t cs 0 cur w hg (by simpa using hfit) h1;obtain⟨ti,hi,e⟩:=Option.map_eq_some_iff.1 zmj;have e:ti.size=3:=e;rw[hl] at hld;simp[uY,run_underlying zeq,Builtin.lenOf,Builtin.firstCells,sizeOf,typeInfo,hi,e,hroom,hld,hst,Addr.add_lit]
def zAt:List Value:=[.string ⟨#[]⟩,.int .i64 0,.int .i64 0]
theorem z90(w:World)(g q c:Nat)(cur:Array Value)(t:TypeId)(hg:w.heap[g]? =some (.cells cur t (0,0)))(hfit:q+3≤cur.size):
  (kQ #[z5g] 0 #[.slice (some ⟨g,q,none⟩) 1 c]).run uL w=.ok (.tuple #[]) (w.setRow g (cur.toList.take q++zAt++cur.toList.drop (q+3)).toArray):=by
 have hst:=run_storeCells_at uL g q t zAt 0 cur w hg (by simpa[zAt] using hfit) (fun v hv=>by
  simp only[zAt,uG,kD,or_false] at hv;rcases hv with rfl|rfl|rfl<;>rfl)
 have hz:(Builtin.zeroCells #[.string ⟨#[]⟩,.int .i64 0,.int .i64 0] 1).toList=zAt:=by kernel_rfl
 have hl:zAt.length=3:=rfl;rw[hl] at hst;simp only[kW] at hst;simp only[kQ,List.getElem?_toArray,List.getElem?_cons_zero,Sem.run_bind,run_underlying zeq,Result.andThen_ok,zmh,Value.cells,hz,hst,Sem.run_pure]
end Dl
end
section
open Go.RowKit Go.Shelf
open Dl
def zq9:List D→Option (List D)
 |[l,i,j]=>if 0≤i.int∧i.int<l.rs.length∧j.int=i.int+1 then some [.r (l.rs.take i.int.toNat++l.rs.drop (i.int.toNat+1))] else none
 |_=>none
theorem zl4{w:World}{d:D}(h:Con A p w d (.row tAt) [(0,pin)] [] cs):∃l v,d=.r l∧cs=[v]∧q32 A p w [] pin tAt (.st aS) l v:=by
 rcases h with⟨E,te,l,v,e,hte,rfl,rfl,h⟩|⟨K,V,kt,vt,l,g,es,clock,e,-⟩
 ·injection e with e;subst e;obtain rfl:=gnI (hte.symm.trans tyA);exact⟨l,v,rfl,rfl,h⟩
 ·cases e
set_option maxHeartbeats 1000000 in
theorem qan:FOk ja zq9:=FOk.of_at q99 fun ds outs hw hg=>by
 obtain⟨d,r,rfl,hd,e,r',rfl,he,e2,r2,rfl,he2,hw⟩:=hw;obtain rfl:r2=[]:=hw;obtain⟨l,te,rfl,hte,hl,-⟩:=hd.row;obtain⟨n,rfl,hn⟩:=wfI he;obtain⟨m,rfl,hm⟩:=wfI he2;have hg':(if 0≤n∧n<l.length∧m=n+1 then some [D.r (l.take n.toNat++l.drop (n.toNat+1))] else none)=some outs:=hg;split at hg'
 case isFalse=>cases hg'
 rename_i hc;obtain⟨h1,h2,rfl⟩:=hc;injection hg' with hg';subst hg';clear hg;intro A F p w vs us hfl hfo hpre hvl hargs;have hF0:∀te,F.mx te=0:=fun te=>hfl.zero rfl te;obtain⟨v0,r0,d0,ds0,e0,e00,⟨cs0,hpk0,hc0⟩,v1,r1,d1,ds1,e1,e11,⟨cs1,hpk1,hc1⟩,v2,r2,d2,ds2,e2',e22,⟨cs2,hpk2,hc2⟩,hr⟩:=hargs;obtain rfl:r2=[]:=hr.1;subst e1 e2';obtain⟨rfl,rfl⟩:=uX e00;obtain⟨rfl,rfl⟩:=uX e11;obtain⟨rfl,-⟩:=uX e22;clear e00 e11 e22 hr;obtain⟨rfl,rfl⟩:vs=[v0,v1,v2]∧us=[]:=by
  have hl3:vs.length=3:=hvl;have hus:us.length=0:=by
   have:=congrArg kB e0;simp at this;omega
  obtain rfl:=List.length_eq_zero_iff.1 hus;exact⟨by simpa using e0,rfl⟩
 clear e0;have hc0:Con A p w (D.r l) (.row tAt) [(0,1)] [] cs0:=hc0;obtain⟨l',u0,q0,rfl,ho0⟩:=zl4 hc0;injection q0 with q0;subst q0;obtain rfl:u0=v0:=(uX hpk0).1;obtain⟨n',-,e,rfl⟩:=Ins.of_rdI hc1;injection e with e;subst e;obtain rfl:Value.int .i64 n=v1:=(uX hpk1).1;obtain⟨n',-,e,rfl⟩:=Ins.of_rdI hc2;injection e with e;subst e;obtain rfl:Value.int .i64 (n+1)=v2:=(uX hpk2).1;obtain⟨g,cap,L,post,rfl,hpg,hL,hLo,hg,hcap,hcm,hpost⟩:=zch ho0 (by omega);have hLl:l.length=L.length:=by rw[hL,uI]
 obtain⟨i,rfl⟩:∃i:Nat,n=i:=⟨n.toNat,by omega⟩;have hi:i<L.length:=by omega
 have hlm:cap≤9223372036854775807:=by unfold maxLen at hcm;omega
 have hout:l.take (i:Int).toNat++l.drop ((i:Int).toNat+1)=(L.take i++L.drop (i+1)).map eA:=by
  rw[hL,uH];simp
 have hNo:∀y∈L.take i++L.drop (i+1),y.ok:=fun y hy=>by
  rcases uM.1 hy with h|h
  ·exact hLo y (List.mem_of_mem_take h)
  ·exact hLo y (List.mem_of_mem_drop h)
 have hNl:(L.take i++L.drop (i+1)).length=L.length - 1:=by simp;omega
 have hlL:=qec L;have hlD:=qec (L.drop (i+1));have hlN:=qec (L.take i++L.drop (i+1));have hlT:=qec (L.take i);rw[kE] at hlD;rw[vK,vO (by omega)] at hlT;rw[hNl] at hlN;have hsp:rwA L=rwA (L.take i)++rwA (L.drop i):=by rw[←z2m,kX]
 have hsp2:rwA L=rwA (L.take (i+1))++rwA (L.drop (i+1)):=by rw[←z2m,kX]
 have hlT2:=qec (L.take (i+1));rw[vK,vO (by omega)] at hlT2;have hgd:w.drew.heap[g]? =some (.cells (rwA L++post).toArray tAt (0,0)):=hg
 -- the cells behind the append
 have hc1':((rwA L++post).take (i * 3)++rwA (L.drop (i+1))++(rwA L++post).drop (i * 3+(rwA (L.drop (i+1))).length))=rwA (L.take i++L.drop (i+1))++(rwA L++post).drop ((L.length - 1) * 3):=by
  rw[z2m,hlD]
  congr 1
  ·congr 1
   rw[hsp,vJ,←hlT,vP]
  ·congr 1
   omega
 have hsz:(rwA L++post).length=cap * 3:=by rw[uE,hlL,hpost,hLl];omega
 have happ:∀o:Addr,o.block=g→(i+1<L.length→o=⟨g,(i+1) * 3,none⟩)→(uY #[z5g,z5g] z5g #[.slice (some ⟨g,0,none⟩) i cap,.slice (some o) (L.length - (i+1)) (cap - (i+1))]).run uL w.drew=.ok (.slice (some ⟨g,0,none⟩) (L.length - 1) cap) (w.drew.setRow g (rwA (L.take i++L.drop (i+1))++(rwA L++post).drop ((L.length - 1) * 3)).toArray):=fun o ho1 ho2=>by
  have:=z7d w.drew g i (L.length - (i+1)) cap (cap - (i+1)) o (rwA L++post).toArray tAt (rwA (L.drop (i+1))) hgd hlD (fun j v hj=>?_) (by omega) (by rw[hlD];simp only[kK,hsz];omega) zna
  ·rw[this,show i+(L.length - (i+1))=L.length - 1 by omega];rw[←hc1']
  ·have hj':=(gnH.1 hj).1;rw[hlD] at hj';rw[ho2 (by omega)];rw[Addr.add_lit];refine qyi hgd ?_;rw[uJ (by rw[hlL];omega),hsp2,List.getElem?_append_right (by omega),hlT2,show(i+1) * 3+j - (i+1) * 3=j by omega];exact hj
 have hg1:=setRow_heap w.drew g _ (rwA (L.take i++L.drop (i+1))++(rwA L++post).drop ((L.length - 1) * 3)).toArray tAt (0,0) hgd;have hclr:=z90 (w.drew.setRow g (rwA (L.take i++L.drop (i+1))++(rwA L++post).drop ((L.length - 1) * 3)).toArray) g ((L.length - 1) * 3) (cap - (L.length - 1)) _ tAt hg1 (by simp only[kK,uE,hlN,kE];simp only[uE] at hsz;omega);have hc2':((rwA (L.take i++L.drop (i+1))++(rwA L++post).drop ((L.length - 1) * 3)).toArray.toList.take ((L.length - 1) * 3)++zAt++(rwA (L.take i++L.drop (i+1))++(rwA L++post).drop ((L.length - 1) * 3)).toArray.toList.drop ((L.length - 1) * 3+3))=rwA (L.take i++L.drop (i+1))++(zAt++post):=by
  show((rwA (L.take i++L.drop (i+1))++(rwA L++post).drop ((L.length - 1) * 3)).take ((L.length - 1) * 3)++zAt++(rwA (L.take i++L.drop (i+1))++(rwA L++post).drop ((L.length - 1) * 3)).drop ((L.length - 1) * 3+3))=_
  rw[←hlN,vP,vJ]
  congr 2
  rw[List.drop_append,List.drop_eq_nil_of_le (by omega),kS,List.drop_drop,hlN,show(L.length - 1) * 3+((L.length - 1) * 3+3 - (L.length - 1) * 3)=(rwA L).length by rw[hlL];omega,List.drop_left]
 rw[hc2',setRow_setRow] at hclr;rw[show(kB l)=L.length from hLl];refine Calls.mono (zl7 w g cap L.length i hi (by omega) hlm _ _ happ hclr) ?_;rintro e w'⟨rfl,rfl⟩;have hbut:But (pinned p) w (w.drew.setRow g (rwA (L.take i++L.drop (i+1))++(zAt++post)).toArray):=q7s (But.refl (pinned p) w).drew (.inl ⟨_,hpg⟩) _;have hh:=setRow_heap w.drew g _ (rwA (L.take i++L.drop (i+1))++(zAt++post)).toArray tAt (0,0) hgd;have hp':∀y b,(fun y=>if y=49 then some g else none:qj) y=some b→y=49∧b=g:=fun y b h=>by
  by_cases hy:y=49
  ·subst hy;exact⟨rfl,(gnI h).symm⟩
  ·simp[hy] at h
 refine .inr ⟨[.slice (some ⟨g,0,none⟩) (L.length - 1) cap],fun y=>if y=49 then some g else none,rfl,⟨?_,?_,hbut,?_,hpre.new,?_,?_,Flo.of0 hF0 hfo⟩,?_,rfl⟩
 ·intro y z b h1 h2;rw[(hp' y b h1).1,(hp' z b h2).1]
 ·intro y b h;rw[(hp' y b h).2];exact qt hh
 ·intro y b h;rw[(hp' y b h).2];exact .inl ⟨_,hpg⟩
 ·intro y b h;rw[(hp' y b h).2];exact hpre.pa _ _ hpg
 ·intro y b h;rw[(hp' y b h).2];exact .inl ⟨_,_,hh⟩
 ·refine⟨_,_,_,_,rfl,rfl,⟨[.slice (some ⟨g,0,none⟩) (L.length - 1) cap],rfl,?_⟩,rfl⟩;refine .inl ⟨tAt,.st aS,_,_,rfl,tyA,rfl,rfl,?_⟩;rw[hout,←hNl];refine zm6 rfl hNo hh (by rw[hNl];omega) hcm (by rw[hNl,uE,hpost];show 3+_=_;omega) ?_;rw[hNl];have:=hl;obtain rfl:=gnI (hte.symm.trans tyA);rw[lmA] at hl;omega
end
def zee(e:Int)(s' s:So):So:=if e=0 then s' else{s' with cs:=s'.cs.take s.cs.length,ys:=s'.ys.take s.ys.length,tr:=s'.tr.take s.tr.length,ser:=s.ser}
def zp3(e:Int)(s' s:So):Bool:=decide (e=0)||(decide (s.cs.length≤s'.cs.length)&&(decide (s.ys.length≤s'.ys.length)&&decide (s.tr.length≤s'.tr.length)))
theorem q98{e:Int}{s' s:So}(h:zp3 e s' s=true):q5c [.i e,eS s',eS s]=some [eS (zee e s' s)]:=by
 simp only[q5c,zee];have ei:(D.i e).int=e:=rfl;rw[ei];by_cases he:e=0
 ·rw[if_pos he,if_pos he]
 ·simp only[zp3,uD,gnB,gnD] at h;obtain⟨h0,h1,h2⟩:=h.resolve_left he;rw[if_neg he,if_neg he];simp only[eS,D.fld,D.fs,vD,vE,D.rs,uI];rw[if_pos ⟨h0,h1,h2⟩];simp[List.map_take]
def apT(l:List At):Te:=liT (qh0 l) qq4
def zr(s:So)(l:List At):Ce×Int×So:=((qiz s (apT l) (vsA l)).1,(qiz s (apT l) (vsA l)).2.2.1,(qiz s (apT l) (vsA l)).2.2.2)
def apQ(s:So)(l:List At):Bool:=qi2 s (apT l) (vsA l)
theorem z6c{s:So}{l:List At}(hv:apQ s l=true)(hl:l.length≤499):zcc [eS s,.r (l.map eA)]=some [eC (zr s l).1,.i (zr s l).2.1,eS (zr s l).2.2]:=by
 have h1:dVs (.r ((vsA l).map eV))=vsA l:=q5q _;unfold apQ at hv;unfold zr;simp only[zcc,z9,if_pos hl,qoy,yf,jz,h1];unfold apT at hv⊢;rw[if_pos hv];simp only[Option.map_some,vD,vE]
def apL(l:List At)(nm:ByteArray)(val:Ce):List At:=if 0≤q5x l nm then l.set (q5x l nm).toNat ⟨(l.getD (q5x l nm).toNat default).name,val⟩ else l++[⟨nm,val⟩]
def apN(s:So)(c:Ce):So:={s with ser:=s.ser+1,cs:=s.cs++[⟨5,(s.cs.length:Nat)⟩,⟨1,s.ser+1⟩,c]}
def apC(s:So)(d:Ce)(l:List At):Int×So:=
 if(zr s l).2.1=0 then(if d.t=5 then qa6 (zr s l).2.2 (d.n+2) (zr s l).1 else
  if IntKind.wrap .i64 ((zr s l).2.2.mx - 3)<(zr s l).2.2.cs.length∨1099511627776≤(zr s l).2.2.ser then(13,(zr s l).2.2) else qa6 (apN (zr s l).2.2 (zr s l).1) d.n ⟨5,((zr s l).2.2.cs.length:Nat)⟩)
 else((zr s l).2.1,(zr s l).2.2)
def zgk(s:So)(d:Ce)(l:List At):Bool:=qbw (zr s l).2.2&&(decide ((zr s l).2.2.cs.length+3≤8796093021952)&&(decide (-9223372036854775808≤(zr s l).2.2.ser)&&zp3 (apC s d l).1 (apC s d l).2 s))
def apB(s:So)(v:Ce)(nm:ByteArray)(val:Ce):Bool:= !(jm s v).2||(decide ((jm s v).1.t=5)&& !z40 s (jm s v).1.n)||decide (100<(nm.size:Int))|| !vcP s val
def apA(s:So)(v:Ce)(nm:ByteArray)(val:Ce):Int×So:=if apB s v nm val then(1,s) else if 499<(apL (qcg s (jm s v).1) nm val).length then(2,s) else
 ((apC s (jm s v).1 (apL (qcg s (jm s v).1) nm val)).1,zee (apC s (jm s v).1 (apL (qcg s (jm s v).1) nm val)).1 (apC s (jm s v).1 (apL (qcg s (jm s v).1) nm val)).2 s)
def apO(s:So)(v:Ce)(nm:ByteArray)(val:Ce):Bool:=zl5 s&&(qbw s&&(apB s v nm val||(decide (499<(apL (qcg s (jm s v).1) nm val).length)||(apQ s (apL (qcg s (jm s v).1) nm val)&&zgk s (jm s v).1 (apL (qcg s (jm s v).1) nm val)))))
def zb2:List D→Option (List D)
 |[s,v,nm,val]=>if apO (dS s) (dC v) nm.str (dC val) then some [.i (apA (dS s) (dC v) nm.str (dC val)).1,eS (apA (dS s) (dC v) nm.str (dC val)).2] else none
 |_=>none
theorem zgh{s:So}{v:Ce}(h:(jm s v).2=true):inS s (jm s v).1.n=true∧((jm s v).1.t=5→inS s ((jm s v).1.n+2)=true):=by
 unfold jm at h⊢;split at h
 ·rename_i hv;simp only[if_pos hv];split at h
  ·rename_i h0;simp only[if_pos h0];exact⟨h,fun h5=>by rw[h0] at h5;exact absurd h5 (by decide)⟩
  ·rename_i h0;simp only[if_neg h0];split at h
   ·rename_i h1;simp only[if_pos h1];simp only[gnB] at h;exact⟨h.1,fun _=>h.2⟩
   ·cases h
 ·cases h
theorem zes(s:So)(c:Ce):D.a ((D.a ((eS s).fs.set 4 (.i (s.ser+1)))).fs.set 0 (.r (s.cs.map eC++[eC ⟨5,(s.cs.length:Nat)⟩,eC ⟨1,s.ser+1⟩,eC c])))=eS (apN s c):=by
 simp[apN,eS,D.fs]
theorem z3t{s:So}{x:D}:(D.a ((eS s).fs.set 4 x)).fld 0=.r (s.cs.map eC):=rfl
theorem zds{s:So}{x:D}:(D.a ((eS s).fs.set 4 x)).fld 4=x:=rfl
theorem zn9(l:List At)(i:Nat)(a:At):(l.map eA).set i (eA a)=(l.set i a).map eA:=by rw[kL]
set_option maxHeartbeats 2000000 in
theorem z4d:FOk q06 zb2:=qkl q2e q7q zh qbp qad qx9 q3h fun ds outs hw hg=>by
 obtain⟨d,r,rfl,hd,e,r',rfl,he,f,r2,rfl,hf,q,r3,rfl,hq,rfl⟩:=hw;obtain⟨s,rfl,hs⟩:=wfS hd;obtain⟨v,rfl,hv⟩:=wfC he;obtain⟨nm,rfl,hn⟩:=hf.str;obtain⟨val,rfl,hval⟩:=wfC hq;simp only[zb2,yf,q16,q7o,uU,uR] at hg;obtain⟨ho,rfl⟩:=hg;simp only[apO,gnB] at ho;obtain⟨hlb,hrm,ho⟩:=ho;have ez:D.a [.i 0,.i 0]=eC ⟨0,0⟩:=rfl;have hA:(jm s v).2=true→(jm s v).1.t=5→qvl [eS s,eC (jm s v).1]=some [.b (z40 s (jm s v).1.n)]:=fun h h5=>by
  simp only[qvl,yf,q16];rw[if_pos ((zgh h).2 h5)]
 have hBad:(!(jm s v).2||decide ((jm s v).1.t=5)&& !((((qvl [eS s,eC (jm s v).1]).getD []).getD 0 D.u).tt)||decide (100<(nm.size:Int))|| !vcP s val)=apB s v nm val:=by
  unfold apB;cases h:(jm s v).2 with
  |false=>simp
  | true =>
   by_cases h5:(jm s v).1.t=5
   ·rw[hA h h5];simp[h5,q5y]
   ·simp[h5]
 rw[q8n,qg];refine⟨by simp only[gnZ,yv],?_⟩;rw[qg];refine⟨?_,?_⟩
 ·simp only[gnZ,yv];refine⟨by simp[qdf],?_⟩;cases h:(jm s v).2 with
  |false=>simp
  | true =>
   by_cases h5:(jm s v).1.t=5
   ·rw[hA h h5];simp
   ·simp[h5]
 rw[z8];refine⟨fun hb=>?_,fun hb=>?_⟩
 ·simp only[gnZ,yv,qdf] at hb⊢;rw[hBad] at hb;unfold apA;rw[if_pos hb]
 ·simp only[gnZ,yv,qdf] at hb;rw[hBad] at hb;have hnb:¬apB s v nm val=true:=by rw[hb];decide
  have hok:(jm s v).2=true:=by
   cases h:(jm s v).2 with
   |true=>rfl
   |false=>
    unfold apB at hb;rw[h] at hb;simp at hb
  have hown:=zhk hlb hok;rw[hb,vU,uD,gnD] at ho;have hapA:apA s v nm val=if 499<(apL (qcg s (jm s v).1) nm val).length then(2,s) else((apC s (jm s v).1 (apL (qcg s (jm s v).1) nm val)).1,zee (apC s (jm s v).1 (apL (qcg s (jm s v).1) nm val)).1 (apC s (jm s v).1 (apL (qcg s (jm s v).1) nm val)).2 s):=by
   unfold apA;rw[if_neg hnb]
  rw[hapA];have hdl:=zht s (jm s v).1 (of_decide_eq_true hlb);obtain⟨hin,hin2⟩:=zgh hok;generalize hd:(jm s v).1=d at *;generalize hl:qcg s d=l at *;rw[qg];refine⟨by simp only[gnZ,yv,hd,hown],?_⟩;rw[qg];refine⟨by simp only[gnZ,yv,hd,hown,j9],?_⟩;rw[z8];refine⟨fun hi=>?_,fun hi=>?_⟩
  ·simp only[gnZ,yv,hd,hown,j9,z9] at hi;obtain⟨i1,i2⟩:=zn8 (l:=l) (nm:=nm) (by omega);have eg:(D.r (l.map eA)).get (q5x l nm)=eA (l.getD (q5x l nm).toNat default):=zb0 eA i1 i2;rw[qg];refine⟨by simp only[gnZ,yv,hd,hown,j9,z9];exact⟨i1,i2⟩,?_⟩;have eL:(l.map eA).set (q5x l nm).toNat (eA ⟨(l.getD (q5x l nm).toNat default).name,val⟩)=(apL l nm val).map eA:=by
    unfold apL;rw[if_pos i1,zn9]
   have eLl:(apL l nm val).length=l.length:=by
    have:=congrArg kB eL;simpa using this.symm
   generalize apL l nm val=M at *;rw[z8];refine⟨fun hlen=>?_,fun hlen=>?_⟩
   ·simp only[gnZ,yv,hd,hown,j9,z9,eg,q5h,eL] at hlen⊢;have hlen:499<M.length:=by omega
    rw[if_pos hlen]
   ·simp only[gnZ,yv,hd,hown,j9,z9,eg,q5h,eL] at hlen;have hlen:M.length≤499:=by omega
    have ho:=ho.resolve_left (by omega);unfold zgk at ho;simp only[gnB,gnD] at ho;obtain⟨hvr,q1,q2,q4,q5⟩:=ho;have hst:=z6c hvr hlen;rw[if_neg (by omega)];rw[qg];refine⟨by simp only[gnZ,yv,hd,hown,j9,z9,eg,q5h,eL,hst],?_⟩;rw[z8];refine⟨fun he=>?_,fun he=>?_⟩
    ·simp only[gnZ,yv,hd,hown,j9,z9,eg,q5h,eL,hst] at he;have he:¬(zr s M).2.1=0:=by simpa using he
     have ec:apC s d M=((zr s M).2.1,(zr s M).2.2):=by
      unfold apC;rw[if_neg he]
     rw[ec] at q5⊢;have hk:=q98 q5;rw[qg];refine⟨by simp only[gnZ,yv,hd,hown,j9,z9,eg,q5h,eL,hst,hk],?_⟩;simp only[gnZ,yv,hd,hown,j9,z9,eg,q5h,eL,hst,hk]
    ·simp only[gnZ,yv,hd,hown,j9,z9,eg,q5h,eL,hst] at he;have he:(zr s M).2.1=0:=by simpa using he
     rw[z8];refine⟨fun h5=>?_,fun h5=>?_⟩
     ·simp only[gnZ,yv,hd,hown,j9,z9,eg,q5h,eL] at h5;have ec:apC s d M=qa6 (zr s M).2.2 (d.n+2) (zr s M).1:=by
       unfold apC;rw[if_pos he,if_pos h5]
      rw[ec] at q5⊢;have hse:=qhi q1 (d.n+2) (zr s M).1;have hk:=q98 q5;have hi2:=qi.1 (hin2 h5);have hsl:=qmu hs;unfold i64 at hsl;rw[qg];refine⟨by simp only[gnZ,yv,hd,hown,j9,z9,eg,q5h,eL,hst,hse];exact⟨by omega,by omega⟩,?_⟩;rw[qg];refine⟨by simp only[gnZ,yv,hd,hown,j9,z9,eg,q5h,eL,hst,hse,hk],?_⟩;simp only[gnZ,yv,hd,hown,j9,z9,eg,q5h,eL,hst,hse,hk]
     ·simp only[gnZ,yv,hd,hown,j9,z9,eg,q5h,eL] at h5;rw[z8];refine⟨fun h6=>?_,fun h6=>?_⟩
      ·simp only[gnZ,yv,hd,hown,j9,z9,eg,q5h,eL,hst,fnD,uD,gnD] at h6;have ec:apC s d M=(13,(zr s M).2.2):=by
        unfold apC;rw[if_pos he,if_neg h5,if_pos h6]
       rw[ec] at q5⊢;have hk:=q98 q5;rw[qg];refine⟨by simp only[gnZ,yv,hd,hown,j9,z9,eg,q5h,eL,hst,hk],?_⟩;simp only[gnZ,yv,hd,hown,j9,z9,eg,q5h,eL,hst,hk]
      ·simp only[gnZ,yv,hd,hown,j9,z9,eg,q5h,eL,hst,fnD,kZ,decide_eq_false_iff_not] at h6;have ec:apC s d M=qa6 (apN (zr s M).2.2 (zr s M).1) d.n ⟨5,((zr s M).2.2.cs.length:Nat)⟩:=by
        unfold apC;rw[if_pos he,if_neg h5,if_neg (by rintro(h|h);exact h6.1 h;exact h6.2 h)]
       rw[ec] at q5⊢;have q1':qbw (apN (zr s M).2.2 (zr s M).1)=true:=q1;have hse:=qhi q1' d.n ⟨5,((zr s M).2.2.cs.length:Nat)⟩;have hk:=q98 q5;have hap:=zes (zr s M).2.2 (zr s M).1;rw[qg];refine⟨by simp only[gnZ,yv,hd,hown,j9,z9,eg,q5h,eL,hst];exact⟨by omega,by omega⟩,?_⟩;rw[qg];refine⟨by simp only[gnZ,yv,hd,hown,j9,z9,eg,q5h,eL,hst,z3t];omega,?_⟩;rw[qg];refine⟨by simp only[gnZ,yv,hd,hown,j9,z9,eg,q5h,eL,hst,z3t,zds,qb4,hap,hse],?_⟩;rw[qg];refine⟨by simp only[gnZ,yv,hd,hown,j9,z9,eg,q5h,eL,hst,z3t,zds,qb4,hap,hse,hk],?_⟩;simp only[gnZ,yv,hd,hown,j9,z9,eg,q5h,eL,hst,z3t,zds,qb4,hap,hse,hk]
  ·simp only[gnZ,yv,hd,hown,j9,z9] at hi;rw[qg];refine⟨by simp only[gnZ,yv,hd,hown,j9,z9];omega,?_⟩;have eL:l.map eA++[D.a [.s nm,eC val]]=(apL l nm val).map eA:=by
    unfold apL;rw[if_neg (by omega)];simp[eA]
   generalize apL l nm val=M at *;rw[z8];refine⟨fun hlen=>?_,fun hlen=>?_⟩
   ·simp only[gnZ,yv,hd,hown,j9,z9,eL] at hlen⊢;have hlen:499<M.length:=by omega
    rw[if_pos hlen]
   ·simp only[gnZ,yv,hd,hown,j9,z9,eL] at hlen;have hlen:M.length≤499:=by omega
    have ho:=ho.resolve_left (by omega);unfold zgk at ho;simp only[gnB,gnD] at ho;obtain⟨hvr,q1,q2,q4,q5⟩:=ho;have hst:=z6c hvr hlen;rw[if_neg (by omega)];rw[qg];refine⟨by simp only[gnZ,yv,hd,hown,j9,z9,eL,hst],?_⟩;rw[z8];refine⟨fun he=>?_,fun he=>?_⟩
    ·simp only[gnZ,yv,hd,hown,j9,z9,eL,hst] at he;have he:¬(zr s M).2.1=0:=by simpa using he
     have ec:apC s d M=((zr s M).2.1,(zr s M).2.2):=by
      unfold apC;rw[if_neg he]
     rw[ec] at q5⊢;have hk:=q98 q5;rw[qg];refine⟨by simp only[gnZ,yv,hd,hown,j9,z9,eL,hst,hk],?_⟩;simp only[gnZ,yv,hd,hown,j9,z9,eL,hst,hk]
    ·simp only[gnZ,yv,hd,hown,j9,z9,eL,hst] at he;have he:(zr s M).2.1=0:=by simpa using he
     rw[z8];refine⟨fun h5=>?_,fun h5=>?_⟩
     ·simp only[gnZ,yv,hd,hown,j9,z9,eL] at h5;have ec:apC s d M=qa6 (zr s M).2.2 (d.n+2) (zr s M).1:=by
       unfold apC;rw[if_pos he,if_pos h5]
      rw[ec] at q5⊢;have hse:=qhi q1 (d.n+2) (zr s M).1;have hk:=q98 q5;have hi2:=qi.1 (hin2 h5);have hsl:=qmu hs;unfold i64 at hsl;rw[qg];refine⟨by simp only[gnZ,yv,hd,hown,j9,z9,eL,hst,hse];exact⟨by omega,by omega⟩,?_⟩;rw[qg];refine⟨by simp only[gnZ,yv,hd,hown,j9,z9,eL,hst,hse,hk],?_⟩;simp only[gnZ,yv,hd,hown,j9,z9,eL,hst,hse,hk]
     ·simp only[gnZ,yv,hd,hown,j9,z9,eL] at h5;rw[z8];refine⟨fun h6=>?_,fun h6=>?_⟩
      ·simp only[gnZ,yv,hd,hown,j9,z9,eL,hst,fnD,uD,gnD] at h6;have ec:apC s d M=(13,(zr s M).2.2):=by
        unfold apC;rw[if_pos he,if_neg h5,if_pos h6]
       rw[ec] at q5⊢;have hk:=q98 q5;rw[qg];refine⟨by simp only[gnZ,yv,hd,hown,j9,z9,eL,hst,hk],?_⟩;simp only[gnZ,yv,hd,hown,j9,z9,eL,hst,hk]
      ·simp only[gnZ,yv,hd,hown,j9,z9,eL,hst,fnD,kZ,decide_eq_false_iff_not] at h6;have ec:apC s d M=qa6 (apN (zr s M).2.2 (zr s M).1) d.n ⟨5,((zr s M).2.2.cs.length:Nat)⟩:=by
        unfold apC;rw[if_pos he,if_neg h5,if_neg (by rintro(h|h);exact h6.1 h;exact h6.2 h)]
       rw[ec] at q5⊢;have q1':qbw (apN (zr s M).2.2 (zr s M).1)=true:=q1;have hse:=qhi q1' d.n ⟨5,((zr s M).2.2.cs.length:Nat)⟩;have hk:=q98 q5;have hap:=zes (zr s M).2.2 (zr s M).1;rw[qg];refine⟨by simp only[gnZ,yv,hd,hown,j9,z9,eL,hst];exact⟨by omega,by omega⟩,?_⟩;rw[qg];refine⟨by simp only[gnZ,yv,hd,hown,j9,z9,eL,hst,z3t];omega,?_⟩;rw[qg];refine⟨by simp only[gnZ,yv,hd,hown,j9,z9,eL,hst,z3t,zds,qb4,hap,hse],?_⟩;rw[qg];refine⟨by simp only[gnZ,yv,hd,hown,j9,z9,eL,hst,z3t,zds,qb4,hap,hse,hk],?_⟩;simp only[gnZ,yv,hd,hown,j9,z9,eL,hst,z3t,zds,qb4,hap,hse,hk]
variable{x:Ce}
section
section
variable{s:So}{a:Int}{c:Ce}
theorem q4z(i:Int):inS (q3v s a c) i=inS s i:=by simp[inS,q3v]
theorem qj1(h:inS s a=true)(hi:inS s i=true):cellAt (q3v s a c) i=if i=a then jl c else cellAt s i:=by
 have h1:=qi.1 h;have h2:=qi.1 hi;unfold cellAt q3v;by_cases e:i=a
 ·subst e;rw[if_pos rfl,gnG,List.getElem?_set_self (by omega)];rfl
 ·rw[if_neg e,gnG,uZ (by omega),←gnG]
theorem qc0(h:inS s a=true)(i:Int):q0d (q3v s a c) i=if i=a then(jl c).t else q0d s i:=by
 cases hi:inS s i with
 |false=>
  rw[q4i (by rw[q4z];exact hi),q4i hi,if_neg];intro e;subst e;rw[h] at hi;cases hi
 |true=>
  rw[zw (by rw[q4z];exact hi),qj1 h hi];split
  ·rfl
  ·rw[zw hi]
structure Sets(s:So)(a:Int)(c:Ce):Prop where
 v:qr s=true
 i:inS s a=true
 old:(cellAt s a).t=0∧(cellAt s a).n=a∨(cellAt s a).t=5∨(cellAt s a).t=2∨(cellAt s a).t=3
 vc:vcR s c=true
 no:qam s (jl c) a=false
theorem qgz(h:vcR s x=true):(jl x).t=0∨(jl x).t=1∨(jl x).t=2∨(jl x).t=3:=by
 unfold jl;split
 ·exact .inl rfl
 ·rename_i h5;rcases zrt h with h|h|h|h|h
  ·exact .inl h
  ·exact .inr (.inl h)
  ·exact .inr (.inr (.inl h))
  ·exact .inr (.inr (.inr h))
  ·exact(h5 h).elim
theorem z13(h:vcR s x=true):vcR s (jl x)=true:=by
 unfold jl;split
 ·rename_i h5;unfold vcR at h;rw[if_neg (by omega),if_neg (by omega),if_neg (by omega),if_neg (by omega),if_pos h5] at h;have ht:q0d s x.n=5:=of_decide_eq_true h;have hi:=q8q (by decide) ht;unfold vcR;rw[if_pos rfl];simp[hi,ht]
 ·exact h
theorem Sets.ne4(h:Sets s a c):(cellAt s a).t≠4∧(cellAt s a).t≠1:=by
 rcases h.old with⟨h0,-⟩|h0|h0|h0<;>omega
theorem zux(h:Sets s a c)(i:Int):q0d (q3v s a c) i=4↔q0d s i=4:=by
 rw[qc0 h.i];split
 ·rename_i e;subst e;have:=qgz h.vc;have:=h.ne4;rw[zw h.i];omega
 ·exact Iff.rfl
theorem qjp(h:Sets s a c)(h5:x.t≠5):vcR (q3v s a c) x=vcR s x:=by
 have e4:∀i,decide (q0d (q3v s a c) i=4)=decide (q0d s i=4):=fun i=>decide_eq_decide.2 (zux h i);unfold vcR;by_cases h0:x.t=0
 ·rw[if_pos h0,if_pos h0,q4z,e4]
 rw[if_neg h0,if_neg h0];by_cases h1:x.t=1
 ·rw[if_pos h1,if_pos h1]
 rw[if_neg h1,if_neg h1];by_cases h2:x.t=2
 ·rw[if_pos h2,if_pos h2];rfl
 rw[if_neg h2,if_neg h2];by_cases h3:x.t=3
 ·rw[if_pos h3,if_pos h3,e4]
 rw[if_neg h3,if_neg h3,if_neg h5,if_neg h5]
theorem zi8(h:Sets s a c){n:Int}(hn:inS s n=true)(hne:n≠a):(Ns (q3v s a c) n↔Ns s n)∧nx (q3v s a c) n=nx s n:=by
 unfold Ns nx;rw[qc0 h.i,qj1 h.i hn,if_neg hne,if_neg hne];exact⟨Iff.rfl,rfl⟩
theorem zph(h:Sets s a c):∀(m:Nat)(n:Int),inS s n=true→q2n s m n=true→q76 s a m ⟨0,n⟩=false→En (q3v s a c) n
 |0,n,_,he,_=>by cases he
 | m + 1, n, hi, he, hc => by
  unfold q76 at hc;rw[if_pos ⟨rfl,hi⟩] at hc;by_cases hna:n=a
  ·rw[if_pos hna] at hc;cases hc
  rw[if_neg hna] at hc;obtain⟨h1,h2⟩:=zi8 h hi hna;by_cases hn:Ns s n
  ·have ht:(cellAt s n).t=0:=by have:=hn.1;rwa [zw hi] at this
   have e:cellAt s n=⟨0,nx s n⟩:=Ce.ext' ht rfl;rw[q0w hn] at he;rw[e] at hc;refine En.ns (h1.2 hn) ?_;rw[h2];exact zph h m _ (zaz h.v hn) he hc
  ·exact En.st fun q=>hn (h1.1 q)
theorem zuv(h:Sets s a c):En (q3v s a c) a:=by
 have hk:=z13 h.vc;by_cases hn:Ns (q3v s a c) a
 ·refine En.ns hn ?_;have e:nx (q3v s a c) a=(jl c).n:=by
   unfold nx;rw[qj1 h.i h.i,if_pos rfl]
  have h0:(jl c).t=0:=by
   have:=hn.1;rwa [qc0 h.i,if_pos rfl] at this
  rw[e];have hi:=(qfk hk h0).1;have e2:jl c=⟨0,(jl c).n⟩:=Ce.ext' h0 rfl;have hno:=h.no;unfold qam at hno;rw[e2] at hno;exact zph h _ _ hi (z2h h.v hi) hno
 ·exact En.st hn
theorem zjf(h:Sets s a c):∀(m:Nat)(n:Int),inS s n=true→q2n s m n=true→En (q3v s a c) n
 |0,n,_,he=>by cases he
 | m + 1, n, hi, he => by
  by_cases hna:n=a
  ·subst hna;exact zuv h
  obtain⟨h1,h2⟩:=zi8 h hi hna;by_cases hn:Ns s n
  ·rw[q0w hn] at he;refine En.ns (h1.2 hn) ?_;rw[h2];exact zjf h m _ (zaz h.v hn) he
  ·exact En.st fun q=>hn (h1.1 q)
theorem qmo(h:Sets s a c)(hg:q2q s i=true):q2q (q3v s a c) i=true:=by
 simp only[q2q,gnB,gnD,uA,decide_eq_false_iff_not] at hg⊢;obtain⟨g1,g2,g3,g4,g5,g6⟩:=hg;have hi1:=q8q (by decide) g1;have hne:i+1≠a:=fun e=>by
  rw[e,zw h.i] at g1;exact h.ne4.2 g1
 rw[qc0 h.i,if_neg hne,qj1 h.i hi1,if_neg hne,qc0 h.i];have hk:=qgz h.vc;refine⟨g1,g2,g3,?_,?_,?_⟩<;>split<;>omega
theorem zhi(h:Sets s a c)(hi:inS s i=true):q34 (q3v s a c) i=true:=by
 have hk:=qgz h.vc;unfold q34;rw[qj1 h.i hi];by_cases hia:i=a
 ·rw[if_pos hia,if_neg (by omega)];simp only[gnB,uD,uA,decide_eq_false_iff_not,gnD];refine⟨?_,?_,.inl (by omega)⟩
  ·rw[qjp h (by omega)];exact z13 h.vc
  ·rw[hia];exact(zuv h).ends
 ·rw[if_neg hia];have hc:=q8o h.v hi;unfold q34 at hc;by_cases h4:(cellAt s i).t=4
  ·rw[if_pos h4] at hc⊢;simp only[gnB,gnD,uV,uT,uA,decide_eq_false_iff_not] at hc⊢;refine⟨hc.1,by rw[q4z];exact hc.2.1,fun j hj=>?_⟩;rw[zux h];exact hc.2.2 j hj
  ·rw[if_neg h4] at hc⊢;simp only[gnB,uD,uA,decide_eq_false_iff_not,gnD] at hc⊢;refine⟨?_,(zjf h _ _ hi (z2h h.v hi)).ends,?_⟩
   ·by_cases h5:(cellAt s i).t=5
    ·have hn:(cellAt s i).n=i:=by
      rcases hc.2.2 with q|q
      ·exact(q h5).elim
      ·exact q.1
     unfold vcR;rw[if_neg (by omega),if_neg (by omega),if_neg (by omega),if_neg (by omega),if_pos h5,hn,qc0 h.i,if_neg hia,zw hi];exact decide_eq_true h5
    ·rw[qjp h h5];exact hc.1
   ·rcases hc.2.2 with q|q
    ·exact .inl q
    ·exact .inr ⟨q.1,qmo h q.2⟩
theorem znh(h:Sets s a c){u:Un}(hu:ql8 s u=true):ql8 (q3v s a c) u=true:=by
 unfold ql8 z5b at hu⊢;simp only[gnB] at hu⊢;refine⟨by rw[q4z];exact hu.1,?_⟩;have h2:=hu.2;by_cases h0:u.old.t=0
 ·rw[if_pos h0] at h2⊢;exact h2
 rw[if_neg h0] at h2⊢;by_cases h5:u.old.t=5
 ·rw[if_pos h5] at h2⊢;simp only[gnB,gnD,uA,decide_eq_false_iff_not] at h2⊢;refine⟨h2.1,qmo h h2.2.1,?_⟩;rw[qc0 h.i];have:=qgz h.vc;split
  ·omega
  ·exact h2.2.2
 rw[if_neg h5] at h2⊢;by_cases h1:u.old.t=1∨u.old.t=2∨u.old.t=3
 ·rw[if_pos h1] at h2⊢;rw[qjp h h5];exact h2
 ·rw[if_neg h1] at h2;cases h2
theorem zlk(h:Sets s a c):ql8 (q3v s a c) ⟨a,cellAt s a⟩=true:=by
 unfold ql8 z5b;simp only[q4z,h.i,vT];rcases h.old with⟨h0,hn⟩|h5|h23
 ·rw[if_pos h0,hn];simp
 ·rw[if_neg (by omega),if_pos h5];have hc:=q8o h.v h.i;unfold q34 at hc;rw[if_neg (by omega)] at hc;simp only[gnB,uD,uA,decide_eq_false_iff_not,gnD] at hc;obtain⟨hn,hg⟩:(cellAt s a).n=a∧q2q s a=true:=by
   rcases hc.2.2 with q|q
   ·exact(q h5).elim
   ·exact q
  simp only[gnB,gnD,uA,decide_eq_false_iff_not];refine⟨hn,qmo h hg,?_⟩;rw[qc0 h.i];have hk:=qgz h.vc;split
  ·omega
  ·intro h1;have hi1:=q8q (by decide) h1;rw[zw hi1] at h1;have hc1:=q8o h.v hi1;unfold q34 at hc1;rw[if_neg (by omega)] at hc1;simp only[gnB,uD,uA,decide_eq_false_iff_not,gnD] at hc1;rcases hc1.2.2 with q|q
   ·exact q h1
   ·have:=q.2;simp only[q2q,gnB,gnD] at this;have h2:=this.1;rw[show a - 1+1=a by omega,zw h.i] at h2;omega
 ·have h1:(cellAt s a).t=1∨(cellAt s a).t=2∨(cellAt s a).t=3:=.inr h23;rw[if_neg (by omega),if_neg (by omega),if_pos h1,qjp h (by omega)];exact qz4 h.v h.i (by omega)
def qei(s:So):Bool:=(kH s.wk.length).all fun i=> !decide ((s.wk.getD i default).att.t=5)&& !decide ((s.wk.getD i default).val.t=5)
def q3d(s:So):Bool:=qei s&&qr s
theorem q14{s:So}:qr s=true↔q5b s=true∧(∀i,inS s i=true→q34 s i=true)∧(∀u∈s.tr,ql8 s u=true)∧∀w∈s.wk,wkB vcR s w=true:=by
 constructor
 ·intro h;refine⟨qho h,fun i hi=>q8o h hi,fun u hu=>?_,fun w hw=>?_⟩
  ·simp only[qr,gnB] at h;obtain⟨k,hk,rfl⟩:=uP hu;have:=q9i h.2.2.1 (k:=k) hk;rwa [gnG,gnK hk] at this
  ·simp only[qr,gnB] at h;obtain⟨k,hk,rfl⟩:=uP hw;have:=q9i h.2.2.2 (k:=k) hk;rwa [gnG,gnK hk] at this
 ·rintro⟨h1,h2,h3,h4⟩;simp only[qr,gnB];refine⟨h1,q3k fun k hk=>h2 _ (qi.2 ⟨by omega,by omega⟩),q3k fun k hk=>h3 _ (q1y hk),q3k fun k hk=>h4 _ (q1y hk)⟩
theorem qdd{s:So}:qei s=true↔∀w∈s.wk,w.att.t≠5∧w.val.t≠5:=by
 constructor
 ·intro h w hw;obtain⟨k,hk,rfl⟩:=uP hw;have:=q9i h (k:=k) hk;rw[gnG,gnK hk] at this;simpa using this
 ·intro h;refine q3k fun k hk=>?_;have:=h _ (q1y hk);rw[decide_eq_false this.1,decide_eq_false this.2];rfl
theorem zth(h:Sets s a c){w:Wk}(hk:w.att.t≠5∧w.val.t≠5)(hw:wkB vcR s w=true):wkB vcR (q3v s a c) w=true:=by
 unfold wkB at hw⊢;rw[qjp h hk.1,qjp h hk.2];exact hw
theorem qs7(h:Sets s a c)(hk:qei s=true):q3d (q3v s a c)=true:=by
 obtain⟨h1,h2,h3,h4⟩:=q14.1 h.v;have hk':=qdd.1 hk;unfold q3d;rw[gnB];refine⟨hk,q14.2 ⟨?_,fun i hi=>zhi h (by rw[q4z] at hi;exact hi),fun u hu=>?_,fun w hw=>zth h (hk' w hw) (h4 w hw)⟩⟩
 ·have e:(q3v s a c).cs.length=s.cs.length:=by simp[q3v]
  unfold q5b at h1⊢;rw[e];exact h1
 ·have hu:u∈s.tr++[⟨a,cellAt s a⟩]:=hu;rcases uM.1 hu with hu|hu
  ·exact znh h (h3 u hu)
  ·rw[uK.1 hu];exact zlk h
theorem zbw(s:So)(l:List Wk):∀(k:Nat)(n:Int),q2n {s with wk:=l} k n=q2n s k n
 |0,n=>rfl
 | k + 1, n => by
  by_cases hn:Ns s n
  ·rw[q0w hn,q0w (s:={s with wk:=l}) hn];exact zbw s l k _
  ·rw[q3r hn,q3r (s:={s with wk:=l}) hn]
theorem zbp(s:So)(l:List Wk)(i:Int):q34 {s with wk:=l} i=q34 s i:=by
 have e:qcy {s with wk:=l} i=qcy s i:=zbw s l _ i;unfold q34;rw[e];rfl
theorem zl2{s:So}(h:q3d s=true){w:Wk}(hk:w.att.t≠5∧w.val.t≠5)(hw:wkB vcR s w=true):q3d {s with wk:=s.wk++[w]}=true:=by
 unfold q3d at h;rw[gnB] at h;obtain⟨h1,h2,h3,h4⟩:=q14.1 h.2;have hk':=qdd.1 h.1;unfold q3d;rw[gnB];refine⟨qdd.2 fun x hx=>?_,q14.2 ⟨h1,fun i hi=>(zbp s _ i).trans (h2 i hi),h3,fun x hx=>?_⟩⟩
 ·rcases uM.1 hx with hx|hx
  ·exact hk' x hx
  ·rw[uK.1 hx];exact hk
 ·rcases uM.1 hx with hx|hx
  ·exact h4 x hx
  ·rw[uK.1 hx];exact hw
end
end
theorem z7j{s:So}{t:Te}{l:List Vc}(hc:s.cs.length≤500000)(hy:s.ys.length≤500000)(hk:t.k≠0):qi2 s t l=true:=by
 unfold qi2;cases hv:(yj t&&vvP s l)
 ·rfl
 ·simp only[gnB] at hv;have ht:=hv.1;simp only[yj,gnB,gnD] at ht;have h1:=qk9 t;have h2:=qgv t s.ys [];have h3:=qv6 t s.ys [];rw[kF] at h3;have h3':=congrArg kB h3;rw[uE] at h3';simp only[uQ] at h2;have h4:q6g t l≤q63 t+1:=by
   unfold q6g;split<;>omega
  have hA:qix s l t (-1)=true:=by
   simp only[qix,gnB,gnD];exact⟨ht.2,(qa9.1 hv.2).1,by rw[if_pos (by decide)];omega,fun _ h=>absurd h hk,by omega,by decide⟩
  have e1:s.cs.length≤1048576:=by omega
  have e2:s.ys.length≤1048576:=by omega
  simp[e1,e2,hA]
theorem zwm(l:List At):(apT l).k≠0:=by
 unfold apT;cases qh0 l with
 |nil=>decide
 |cons x m=>exact fun h=>by cases h
def zcr(s:So):Prop:=s.cs.length≤400000∧s.ys.length≤400000∧s.tr.length≤400000∧s.wk.length≤400000
theorem zf9{s:So}(h:zcr s)(l:List At):apQ s l=true∧zfl s (zr s l).2.2:=by
 have hq:=z7j (l:=vsA l) (t:=apT l) (s:=s) (by have:=h.1;omega) (by have:=h.2.1;omega) (zwm l);exact⟨hq,qmy hq⟩
theorem z6q(s:So)(a:Int)(c:Ce):(qa6 s a c).2.cs.length=s.cs.length∧(qa6 s a c).2.ys=s.ys∧s.tr.length≤(qa6 s a c).2.tr.length:=by
 unfold qa6;split
 ·simp[q3v]
 ·exact⟨rfl,rfl,uO _⟩
theorem zig{s s':So}(h:zcr s)(hg:zfl s s'):qbw s'=true:=by
 obtain⟨h1,h2,h3,h4⟩:=h;obtain⟨⟨g1,g2,g3,g4,g5,g6⟩,g7⟩:=hg;simp only[qbw,gnB,gnD];rw[g4,g5];exact⟨by omega,by omega⟩
theorem zv8{s:So}(h:zcr s)(hse: -9223372036854775808≤s.ser)(d:Ce)(l:List At):zgk s d l=true:=by
 obtain⟨hq,hg⟩:=zf9 h l;have hr:=zig h hg;obtain⟨⟨g1,g2,g3,g4,g5,g6⟩,g7⟩:=hg;have h1:=h.1;unfold zgk;simp only[gnB,gnD];refine⟨hr,by omega,by omega,?_⟩;unfold zp3;simp only[uD,gnB,gnD];right;unfold apC;split
 ·split
  ·obtain⟨k1,k2,k3⟩:=z6q (zr s l).2.2 (d.n+2) (zr s l).1;rw[k1,k2];rw[g4] at k3;exact⟨g1,g2,k3⟩
  ·split
   ·exact⟨g1,g2,by rw[g4];exact uO _⟩
   ·obtain⟨k1,k2,k3⟩:=z6q (apN (zr s l).2.2 (zr s l).1) d.n ⟨5,((zr s l).2.2.cs.length:Nat)⟩;rw[k1,k2];have e1:(apN (zr s l).2.2 (zr s l).1).cs.length=(zr s l).2.2.cs.length+3:=by simp[apN]
    have e2:(apN (zr s l).2.2 (zr s l).1).tr=(zr s l).2.2.tr:=rfl;rw[e2,g4] at k3;exact⟨by rw[e1];omega,g2,k3⟩
 ·exact⟨g1,g2,by rw[g4];exact uO _⟩
theorem zjq{s:So}(h:zcr s):zl5 s=true∧qbw s=true:=by
 obtain⟨h1,h2,h3,h4⟩:=h;simp only[zl5,qbw,gnB,gnD];exact⟨by omega,by omega,by omega⟩
theorem zoa{s:So}(h:zcr s)(hse: -9223372036854775808≤s.ser)(v:Ce)(nm:ByteArray)(val:Ce):apO s v nm val=true:=by
 obtain⟨h1,h2⟩:=zjq h;unfold apO;rw[h1,h2,(zf9 h _).1,zv8 h hse];simp
theorem z6d{s:So}{l:List At}(hv:qr s=true)(he:(zr s l).2.1=0):∃all,PutOk s (apT l) (vsA l) (zr s l).1 all (zr s l).2.2:=by
 unfold zr at he⊢;simp only[qo8 hv] at he⊢;unfold qw3 at he⊢;split at he
 ·rename_i h;split at he
  ·rename_i hr;have h':=h;simp only[gnB] at h;simp only[if_pos h',if_pos hr];exact⟨_,zev hv h.1 h.2 hr⟩
  ·exact absurd (show(13:Int)=0 from he) (by decide)
 ·exact absurd (show(1:Int)=0 from he) (by decide)
variable{f:Int→Ce}
theorem zvz{t:Te}(h:Rh S f t c)(hk:t.k=2∨t.k=3):c.t=2∨c.t=3:=by
 obtain⟨k,n,nm,l⟩:=t;rw[Rh] at h;simp only[Te.k] at hk;rcases h with⟨h,-⟩|⟨h,-⟩|⟨-,q,-⟩|⟨-,q,-⟩
 ·omega
 ·omega
 ·exact .inl q
 ·exact .inr q
theorem zqm(l:List At):(apT l).k=2∨(apT l).k=3:=by
 unfold apT;cases qh0 l with
 |nil=>exact .inl rfl
 |cons x m=>exact .inr rfl
theorem z6s{a:Int}(h:¬c.t=0):∀k,q76 S a k c=false
 |0=>rfl
 |k+1=>by
  unfold q76;rw[if_neg fun q=>h q.1]
theorem zp6{s:So}{l:List At}(hv:qr s=true)(he:(zr s l).2.1=0){d:Ce}(hd:vcR s d=true)(h5:d.t=5)(hst:z40 s d.n=true):q5d vcP q41 (zr s l).2.2 (d.n+2) (zr s l).1=true:=by
 obtain⟨all,P⟩:=z6d hv he;obtain⟨a1,a2,a3,-⟩:=qmv hv hd h5;have hc:=zvz P.rep (zqm l);obtain⟨b1,b2⟩:=P.ext.inS a1;obtain⟨b3,b4⟩:=P.ext.inS a3;have hv2:=P.valid;have hvc:=P.vc;generalize (zr s l).2.2=S at *;generalize (zr s l).1=c at *;have hn:=(qi.1 a1).1;have hb:behind S (d.n+2)=true:=by
  have e:d.n+2 - 2=d.n:=by omega
  simp only[behind,e,b2,a2,h5,gnB,gnD];exact⟨by omega,trivial⟩
 have hs:q41 S (d.n+2)=true:=by
  unfold q41;rw[b4];unfold z40 at hst;simp only[uD,gnD] at hst;rcases hst with h|h|h|h
  ·rw[if_neg (by omega),if_neg (by omega),if_pos (.inl h)];exact hb
  ·rw[if_neg (by omega),if_neg (by omega),if_pos (.inr (.inl h))];exact hb
  ·rw[if_neg (by omega),if_neg (by omega),if_pos (.inr (.inr h))];exact hb
  ·rw[h];simp
 have hk:jl c=c:=by
  unfold jl;rw[if_neg (by omega)]
 unfold q5d qam;rw[b3,zml hv2,hvc,hs,hk,z6s (by omega)];rfl
theorem z6v(S:So)(c:Ce):cellAt (apN S c) (S.cs.length:Nat)=⟨5,(S.cs.length:Nat)⟩∧inS (apN S c) (S.cs.length:Nat)=true:=by
 refine⟨?_,qi.2 ⟨by omega,by simp[apN];omega⟩⟩;simp[cellAt,apN,gnG]
theorem z4m(c:Ce)(h:inS S i=true):inS (apN S c) i=true∧cellAt (apN S c) i=cellAt S i:=by
 obtain⟨h1,h2⟩:=qi.1 h;refine⟨qi.2 ⟨h1,by simp[apN];omega⟩,?_⟩;simp only[cellAt,apN,gnG];rw[uJ (by omega)]
theorem zl0{s:So}{l:List At}(hv:qr s=true)(he:(zr s l).2.1=0){d:Ce}(hi:inS s d.n=true)(hd:cellAt s d.n=d)(h0:d.t=0):
  q5d vcP q41 (apN (zr s l).2.2 (zr s l).1) d.n ⟨5,((zr s l).2.2.cs.length:Nat)⟩=true∧q5d vcR zh6 (apN (zr s l).2.2 (zr s l).1) d.n ⟨5,((zr s l).2.2.cs.length:Nat)⟩=true:=by
 obtain⟨all,P⟩:=z6d hv he;obtain⟨b1,b2⟩:=P.ext.inS hi;generalize (zr s l).2.2=S at *;generalize (zr s l).1=c at *;obtain⟨c1,c2⟩:=z4m c b1;obtain⟨n1,n2⟩:=z6v S c;have hlt:=(qi.1 b1).2;have ht:q0d (apN S c) (S.cs.length:Nat)=5:=by
  unfold q0d;rw[if_pos n2,n1]
 have hp:vcP (apN S c) ⟨5,(S.cs.length:Nat)⟩=true:=by simp[vcP,ht]
 have hr:vcR (apN S c) ⟨5,(S.cs.length:Nat)⟩=true:=by simp[vcR,ht]
 have hsp:q41 (apN S c) d.n=true:=by
  unfold q41;rw[c2,b2,hd,if_pos h0];simp
 have hsr:zh6 (apN S c) d.n=true:=by
  unfold zh6;rw[c2,b2,hd,if_pos (.inl h0)];simp
 have hcm:qam (apN S c) (jl ⟨5,(S.cs.length:Nat)⟩) d.n=false:=by
  have hk:jl ⟨5,(S.cs.length:Nat)⟩=⟨0,(S.cs.length:Nat)⟩:=rfl;unfold qam;rw[hk];unfold q76;rw[if_pos ⟨rfl,n2⟩,if_neg (by show ¬((S.cs.length:Nat):Int)=d.n;omega),n1];exact z6s (show ¬(5:Int)=0 by decide) _
 unfold q5d;rw[c1,hp,hr,hsp,hsr,hcm];exact⟨rfl,rfl⟩
variable{α:Type}
theorem z6x[DecidableEq α]:∀{l m:List α},l.Nodup→(∀x∈l,x∈m)→l.length≤m.length
 |[],m,_,_=>Nat.zero_le _
 |a::l,m,h,hs=>by
  obtain⟨h1,h2⟩:=kR.1 h;have ha:=hs a uF;have:=z6x (m:=m.erase a) h2 fun x hx=>(List.mem_erase_of_ne (fun e=>by rw[e] at hx;exact h1 hx)).2 (hs x (uB _ hx));rw[List.length_erase_of_mem ha] at this;have hp:=List.length_pos_of_mem ha;simp only[uC];omega
def NmS(N:List ByteArray)(s:So):Prop:=∀y∈s.ys,y.name∈N
variable{N:List ByteArray}
theorem zk7{s:So}(h:NmS N s){tl vl:Ce}(hn:q5k s c=some (nm,tl,vl)):nm∈N:=by
 unfold q5k at hn;split at hn
 ·split at hn
  ·split at hn
   ·rename_i ha;simp only[gnS] at hn;obtain⟨rfl,-,-⟩:=hn;unfold qf0 at ha;simp only[gnB,gnD] at ha;refine h _ ?_;rw[gnG,gnK (by omega)];exact kP _
   ·cases hn
  ·cases hn
 ·cases hn
theorem z3l{met:List ByteArray}:hasB met nm=true↔nm∈met:=by
 unfold hasB;simp
theorem z3h{s:So}(h:NmS N s):∀(k:Nat)(c:Ce)(met:List ByteArray),(∀x∈q3x s k c met,x.name∉met∧x.name∈N)∧((q3x s k c met).map At.name).Nodup
 |0,c,met=>⟨fun x hx=>(nomatch hx),vQ⟩
 | k + 1, c, met => by
  unfold q3x;split
  ·exact⟨fun x hx=>(by cases hx),vQ⟩
  ·rename_i nm tl vl hn;obtain⟨h1,h2⟩:=z3h h k tl (nm::met);have hnm:=zk7 h hn;cases hb:hasB met nm with
   |true=>
    simp only[if_true,kS];exact⟨fun x hx=>⟨fun hm=>(h1 x hx).1 (uB _ hm),(h1 x hx).2⟩,h2⟩
   | false =>
    simp only[gnF,if_false,vL,kS,uW];refine⟨fun x hx=>?_,kR.2 ⟨fun hm=>?_,h2⟩⟩
    ·rcases uG.1 hx with rfl|hx
     ·refine⟨fun hm=>?_,hnm⟩;rw[z3l.2 hm] at hb;cases hb
     ·exact⟨fun hm=>(h1 x hx).1 (uB _ hm),(h1 x hx).2⟩
    ·obtain⟨x,hx,e⟩:=kA.1 hm;exact(h1 x hx).1 (by rw[e];exact uF)
theorem za5{s:So}(h:NmS N s)(c:Ce):(yz s c).length≤N.length∧∀x∈yz s c,x.name∈N:=by
 obtain⟨h1,h2⟩:=z3h h s.cs.length c [];have:=z6x (m:=N) h2 fun nm hm=>by
  obtain⟨x,hx,rfl⟩:=kA.1 hm;exact(h1 x hx).2
 rw[uI] at this;exact⟨this,fun x hx=>(h1 x hx).2⟩
theorem qdo(nm:ByteArray):(∃a,q1i nm=.mk 3 0 q7l [a,.mk 0 0 ⟨#[]⟩ [],.mk 0 1 ⟨#[]⟩ []]∧(a=.mk 2 0 nm []∨a=zT))∨q1i nm=zT:=by
 have e0:vaT 0=.mk 0 0 ⟨#[]⟩ []:=rfl;have e1:vaT 1=.mk 0 1 ⟨#[]⟩ []:=rfl;unfold q1i q8x;rw[if_neg (by simp),e0,e1];unfold qg3;split
 ·refine .inl ⟨q39 nm,rfl,?_⟩;unfold q39;split
  ·exact .inl rfl
  ·exact .inr rfl
 ·exact .inr rfl
theorem qzr(nm:ByteArray):q63 (q1i nm)≤4:=by
 rcases qdo nm with⟨a,h,h2⟩|h
 ·rw[h];rcases h2 with rfl|rfl<;>simp[q63,q17,zT]
 ·rw[h];simp[q63,zT]
theorem z06(nm:ByteArray)(ys:List Sy):(q38 ys (q1i nm)).length≤ys.length+4:=by
 have h1:=qv6 (q1i nm) ys [];rw[kF] at h1;have h2:=qgv (q1i nm) ys [];have h3:szT (q1i nm)≤4:=by
  rcases qdo nm with⟨a,h,h2⟩|h
  ·rw[h];rcases h2 with rfl|rfl<;>simp[szT,q04,zT]
  ·rw[h];simp[szT,q04,zT]
 rw[←h1,uE];simp only[uQ] at h2;omega
theorem z9l{y:Sy}(h:∀y∈ys,y.name∈N)(hy:y.name∈N):∀z∈qd8 ys y,z.name∈N:=fun z hz=>by
 unfold qd8 at hz;split at hz
 ·exact h z hz
 ·rcases uM.1 hz with hz|hz
  ·exact h z hz
  ·obtain rfl:z=y:=by simpa using hz
   exact hy
theorem zia(h:∀y∈ys,y.name∈N)(h1:q7l∈N)(h2:nm∈N):∀z∈q38 ys (q1i nm),z.name∈N:=by
 have hX:=z9l (y:=⟨q7l,3⟩) h h1;rcases qdo nm with⟨a,e,ha⟩|e
 ·rw[e];rcases ha with rfl|rfl
  ·have hX2:=z9l (y:=⟨nm,0⟩) hX h2;simpa[q38,q15] using hX2
  ·simpa[q38,q15,zT] using hX
 ·rw[e];simpa[q38,q15,zT] using h
variable{wv:Ce}
theorem qyq{s:So}(hc:s.cs.length≤500000)(hy:s.ys.length≤500000):qi2 s (q1i nm) (q5g x wv)=true:=by
 unfold qi2;cases hv:(yj (q1i nm)&&vvP s (q5g x wv))
 ·rfl
 ·simp only[gnB] at hv;have ht:=hv.1;simp only[yj,gnB,gnD] at ht;have h1:=qzr nm;have h2:=z06 nm s.ys;have h4:q6g (q1i nm) (q5g x wv)≤q63 (q1i nm)+1:=by
   unfold q6g;split<;>omega
  have hA:qix s (q5g x wv) (q1i nm) (-1)=true:=by
   simp only[qix,gnB,gnD];refine⟨ht.2,(qa9.1 hv.2).1,by rw[if_pos (by decide)];omega,fun _ hk he=>?_,by omega,by decide⟩;rcases qdo nm with⟨a,e,ha⟩|e
   ·rw[e] at hk;cases hk
   ·rw[e] at he;have:ofV (q5g x wv) 0=none:=he;simp[q5g,ofV] at this
  have e1:s.cs.length≤1048576:=by omega
  have e2:s.ys.length≤1048576:=by omega
  simp[e1,e2,hA]
structure SmG(N:List ByteArray)(n:Nat)(s s':So):Prop where
 cs:s'.cs.length≤s.cs.length+5 * n
 ys:s'.ys.length≤s.ys.length+4 * n
 nm:NmS N s'
theorem z42{s:So}{x:At}(hc:s.cs.length≤500000)(hy:s.ys.length≤500000)(hn:NmS N s)(h1:q7l∈N)(h2:x.name∈N):SmG N 1 s (z5 wv s x).2.2.2:=by
 have hq:=qyq (s:=s) (nm:=x.name) (x:=x.val) (wv:=wv) hc hy;have h0:SmG N 1 s s:=⟨by omega,by omega,hn⟩;unfold z5 qiz;split
 ·rename_i h;split
  ·rename_i hr;have h':=h;simp only[gnB] at h;unfold qi2 at hq;rw[h',hr] at hq;simp only[Bool.not_true,vU,gnB] at hq;have hA:=hq.2.2;simp only[qix,gnB,gnD] at hA;obtain⟨q1,q2,q3,q4⟩:=q45 (q1i x.name) (s,q5g x.val wv) (-1) hA.1 hA.2.1;have h5:=qzr x.name;have h6:q6g (q1i x.name) (q5g x.val wv)≤q63 (q1i x.name)+1:=by
    unfold q6g;split<;>omega
   rw[if_pos (by decide)] at q1;have h7:=z06 x.name s.ys;have q1':(zm (s,q5g x.val wv) (q1i x.name) (-1)).2.1.cs.length=s.cs.length+q6g (q1i x.name) (q5g x.val wv):=q1;refine⟨by show(zm (s,q5g x.val wv) (q1i x.name) (-1)).2.1.cs.length≤_;omega,by rw[q2];show(q38 s.ys _).length≤_;omega,?_⟩;intro y hy';rw[q2] at hy';exact zia hn h1 h2 y hy'
  ·exact h0
 ·exact h0
theorem qox(h1:q7l∈N)(wv:Ce):∀(l:List At)(s:So)(o:List Ce),(∀x∈l,x.name∈N)→NmS N s→s.cs.length+5 * l.length≤500000→s.ys.length+4 * l.length≤500000→qcm wv s l=true∧SmG N l.length s (zz wv s o l).1
 |[],s,o,_,hn,_,_=>⟨rfl,⟨by simp[zz],by simp[zz],hn⟩⟩
 | x :: l, s, o, hl, hn, hc, hy => by
  simp only[uC] at hc hy;have hs:=z42 (wv:=wv) (x:=x) (by omega) (by omega) hn h1 (hl x uF);obtain⟨s1,s2,s3⟩:=hs;obtain⟨i1,i2⟩:=qox h1 wv l (z5 wv s x).2.2.2 (o++[(z5 wv s x).1]) (fun y hy=>hl y (uB _ hy)) s3 (by omega) (by omega);have hq:=qyq (s:=s) (nm:=x.name) (x:=x.val) (wv:=wv) (by omega) (by omega);refine⟨by rw[qcm,hq,i1];simp,?_⟩;unfold zz;split
  ·obtain⟨j1,j2,j3⟩:=i2;exact⟨by simp only[uC];omega,by simp only[uC];omega,j3⟩
  ·exact⟨by simp only[uC];show(z5 wv s x).2.2.2.cs.length≤_;omega,by simp only[uC];show(z5 wv s x).2.2.2.ys.length≤_;omega,s3⟩
theorem qoj(h1:q7l∈N):∀(l:List Wk)(s:So)(o:List Ce),NmS N s→s.cs.length+l.length * (5 * N.length)≤500000→s.ys.length+l.length * (4 * N.length)≤500000→qcf s o l=true
 |[],s,o,_,_,_=>rfl
 |w::l,s,o,hn,hc,hy=>by
  simp only[uC,Nat.add_mul,Nat.one_mul] at hc hy;obtain⟨a1,a2⟩:=za5 hn w.att;obtain⟨b1,⟨b2,b3,b4⟩⟩:=qox h1 w.val (yz s w.att) s o a2 hn (by omega) (by omega);have ih:=qoj h1 l (zz w.val s o (yz s w.att)).1 (zz w.val s o (yz s w.att)).2.1 b4 (by omega) (by omega);have hd:s.cs.length≤1048576:=by omega
  unfold qcf;rw[b1,ih];simp[hd]
def ItS(S:So)(a:At)(h:Ce):Prop:=h.t=3∧∃p y:Nat,h.n=(p:Int)∧S.cs[p]? =some ⟨4,y⟩∧S.ys[y]? =some ⟨⟨#[45]⟩,2⟩∧(∃k,S.cs[p+1]? =some k∧k.t=2∧∃z:Nat,k.n=(z:Int)∧S.ys[z]? =some ⟨a.name,0⟩)∧S.cs[p+2]? =some a.val
def LsA(S:So):List At→Ce→Prop
 |[],c=>c.t=2
 |a::l,c=>c.t=3∧∃p y:Nat,c.n=(p:Int)∧S.cs[p]? =some ⟨4,y⟩∧S.ys[y]? =some ⟨⟨#[46]⟩,2⟩∧(∃h,S.cs[p+1]? =some h∧ItS S a h)∧∃c',S.cs[p+2]? =some c'∧LsA S l c'
theorem zbn(h:¬c.t=0):∀k,z0u S k c=c
 |0=>rfl
 |k+1=>by
  unfold z0u;rw[if_neg fun q=>h q.1]
theorem z0e(h:¬c.t=0)(hv:vcP S c=true):jk S c=c:=by
 unfold jk;rw[if_pos hv,zbn h]
theorem z3o{p y:Nat}(h3:c.t=3)(hn:c.n=(p:Int))(hc:S.cs[p]? =some ⟨4,y⟩):jk S c=c:=by
 obtain⟨h1,h2⟩:=cell_of hc;refine z0e (by omega) ?_;unfold vcP;rw[if_neg (by omega),if_neg (by omega),if_neg (by omega),if_pos h3,hn,zw h1,h2];rfl
theorem ze7{z:Nat}(h2:c.t=2)(hn:c.n=(z:Int))(hy:S.ys[z]? =some ⟨nm,0⟩):jk S c=c:=by
 refine z0e (by omega) ?_;unfold vcP;rw[if_neg (by omega),if_neg (by omega),if_pos h2,hn,(qw6 hy).1];rfl
theorem z4j(h1:c.t=1):jk S c=c:=by
 refine z0e (by omega) ?_;unfold vcP;rw[if_neg (by omega),if_pos h1]
theorem getD_some{l:List α}{k:Nat}{x d:α}(h:l[k]? =some x):l.getD k d=x:=by
 rw[gnG,h];rfl
theorem zbh{a b:Ce}{p y:Nat}(h3:c.t=3)(hn:c.n=(p:Int))(hc:S.cs[p]? =some ⟨4,y⟩)(hy:S.ys[y]? =some ⟨nm,2⟩)(h1:S.cs[p+1]? =some a)(h2:S.cs[p+2]? =some b):qfl S c nm=true∧cellAt S (c.n+1)=a∧cellAt S (c.n+2)=b:=by
 obtain⟨i1,e1⟩:=cell_of hc;obtain⟨i2,e2⟩:=cell_of h1;obtain⟨i3,e3⟩:=cell_of h2;have n1:((p:Nat):Int)+1=((p+1:Nat):Int):=by omega
 have n2:((p:Nat):Int)+2=((p+2:Nat):Int):=by omega
 have hl:=(gnH.1 hy).1;rw[hn,n1,n2];refine⟨q2b.2 ?_,e2,e3⟩;rw[hn,n2,e1];exact⟨h3,i1,i3,rfl,by show(0:Int)≤(y:Nat);omega,by show((y:Nat):Int)<_;omega,getD_some hy⟩
theorem zkw{a:At}{l:List At}(h:LsA S (a::l) c):∃c',q5k S c=some (a.name,c',a.val)∧LsA S l c':=by
 obtain⟨h3,p,y,hn,hc,hy,⟨d,hd,d3,q,z,dn,dc,dy,⟨k,hk,k2,w,kn,ky⟩,hv⟩,c',hc',ht⟩:=h;have e1:=z3o h3 hn hc;obtain⟨a1,a2,a3⟩:=zbh h3 hn hc hy hd hc';have e2:=z3o d3 dn dc;obtain⟨b1,b2,b3⟩:=zbh d3 dn dc dy hk hv;have e3:=ze7 k2 kn ky;have hkb:qf0 S k=true:=by
  have hl:=(gnH.1 ky).1;unfold qf0;rw[kn];simp[k2];omega
 refine⟨c',?_,ht⟩;unfold q5k;rw[e1,if_pos a1,a2,a3,e2,if_pos b1,b2,b3,e3,if_pos hkb,kn,uH,getD_some ky]
theorem zfh(h:LsA S [] c):q5k S c=none:=by
 have h:c.t=2:=h;unfold q5k;rw[if_neg];intro q;have h3:=(q2b.1 q).1;unfold jk at h3;split at h3
 ·rw[zbn (by omega)] at h3;omega
 ·exact absurd h3 (by decide)
theorem z7b:∀(l:List At)(c:Ce)(k:Nat)(met:List ByteArray),LsA S l c→(∀x∈l,x.val.t=1∧x.name∉met)→(l.map At.name).Nodup→l.length≤k→q3x S k c met=l
 |[],c,0,met,h,_,_,_=>rfl
 |[],c,k+1,met,h,_,_,_=>by
  unfold q3x;rw[zfh h]
 |a::l,c,0,met,_,_,_,hk=>absurd hk (Nat.not_succ_le_zero _)
 | a :: l, c, k + 1, met, h, hv, hd, hk => by
  obtain⟨c',e,ht⟩:=zkw h;rw[uW,kR] at hd;have ha:=hv a uF;have hb:hasB met a.name=false:=by
   cases q:hasB met a.name with
   |false=>rfl
   |true=>exact absurd (z3l.1 q) ha.2
  have ih:=z7b l c' k (a.name::met) ht (fun x hx=>⟨(hv x (uB _ hx)).1,fun q=>?_⟩) hd.2 (by simpa using hk)
  ·unfold q3x;rw[e];simp only[hb,gnF,if_false,ih,z4j ha.1];rw[show jl a.val=a.val from if_neg (by omega)];rfl
  ·rcases uG.1 q with q|q
   ·exact hd.1 (kA.2 ⟨x,hx,q⟩)
   ·exact(hv x (uB _ hx)).2 q
theorem LsA.ext{s:So}(E:Ext s S):∀{l:List At}{c:Ce},LsA s l c→LsA S l c
 |[],c,h=>h
 |a::l,c,⟨h3,p,y,hn,hc,hy,⟨d,hd,d3,q,z,dn,dc,dy,⟨k,hk,k2,w,kn,ky⟩,hv⟩,c',hc',ht⟩=>by
  have up:∀{i:Nat}{x:Ce},s.cs[i]? =some x→S.cs[i]? =some x:=fun h=>(E.cs _ (gnH.1 h).1).trans h;exact⟨h3,p,y,hn,up hc,E.ys _ _ hy,⟨d,up hd,d3,q,z,dn,up dc,E.ys _ _ dy,⟨k,up hk,k2,w,kn,E.ys _ _ ky⟩,up hv⟩,c',up hc',LsA.ext E ht⟩
theorem zb4{n:Int}{l:List Te}(h:Rh S f (.mk 2 n nm l) c):c.t=2∧∃y:Nat,c.n=(y:Int)∧S.ys[y]? =some ⟨nm,0⟩:=by
 rw[Rh] at h;rcases h with⟨h,-⟩|⟨h,-⟩|⟨-,h⟩|⟨h,-⟩
 ·exact absurd h (by decide)
 ·exact absurd h (by decide)
 ·exact h
 ·exact absurd h (by decide)
theorem zsv{n:Int}{l:List Te}(h:Rh S f (.mk 0 n nm l) c):c=f n:=by
 rw[Rh] at h;rcases h with⟨-,h⟩|⟨h,-⟩|⟨h,-⟩|⟨h,-⟩
 ·exact h
 all_goals exact absurd h (by decide)
theorem zeu{n:Int}{t u:Te}(h:Rh S f (.mk 3 n nm [t,u]) c):c.t=3∧∃p y:Nat,c.n=(p:Int)∧S.cs[p]? =some ⟨4,y⟩∧S.ys[y]? =some ⟨nm,2⟩∧(∃d,S.cs[p+1]? =some d∧Rh S f t d)∧∃d,S.cs[p+2]? =some d∧Rh S f u d:=by
 rw[Rh] at h;rcases h with⟨h,-⟩|⟨h,-⟩|⟨h,-⟩|⟨-,h3,p,y,h1,h2,h4,h5⟩
 ·exact absurd h (by decide)
 ·exact absurd h (by decide)
 ·exact absurd h (by decide)
 ·rw[Rhs,Rhs] at h5;exact⟨h3,p,y,h1,h2,h4,h5.1,h5.2.1⟩
def itF:Nat→List At→List Te
 |_,[]=>[]
 |i,a::l=>.mk 3 0 ⟨#[45]⟩ [.mk 2 0 a.name [],.mk 0 i ⟨#[]⟩ []]::itF (i+1) l
theorem zuq{i:Nat}{a:At}(h:a.name.size≤100)(hi:i≤1000):itA i a=.mk 3 0 ⟨#[45]⟩ [.mk 2 0 a.name [],.mk 0 i ⟨#[]⟩ []]:=by
 have e1:vaT (i:Int)=.mk 0 i ⟨#[]⟩ []:=by
  unfold vaT;rw[if_pos ⟨by omega,by omega⟩]
 have h':((a.name.size:Nat):Int)≤100:=by omega
 have e2:(ByteArray.mk #[45]).size=1:=rfl;unfold itA q8x;rw[if_neg (by simp),e1,qlo h];unfold qg3;rw[if_pos];generalize ByteArray.mk #[45]=m at e2;simp[yj,szT,q04,z6,j7,q3q,Te.k,Te.n,Te.s,Te.l,h',e2];exact decide_eq_true (by omega)
theorem zhq:∀(l:List At)(i:Nat),(∀a∈l,a.name.size≤100)→i+l.length≤1000→l.mapIdx (fun j a=>itA (i+j) a)=itF i l
 |[],i,_,_=>rfl
 | a :: l, i, h, hi => by
  simp only[uC] at hi;have ih:=zhq l (i+1) (fun x hx=>h x (uB _ hx)) (by omega);have e:(fun(j:Nat)(b:At)=>itA (i+(j+1)) b)=fun j b=>itA (i+1+j) b:=by
   funext j b;rw[show i+(j+1)=i+1+j by omega]
  rw[kO,e,ih,kW,zuq (h a uF) (by omega),itF]
theorem zaq{l:List At}(h:∀a∈l,a.name.size≤100)(hl:l.length≤1000):apT l=liT (itF 0 l) qq4:=by
 unfold apT qh0;rw[←zhq l 0 h (by omega)];simp only[kM]
theorem zpx:∀(l:List At)(i:Nat)(c:Ce),(∀j,j<l.length→f ((i+j:Nat):Int)=(l.getD j default).val)→Rh S f (liT (itF i l) qq4) c→LsA S l c
 |[],i,c,_,h=>(zb4 h).1
 |a::l,i,c,hf,h=>by
  obtain⟨h3,p,y,hn,hc,hy,⟨d,hd,rd⟩,c',hc',rt⟩:=zeu h;obtain⟨d3,q,z,dn,dc,dy,⟨k,hk,rk⟩,v,hv,rv⟩:=zeu rd;obtain⟨k2,w,kn,ky⟩:=zb4 rk;have rv:=zsv rv;have h0:=hf 0 (by simp);rw[kW] at h0;rw[h0] at rv;subst rv;refine⟨h3,p,y,hn,hc,hy,⟨d,hd,d3,q,z,dn,dc,dy,⟨k,hk,k2,w,kn,ky⟩,hv⟩,c',hc',zpx l (i+1) c' (fun j hj=>?_) rt⟩;have:=hf (j+1) (by simpa using hj);rw[show i+1+j=i+(j+1) by omega,this];rfl
theorem zgc:∀(l:List At)(i j:Nat),j<l.length→ofV (l.mapIdx fun k a=>(⟨((i+k:Nat):Int),a.val⟩:Vc)) ((i+j:Nat):Int)=some (l.getD j default).val
 |a::l,i,0,_=>by
  rw[kO,ofV,if_pos rfl];rfl
 | a :: l, i, j + 1, h => by
  rw[kO,ofV,if_neg (by show ¬((i+0:Nat):Int)=_;omega)];have:=zgc l (i+1) j (by simpa using h);rw[show i+(j+1)=i+1+j by omega];have e:(l.mapIdx fun k a=>(⟨((i+(k+1):Nat):Int),a.val⟩:Vc))=l.mapIdx fun k a=>(⟨((i+1+k:Nat):Int),a.val⟩:Vc):=by
   refine congrArg (fun f=>l.mapIdx f) ?_;funext k b;rw[show i+(k+1)=i+1+k by omega]
  rw[e,this];rfl
theorem zsy{s:So}{l:List At}(hv:qr s=true)(he:(zr s l).2.1=0)(hc:∀i,s.cs.length≤i→i<(zr s l).2.2.cs.length→S.cs[i]? =(zr s l).2.2.cs[i]?)(hy:S.ys=(zr s l).2.2.ys)(hn:∀a∈l,a.name.size≤100∧a.val.t=1)(hl:l.length≤1000):LsA S l (zr s l).1:=by
 obtain⟨all,P⟩:=z6d hv he;have hof:=P.of;unfold zr at he hc hy⊢;simp only[qo8 hv] at he hc hy⊢;unfold qw3 at he hc hy⊢;split at he
 ·rename_i h;split at he
  ·rename_i hr;have h':=h;simp only[gnB] at h;simp only[if_pos h',if_pos hr] at hc hy⊢;have hvt:=h.1;simp only[yj,gnB,gnD] at hvt;have ho:=z0q (apT l) (s,vsA l) (-1) hvt.2;obtain⟨rep,-⟩:=qvu (S:=S) (f:=fOf (zm (s,vsA l) (apT l) (-1)).2.2) (P:=fun _=>True) (fun _ _ _ _ _ _ _=>trivial) (apT l) (s,vsA l) (-1) trivial hvt.2 (qa9.1 h.2).1 hc (fun i y hi=>by rw[hy];exact hi) (fun v c h=>qdc h);rw[zaq (fun a ha=>(hn a ha).1) hl] at rep ho;rw[zaq (fun a ha=>(hn a ha).1) hl];refine zpx l 0 _ (fun j hj=>?_) rep;have h1:=zgc l 0 j hj;simp only[kM] at h1⊢;have h2:=ho _ _ h1;rw[qdc h2];refine if_neg ?_;have:=(hn _ (q1y hj)).2;omega
  ·exact absurd (show(13:Int)=0 from he) (by decide)
 ·exact absurd (show(1:Int)=0 from he) (by decide)
theorem z52(s:So)(m:Int):∀(k:Nat)(n:Int),q2n {s with ser:=m} k n=q2n s k n
 |0,n=>rfl
 | k + 1, n => by
  by_cases hn:Ns s n
  ·rw[q0w hn,q0w (s:={s with ser:=m}) hn];exact z52 s m k _
  ·rw[q3r hn,q3r (s:={s with ser:=m}) hn]
theorem z03{s:So}{m:Int}(hm:s.ser≤m)(h:q2q s i=true):q2q {s with ser:=m} i=true:=by
 unfold q2q at h⊢;rw[gnB,gnB,gnB] at h⊢;refine⟨h.1,h.2.1,?_,h.2.2.2⟩;have:=of_decide_eq_true h.2.2.1;exact decide_eq_true (show(cellAt s (i+1)).n≤m by omega)
theorem ziq{s:So}(h:q3d s=true){m:Int}(hm:s.ser≤m):q3d {s with ser:=m}=true:=by
 unfold q3d at h;rw[gnB] at h;obtain⟨h1,h2,h3,h4⟩:=q14.1 h.2;unfold q3d;rw[gnB];refine⟨h.1,q14.2 ⟨?_,fun i hi=>?_,fun u hu=>?_,fun w hw=>?_⟩⟩
 ·unfold q5b at h1⊢;simp only[gnB,gnD] at h1⊢;exact⟨h1.1,h1.2.1,h1.2.2.1,by omega,h1.2.2.2.2⟩
 ·have hc:=h2 i hi;have e:qcy {s with ser:=m} i=qcy s i:=z52 s m _ i;unfold q34 at hc⊢;by_cases h4:(cellAt s i).t=4
  ·rw[if_pos h4] at hc;rw[if_pos (show(cellAt {s with ser:=m} i).t=4 from h4)];exact hc
  ·rw[if_neg h4] at hc;rw[if_neg (show ¬(cellAt {s with ser:=m} i).t=4 from h4),e];simp only[gnB,uD] at hc⊢;exact⟨hc.1,hc.2.1,hc.2.2.imp id fun q=>⟨q.1,z03 hm q.2⟩⟩
 ·have hu:=h3 u hu;unfold ql8 z5b at hu⊢;rw[gnB] at hu⊢;refine⟨hu.1,?_⟩;have h2:=hu.2;by_cases h0:u.old.t=0
  ·rw[if_pos h0] at h2⊢;exact h2
  rw[if_neg h0] at h2⊢;by_cases h5:u.old.t=5
  ·rw[if_pos h5] at h2⊢;rw[gnB,gnB] at h2⊢;exact⟨h2.1,z03 hm h2.2.1,h2.2.2⟩
  ·rw[if_neg h5] at h2⊢;exact h2
 ·have hw:=h4 w hw;unfold wkB at hw⊢;rw[gnB,gnB] at hw⊢;have:=of_decide_eq_true hw.2.1;exact⟨hw.1,decide_eq_true (show w.ser≤m by omega),hw.2.2⟩
theorem zhp(h:q3d S=true)(hc:vcR S c=true)(h23:c.t=2∨c.t=3)(hm:((S.cs.length+3:Nat):Int)≤S.mx):q3d (apN S c)=true:=by
 have hg:=ziq h (m:=S.ser+1) (by omega);have h0:=h;unfold q3d at hg h0;rw[gnB] at hg h0;have hv:=hg.2;obtain⟨k1,k2,k3,k4⟩:=q14.1 hv;obtain⟨g1,-,-,-⟩:=q14.1 h0.2;have E:Ext {S with ser:=S.ser+1} (apN S c):=⟨fun i hi=>uJ hi,by simp[apN],fun i y hy=>hy⟩;have hl:(apN S c).cs.length=S.cs.length+3:=by simp[apN]
 have c0:(apN S c).cs[S.cs.length]? =some ⟨5,(S.cs.length:Nat)⟩:=by simp[apN]
 have c1:(apN S c).cs[S.cs.length+1]? =some ⟨1,S.ser+1⟩:=by simp[apN]
 have c2:(apN S c).cs[S.cs.length+2]? =some c:=by simp[apN]
 obtain⟨i0,e0⟩:=cell_of c0;obtain⟨i1,e1⟩:=cell_of c1;obtain⟨i2,e2⟩:=cell_of c2;have n1:((S.cs.length:Nat):Int)+1=((S.cs.length+1:Nat):Int):=by omega
 have n2:((S.cs.length:Nat):Int)+2=((S.cs.length+2:Nat):Int):=by omega
 have hE:∀i,inS (apN S c) i=true→(cellAt (apN S c) i).t≠0→qcy (apN S c) i=true:=fun i hi h0=>(En.st fun q=>h0 (by have:=q.1;rwa [zw hi] at this)).ends;have hc':vcR (apN S c) c=true:=E.vc hc;have hser:0≤S.ser:=by
  unfold q5b at g1;simp only[gnB,gnD] at g1;omega
 unfold q3d;rw[gnB];refine⟨hg.1,q14.2 ⟨?_,fun i hi=>?_,fun u hu=>z1b E rfl (k3 u hu),fun w hw=>qrz E rfl (k4 w hw)⟩⟩
 ·unfold q5b at k1⊢;simp only[gnB,gnD] at k1⊢;exact⟨k1.1,k1.2.1,by rw[hl];exact hm,k1.2.2.2.1,k1.2.2.2.2⟩
 ·obtain⟨j1,j2⟩:=qi.1 hi;rw[hl] at j2;by_cases ho:i<S.cs.length
  ·exact qms E hv rfl (qi.2 ⟨j1,ho⟩)
  ·unfold q34;have:i=(S.cs.length:Nat)∨i=((S.cs.length+1:Nat):Int)∨i=((S.cs.length+2:Nat):Int):=by omega
   rcases this with rfl|rfl|rfl
   ·have hgr:q2q (apN S c) (S.cs.length:Nat)=true:=by
     unfold q2q;rw[n1,n2,zw i1,zw i2,e1,e2];simp only[gnB,gnD,uA,decide_eq_false_iff_not];exact⟨trivial,by show(1:Int)≤S.ser+1;omega,by show S.ser+1≤S.ser+1;omega,by omega,by omega,by omega⟩
    rw[e0,if_neg (show ¬(5:Int)=4 by decide),hE _ i0 (by rw[e0];show(5:Int)≠0;decide),hgr];simp[vcR,zw i0,e0]
   ·rw[e1,if_neg (show ¬(1:Int)=4 by decide),hE _ i1 (by rw[e1];show(1:Int)≠0;decide)];simp[vcR]
   ·rw[e2,if_neg (by omega),hE _ i2 (by rw[e2];omega),hc'];have:¬c.t=5:=by omega
    simp[this]
structure HkI(s0:So)(x:Ce)(i:Nat)(L:List At)(a:So):Prop where
 good:q3d a=true
 wk:a.wk=s0.wk
 xi:inS a x.n=true
 x0:x.t=0
 nm:∀y∈L,y.name.size≤100∧y.val.t=1
 nd:(L.map At.name).Nodup
 li:L.length≤i
 ln:L.length≤a.cs.length
 bc:a.cs.length≤s0.cs.length+1+64 * i
 bs:a.ys.length≤s0.ys.length+42 * i
 bt:a.tr.length≤s0.tr.length+i
 st:(L=[]∧cellAt a x.n=x∧a.ser=s0.ser)∨(L≠[]∧∃p:Int,inS a p=true∧inS a (p+2)=true∧cellAt a x.n=⟨0,p⟩∧cellAt a p=⟨5,p⟩∧s0.ser<(cellAt a (p+1)).n∧(cellAt a (p+2)).t=3∧LsA a L (cellAt a (p+2)))
variable{a s0:So}{L:List At}
theorem HkI.v{i:Nat}(h:HkI s0 x i L a):qr a=true:=by
 have:=h.good;unfold q3d at this;rw[gnB] at this;exact this.2
theorem HkI.var{i:Nat}(h:HkI s0 x i L a):(L=[]∧jm a x=(x,true)∧qcg a x=[]∧cellAt a x.n=x∧a.ser=s0.ser)∨∃p:Int,L≠[]∧jm a x=(⟨5,p⟩,true)∧qcg a ⟨5,p⟩=L∧vcR a ⟨5,p⟩=true∧z40 a p=true∧inS a p=true∧inS a (p+2)=true∧cellAt a x.n=⟨0,p⟩∧cellAt a p=⟨5,p⟩∧s0.ser<(cellAt a (p+1)).n∧(cellAt a (p+2)).t=3∧LsA a L (cellAt a (p+2)):=by
 have hx:=h.xi;have h0:=h.x0;have hv:=h.v;have hlen:=(qi.1 hx);rcases h.st with⟨hL,hc,hs⟩|⟨hL,p,p1,p2,p3,p4,p5,p6,p7⟩
 ·refine .inl ⟨hL,?_,by unfold qcg;rw[if_neg (by omega)],hc,hs⟩;have hvx:vcR a x=true:=by
   unfold vcR;rw[if_pos h0,hx,zw hx,hc,h0];rfl
  have hd:q00 a x=x:=z22 hvx (.inr hc);rw[varz hv,hvx,hd,h0];rfl
 ·refine .inr ⟨p,hL,?_,?_,?_,?_,p1,p2,p3,p4,p5,p6,p7⟩
  ·have hvx:vcR a x=true:=by
    unfold vcR;rw[if_pos h0,hx,zw hx,p3];rfl
   have hne:cellAt a p≠⟨0,p⟩:=by
    rw[p4];intro q;have:=congrArg Ce.t q;exact absurd (show(5:Int)=0 from this) (by decide)
   have hnp:¬cellAt a x.n=x:=by
    intro q;rw[p3] at q;have hxp:x.n=p:=by rw[←q]
    rw[hxp] at p3;exact hne p3
   have hd:q00 a x=⟨5,p⟩:=by
    unfold q00;rw[if_pos hvx];unfold qcc;rw[if_pos ⟨h0,hx,hnp⟩,p3];obtain⟨k,hk⟩:∃k,a.cs.length=k+1:=⟨a.cs.length - 1,by omega⟩;rw[hk];unfold qcc;rw[if_pos ⟨rfl,p1,hne⟩]
    show qcc a k (cellAt a p)=_
    rw[p4];exact qve (show(5:Int)≠0 by decide) k
   rw[varz hv,hvx,hd];rfl
  ·unfold qcg;rw[if_pos rfl];exact z7b L _ _ [] p7 (fun y hy=>⟨(h.nm y hy).2,by simp⟩) h.nd h.ln
  ·unfold vcR;simp[zw p1,p4]
  ·unfold z40;simp[p6]
theorem zoo{l:List At}(h:¬q5x l nm<0):((q5x l nm).toNat<l.length∧(q5x l nm).toNat=q5x l nm)∧(l.getD (q5x l nm).toNat default).name=nm:=by
 unfold q5x at h⊢;split at h
 ·rename_i i hi;obtain⟨h1,h2,-⟩:=kJ.1 hi;refine⟨⟨h1,rfl⟩,?_⟩
  show(l.getD i default).name=nm
  rw[gnG,gnK h1];simpa using h2
 ·exact absurd (show(-1:Int)<0 by decide) h
theorem zkr{l:List At}(h:q5x l nm<0):nm∉l.map At.name:=by
 have:=zcv (l:=l.map At.name) (nm:=nm);rw[zrc] at this;exact this.1 h
variable{val:Ce}
theorem ztb{i:Nat}(hn:∀y∈L,y.name.size≤100∧y.val.t=1)(hd:(L.map At.name).Nodup)(hs:nm.size≤100)(hv:val.t=1)(hl:L.length≤i):(∀y∈apL L nm val,y.name.size≤100∧y.val.t=1)∧((apL L nm val).map At.name).Nodup∧(apL L nm val).length≤i+1∧L.length≤(apL L nm val).length∧apL L nm val≠[]:=by
 unfold apL;by_cases hp:q5x L nm<0
 ·rw[if_neg (by omega)];refine⟨fun y hy=>?_,?_,by simp;omega,by simp,by simp⟩
  ·rcases uM.1 hy with hy|hy
   ·exact hn y hy
   ·rw[uK.1 hy];exact⟨hs,hv⟩
  ·rw[vM,vG];refine⟨hd,by simp,fun a ha b hb=>?_⟩;rw[uW,vV,uK] at hb;intro q;rw[q,hb] at ha;exact zkr hp ha
 ·obtain⟨⟨h1,h2⟩,h3⟩:=zoo hp;rw[if_pos (by omega),h3];refine⟨fun y hy=>?_,?_,by simp;omega,by simp,fun q=>?_⟩
  ·rcases List.mem_or_eq_of_mem_set hy with hy|rfl
   ·exact hn y hy
   ·exact⟨hs,hv⟩
  ·have e:(L.set (q5x L nm).toNat ⟨nm,val⟩).map At.name=L.map At.name:=by
    rw[kL];refine kC fun j=>?_;rw[vH];split
    ·rename_i e;subst e;rw[if_pos (by simpa using h1),vI,gnK h1];have:L.getD (q5x L nm).toNat default=L[(q5x L nm).toNat]:=by rw[gnG,gnK h1];rfl
     rw[this] at h3;simp[h3]
    ·rfl
   rw[e];exact hd
  ·have:=congrArg kB q;rw[uN,uQ] at this;omega
theorem z9x:∀(l:List At)(i:Nat),q63 (liT (itF i l) qq4)=6 * l.length
 |[],i=>rfl
 |a::l,i=>by
  rw[itF,liT,zbf,q17,q17,q17,zbf,q17,q17,q17,qj6 (by decide),qj6 (by decide),z9x l (i+1)];simp;omega
theorem zk8:∀(l:List At)(i:Nat),szT (liT (itF i l) qq4)=4 * l.length+1
 |[],i=>rfl
 |a::l,i=>by
  have:=zk8 l (i+1);simp only[itF,liT,szT,q04,uC] at this⊢;omega
theorem ztp{s:So}{l:List At}(hv:qr s=true)(he:(zr s l).2.1=0)(hn:∀a∈l,a.name.size≤100∧a.val.t=1)(hl:l.length≤1000):(zr s l).2.2.cs.length=s.cs.length+6 * l.length∧(zr s l).2.2.ys.length≤s.ys.length+(4 * l.length+1):=by
 obtain⟨all,P⟩:=z6d hv he;have h1:=P.len;rw[zaq (fun a ha=>(hn a ha).1) hl] at h1;have h2:q6g (liT (itF 0 l) qq4) (vsA l)=6 * l.length:=by
  rw[←z9x l 0];cases l with
  |nil=>rfl
  |cons a l=>exact qvn (by decide) _
 rw[h2] at h1;refine⟨h1,?_⟩;unfold zr at he⊢;simp only[qo8 hv] at he⊢;unfold qw3 at he⊢;split at he
 ·rename_i h;split at he
  ·rename_i hr;have h':=h;simp only[gnB] at h;have hvt:=h.1;simp only[yj,gnB,gnD] at hvt;simp only[if_pos h',if_pos hr];obtain⟨-,q2,-,-⟩:=q45 (apT l) (s,vsA l) (-1) hvt.2 (qa9.1 h.2).1;rw[q2]
   show(q38 s.ys (apT l)).length≤_
   rw[zaq (fun a ha=>(hn a ha).1) hl];have h3:=qv6 (liT (itF 0 l) qq4) s.ys [];rw[kF] at h3;have h4:=qgv (liT (itF 0 l) qq4) s.ys [];rw[zk8] at h4;rw[←h3,uE];simp only[uQ] at h4;omega
  ·exact absurd (show(13:Int)=0 from he) (by decide)
 ·exact absurd (show(1:Int)=0 from he) (by decide)
theorem z85{s:So}{a:Int}(h:q5d vcP q41 s a c=true):qam s (jl c) a=false:=by
 unfold q5d at h;simp only[gnB,uA] at h;exact h.2.2.2
set_option maxHeartbeats 1000000 in
theorem zkk{i:Nat}(h:HkI s0 x i L a)(hi:i≤9)(nm:ByteArray)(val:Ce)(hval:val.t=1)(he:(apA a x nm val).1=0):HkI s0 x (i+1) (apL L nm val) (apA a x nm val).2:=by
 have hv:=h.v;have hx:=h.xi;have h0:=h.x0;have hlx:=qi.1 hx;have hk:qei a=true:=by
  have:=h.good;unfold q3d at this;rw[gnB] at this;exact this.1
 obtain⟨hown,hok⟩:qcg a (jm a x).1=L∧(jm a x).2=true:=by
  rcases h.var with⟨hL,e1,e2,-⟩|⟨p,hL,e1,e2,-⟩
  ·rw[e1];exact⟨e2.trans hL.symm,rfl⟩
  ·rw[e1];exact⟨e2,rfl⟩
 unfold apA at he⊢;rw[hown] at he⊢;by_cases hb:apB a x nm val=true
 ·rw[if_pos hb] at he;exact absurd (show(1:Int)=0 from he) (by decide)
 rw[if_neg hb] at he⊢;have hsz:nm.size≤100:=by
  unfold apB at hb;simp only[uD,gnD,not_or] at hb;omega
 obtain⟨m1,m2,m3,m4,m5⟩:=ztb (val:=val) h.nm h.nd hsz hval h.li;have hl9:(apL L nm val).length≤1000:=by omega
 have hlp:1≤(apL L nm val).length:=List.length_pos_iff.2 m5;generalize apL L nm val=M at *;rw[if_neg (by omega)] at he⊢;simp only at he⊢;have hkz:zee (apC a (jm a x).1 M).1 (apC a (jm a x).1 M).2 a=(apC a (jm a x).1 M).2:=by
  unfold zee;rw[if_pos he]
 rw[hkz];clear hkz hb;unfold apC at he⊢;by_cases hs:(zr a M).2.1=0
 ·rw[if_pos hs] at he⊢;obtain⟨all,P⟩:=z6d hv hs;obtain⟨l1,l2⟩:=ztp hv hs m1 hl9;have hrep:=fun(S:So)h1 h2=>zsy (S:=S) hv hs h1 h2 m1 hl9;obtain⟨r1,r2,r3,r4⟩:=P.rst;have hkS:qei (zr a M).2.2=true:=by
   rw[qdd] at hk⊢;rw[r3];exact hk
  have hgS:q3d (zr a M).2.2=true:=by
   unfold q3d;rw[gnB];exact⟨hkS,P.valid⟩
  have hc3:(zr a M).1.t=3:=by
   have:=hrep (zr a M).2.2 (fun _ _ _=>rfl) rfl;cases M with
   |nil=>exact absurd rfl m5
   |cons y M=>exact this.1
  have hPv:=P.vc;have hPx:=P.ext;have hPV:=P.valid;rcases h.var with⟨hL,e1,-,e3,e4⟩|⟨p,hL,e1,-,e2,e3,e4,e5,e6,e7,e8,e9,-⟩
  ·-- the first attribute
   have hst:=zl0 (l:=M) hv hs hx e3 h0;rw[e1] at he⊢;simp only at he⊢;rw[if_neg (by omega)] at he⊢;obtain⟨mx1,mx2,mx3,mx4⟩:=qyo hPV;by_cases hf:IntKind.wrap .i64 ((zr a M).2.2.mx - 3)<(zr a M).2.2.cs.length∨1099511627776≤(zr a M).2.2.ser
   ·rw[if_pos hf] at he;exact absurd (show(13:Int)=0 from he) (by decide)
   rw[if_neg hf] at he⊢;have ew:IntKind.wrap .i64 ((zr a M).2.2.mx - 3)=(zr a M).2.2.mx - 3:=qc2 (by simp[ji];omega);rw[ew] at hf;unfold qa6 at he⊢;rw[if_pos hst.1] at he⊢;simp only;have hno:=z85 hst.1;obtain⟨b1,b2⟩:=hPx.inS hx;have hgN:=zhp hgS hPv (.inr hc3) (by omega);generalize hSe:(zr a M).2.2=S at *;generalize (zr a M).1=c at *;obtain⟨c1,c2⟩:=z4m c b1;obtain⟨n2,n1⟩:=z6v S c;have hlN:(apN S c).cs.length=S.cs.length+3:=by simp[apN]
   have hvN:qr (apN S c)=true:=by
    unfold q3d at hgN;rw[gnB] at hgN;exact hgN.2
   have hkN:qei (apN S c)=true:=hkS;have q1:(apN S c).cs[S.cs.length+1]? =some ⟨1,S.ser+1⟩:=by simp[apN]
   have q2:(apN S c).cs[S.cs.length+2]? =some c:=by simp[apN]
   obtain⟨i1,f1⟩:=cell_of q1;obtain⟨i2,f2⟩:=cell_of q2;have z1:((S.cs.length:Nat):Int)+1=((S.cs.length+1:Nat):Int):=by omega
   have z2:((S.cs.length:Nat):Int)+2=((S.cs.length+2:Nat):Int):=by omega
   have hS:Sets (apN S c) x.n ⟨5,(S.cs.length:Nat)⟩:=⟨hvN,c1,.inl (by rw[c2,b2,e3];exact⟨h0,rfl⟩),by simp[vcR,zw n1,n2],hno⟩;have hgood:=qs7 hS hkN;have hne:∀k:Nat,¬((S.cs.length+k:Nat):Int)=x.n:=fun k q=>by have:=qi.1 b1;omega
   have hat:=fun{j:Int}(hj:inS (apN S c) j=true)=>qj1 (c:=⟨5,(S.cs.length:Nat)⟩) c1 hj;refine⟨hgood,?_,?_,h0,m1,m2,m3,?_,?_,?_,?_,.inr ⟨m5,(S.cs.length:Nat),?_,?_,?_,?_,?_,?_,?_⟩⟩
   ·exact r3.trans h.wk
   ·rw[q4z];exact c1
   ·simp only[q3v,uN];omega
   ·simp only[q3v,uN];have:=h.bc;omega
   ·have:=h.bs
    show S.ys.length≤_
    omega
   ·have:=h.bt
    show(S.tr++[_]).length≤_
    rw[r2,uE];simp;omega
   ·rw[q4z];exact n1
   ·rw[q4z,z2];exact i2
   ·rw[hat c1,if_pos rfl];rfl
   ·rw[hat n1,if_neg (show ¬((S.cs.length:Nat):Int)=x.n from hne 0),n2]
   ·rw[z1,hat i1,if_neg (hne 1),f1]
    show s0.ser<S.ser+1
    rw[r4];omega
   ·rw[z2,hat i2,if_neg (hne 2),f2];exact hc3
   ·rw[z2,hat i2,if_neg (hne 2),f2];refine hrep _ (fun j h1 h2=>?_) rfl;simp only[q3v];rw[uZ (by omega)];exact uJ h2
  ·-- a further one
   have hst:=zp6 (l:=M) hv hs e2 rfl e3;rw[e1] at he⊢;simp only at he⊢;rw[if_pos trivial] at he⊢;unfold qa6 at he⊢;rw[if_pos hst] at he⊢;simp only;have hno:=z85 hst;obtain⟨b1,b2⟩:=hPx.inS hx;obtain⟨b3,b4⟩:=hPx.inS e4;obtain⟨b5,b6⟩:=hPx.inS e5;have e45:inS a (p+1)=true:=zau e4 e5;obtain⟨b7,b8⟩:=hPx.inS e45;generalize hSe:(zr a M).2.2=S at *;generalize (zr a M).1=c at *;have hS:Sets S (p+2) c:=⟨hPV,b5,.inr (.inr (.inr (by rw[b6];exact e9))),hPv,hno⟩;have hgood:=qs7 hS hkS;have hat:=fun{j:Int}(hj:inS S j=true)=>qj1 (c:=c) b5 hj;have hkc:jl c=c:=if_neg (by omega);have hxq:¬x.n=p+2:=fun q=>by
    rw[q] at e6;rw[e6] at e9;exact absurd (show(0:Int)=3 from e9) (by decide)
   have hp2:=qi.1 e5;refine⟨hgood,?_,?_,h0,m1,m2,m3,?_,?_,?_,?_,.inr ⟨m5,p,?_,?_,?_,?_,?_,?_,?_⟩⟩
   ·exact r3.trans h.wk
   ·rw[q4z];exact b1
   ·simp only[q3v,uN];omega
   ·simp only[q3v,uN];have:=h.bc;omega
   ·have:=h.bs
    show S.ys.length≤_
    omega
   ·have:=h.bt
    show(S.tr++[_]).length≤_
    rw[r2,uE];simp;omega
   ·rw[q4z];exact b3
   ·rw[q4z];exact b5
   ·rw[hat b1,if_neg hxq,b2,e6]
   ·rw[hat b3,if_neg (by omega),b4,e7]
   ·rw[hat b7,if_neg (by omega),b8];exact e8
   ·rw[hat b5,if_pos rfl,hkc];exact hc3
   ·rw[hat b5,if_pos rfl,hkc];refine hrep _ (fun j h1 h2=>?_) rfl;simp only[q3v];rw[uZ (by omega)]
 ·rw[if_neg hs] at he;exact absurd he hs
structure GrV(s S:So):Prop where
 ext:Ext s S
 rst:Rst s S
 valid:qr S=true
theorem Ext.refl(s:So):Ext s s:=⟨fun _ _=>rfl,uO _,fun _ _ h=>h⟩
variable{b:So}
theorem Ext.trans{c:So}(h:Ext a b)(k:Ext b c):Ext a c:=⟨fun i hi=>(k.cs i (Nat.lt_of_lt_of_le hi h.len)).trans (h.cs i hi),kN h.len k.len,fun i y hy=>k.ys i y (h.ys i y hy)⟩
theorem GrV.refl{s:So}(h:qr s=true):GrV s s:=⟨Ext.refl s,Rst.refl s,h⟩
theorem GrV.trans{c:So}(h:GrV a b)(k:GrV b c):GrV a c:=⟨h.ext.trans k.ext,h.rst.trans k.rst,k.valid⟩
theorem z5w{s:So}{x:At}(hv:qr s=true)(he:(z5 wv s x).2.2.1=0):∃all,PutOk s (q1i x.name) (q5g x.val wv) (z5 wv s x).1 all (z5 wv s x).2.2.2:=by
 unfold z5 at he⊢;rw[qo8 hv] at he⊢;unfold qw3 at he⊢;split at he
 ·rename_i h;split at he
  ·rename_i hr;have h':=h;simp only[gnB] at h;simp only[if_pos h',if_pos hr];exact⟨_,zev hv h.1 h.2 hr⟩
  ·exact absurd (show(13:Int)=0 from he) (by decide)
 ·exact absurd (show(1:Int)=0 from he) (by decide)
theorem zcp{s:So}{x:At}(he:¬(z5 wv s x).2.2.1=0):(z5 wv s x).2.2.2=s∧(z5 wv s x).1=⟨0,0⟩:=by
 unfold z5 qiz at he⊢;split at he
 ·rename_i h;split at he
  ·exact absurd rfl he
  ·rename_i hr;simp only[if_pos h,if_neg hr];exact⟨trivial,trivial⟩
 ·rename_i h;simp only[if_neg h];exact⟨trivial,trivial⟩
theorem qvr{s:So}(wv:Ce)(x:At)(hv:qr s=true):GrV s (z5 wv s x).2.2.2:=by
 by_cases he:(z5 wv s x).2.2.1=0
 ·obtain⟨all,P⟩:=z5w hv he;exact⟨P.ext,P.rst,P.valid⟩
 ·rw[(zcp he).1];exact GrV.refl hv
theorem qh3(wv:Ce):∀(l:List At)(s:So)(o:List Ce),qr s=true→GrV s (zz wv s o l).1
 |[],s,o,hv=>GrV.refl hv
 |x::l,s,o,hv=>by
  have h1:=qvr wv x hv;unfold zz;split
  ·exact h1.trans (qh3 wv l _ _ h1.valid)
  ·exact h1
theorem qtl:∀(l:List Wk)(s:So)(o:List Ce),qr s=true→GrV s (jw s o l).1
 |[],s,o,hv=>GrV.refl hv
 |w::l,s,o,hv=>by
  have h1:=qh3 w.val (yz s w.att) s o hv;unfold jw;split
  ·exact h1.trans (qtl l _ _ h1.valid)
  ·exact h1
theorem zk6{s r:So}(h:Ext s r)(k:Rst s r):qta s r=s:=by
 have h1:r.cs.take s.cs.length=s.cs:=by
  refine kC fun i=>?_;rw[vF];split
  ·rename_i hi;exact h.cs i hi
  ·rename_i hi;exact(kY (by omega)).symm
 have h2:r.ys.take s.ys.length=s.ys:=by
  refine kC fun i=>?_;rw[vF];split
  ·rename_i hi;rw[gnK hi];exact h.ys i _ (gnK hi)
  ·rename_i hi;exact(kY (by omega)).symm
 obtain⟨k1,k2,k3,k4⟩:=k;unfold qta;rw[h1,h2];cases s;cases r;simp only at k1 k2 k3 k4;subst_vars;simp
def zti(s:So):List Ce×Int×So:=if(jw s [] (q55 s.wk)).2.2=0 then((jw s [] (q55 s.wk)).2.1,0,{(jw s [] (q55 s.wk)).1 with wk:=[]}) else([],(jw s [] (q55 s.wk)).2.2,s)
theorem zg1{s:So}(hv:qr s=true):q92 s=zti s:=by
 unfold q92 zti;split
 ·rfl
 ·have:=qtl (q55 s.wk) s [] hv;rw[zk6 this.ext this.rst]
theorem zci{ky:Wk→Int}{x z:Wk}{l:List Wk}:z∈q2w ky x l↔z=x∨z∈l:=by
 induction l with
 |nil=>simp[q2w]
 | cons y l ih =>
  unfold q2w;split
  ·simp only[uG,ih];constructor
   ·rintro(h|h|h)
    ·exact .inr (.inl h)
    ·exact .inl h
    ·exact .inr (.inr h)
   ·rintro(h|h|h)
    ·exact .inr (.inl h)
    ·exact .inl h
    ·exact .inr (.inr h)
  ·simp only[uG]
theorem z4y{l:List Wk}{z:Wk}:z∈q55 l↔z∈l:=by
 have key:∀(l acc:List Wk),z∈l.foldl (fun acc x=>q2w Wk.ser x acc) acc↔z∈l∨z∈acc:=by
  intro l
  induction l with
  |nil=>intro acc;simp
  | cons x l ih =>
   intro acc;rw[List.foldl_cons,ih,zci,uG];constructor
   ·rintro(h|h|h)
    ·exact .inl (.inr h)
    ·exact .inl (.inl h)
    ·exact .inr h
   ·rintro((h|h)|h)
    ·exact .inr (.inl h)
    ·exact .inl h
    ·exact .inr (.inr h)
 have:=key l [];simpa[q55,jh] using this
theorem LsA.t:∀{l:List At}{c:Ce},LsA S l c→c.t=2∨c.t=3
 |[],c,h=>.inl h
 |a::l,c,h=>.inr h.1
theorem LsA.ne5{S':So}{q:Nat}(hq:S.cs[q]? =some x)(h5:x.t=5)(hc:∀i:Nat,i≠q→S'.cs[i]? =S.cs[i]?)(hy:S'.ys=S.ys):∀{l:List At}{c:Ce},(∀y∈l,y.val.t=1)→LsA S l c→LsA S' l c
 |[],c,_,h=>h
 | a :: l, c, hv, ⟨h3, p, y, hn, hcp, hyp, ⟨d, hd, d3, r, z, dn, dc, dy, ⟨k, hk, k2, w, kn, ky⟩, hval⟩, c', hc', ht⟩ => by
  have up:∀{i:Nat}{z:Ce},S.cs[i]? =some z→z.t≠5→S'.cs[i]? =some z:=fun{i z}h hz=>by
   rw[hc i fun e=>?_]
   ·exact h
   ·subst e;rw[hq] at h;injection h with h;rw[h] at h5;exact hz h5
  have h1:=hv a uF;have hct:=ht.t;rw[←hy] at hyp dy ky;exact⟨h3,p,y,hn,up hcp (show(4:Int)≠5 by decide),hyp,⟨d,up hd (by omega),d3,r,z,dn,up dc (show(4:Int)≠5 by decide),dy,⟨k,up hk (by omega),k2,w,kn,ky⟩,up hval (by omega)⟩,c',up hc' (by omega),LsA.ne5 hq h5 hc hy (fun x hx=>hv x (uB _ hx)) ht⟩
structure BdI(s0:So)(i:Nat)(L:List At)(n:Int)(w:Wk)(b:So):Prop where
 v:qr b=true
 wk:b.wk=s0.wk++[w]
 ser:s0.ser<w.ser
 val:w.val=⟨1,n⟩
 att:LsA b L w.att
 ln:L.length≤b.cs.length
 bc:b.cs.length≤s0.cs.length+1+64 * i
 bs:b.ys.length≤s0.ys.length+42 * i
theorem bind_none{i:Nat}(h:HkI s0 x i [] a)(n:Int):q9n a x ⟨1,n⟩=(1,a):=by
 rcases h.var with⟨-,e,-⟩|⟨p,hL,-⟩
 ·unfold q9n;rw[e];have:¬x.t=5:=by have:=h.x0;omega
  simp[this]
 ·exact absurd rfl hL
theorem zeh{i:Nat}(h:HkI s0 x i L a)(hL:L≠[])(n:Int):(q9n a x ⟨1,n⟩).1=0∧∃w,BdI s0 i L n w (q9n a x ⟨1,n⟩).2:=by
 have hv:=h.v;have hg:=h.good;have hk:qei a=true:=by
  unfold q3d at hg;rw[gnB] at hg;exact hg.1
 rcases h.var with⟨hL',-⟩|⟨p,-,e1,-,e2,-,e4,e5,e6,e7,e8,e9,e10⟩
 ·exact absurd hL' hL
 have hne:(⟨1,n⟩:Ce)≠⟨5,p⟩:=fun q=>absurd (show(1:Int)=5 from congrArg Ce.t q) (by decide);have hc1:vcR a ⟨1,n⟩=true:=rfl;have hset:=zt3 hv (x:=⟨5,p⟩) ⟨e4,e7⟩ (.inl rfl) hc1 (show(1:Int)≠0 by decide) hne;have hS:Sets a p ⟨1,n⟩:=⟨hv,e4,.inr (.inl (by rw[e7])),hc1,z85 hset⟩;have hb:q9n a x ⟨1,n⟩=(0,{q3v a p ⟨1,n⟩ with wk:=a.wk++[⟨(cellAt a (p+1)).n,cellAt a (p+2),⟨1,n⟩⟩]}):=by
  unfold q9n;rw[e1,z4j (show(⟨1,n⟩:Ce).t=1 from rfl)];have hvp:vcP a ⟨1,n⟩=true:=rfl;rw[if_pos (by rw[hvp];rfl),if_neg hne,if_neg (show ¬(1:Int)=0 by decide),if_neg (show ¬(1:Int)=5 by decide)];unfold qop qa6;rw[if_pos hset];rfl
 rw[hb];have hgr:q2q a p=true:=by
  have hc:=q8o hv e4;unfold q34 at hc;rw[e7,if_neg (show ¬(5:Int)=4 by decide)] at hc;simp only[gnB,uD] at hc;rcases hc.2.2 with q|q
  ·exact absurd q (by decide)
  ·exact q.2
 simp only[q2q,gnB,gnD] at hgr;have hgs:=qs7 hS hk;have hvq:vcR (q3v a p ⟨1,n⟩) (cellAt a (p+2))=true:=by
  rw[qjp hS (by omega)];exact qz4 hv e5 (by omega)
 have hgw:=zl2 hgs (w:=⟨(cellAt a (p+1)).n,cellAt a (p+2),⟨1,n⟩⟩) ⟨by show(cellAt a (p+2)).t≠5;omega,show(1:Int)≠5 by decide⟩ (by
  unfold wkB;simp only[gnB,gnD];exact⟨hgr.2.1,hgr.2.2.1,hvq,rfl⟩)
 have hp:=qi.1 e4;refine⟨rfl,⟨(cellAt a (p+1)).n,cellAt a (p+2),⟨1,n⟩⟩,⟨?_,?_,e8,rfl,?_,?_,?_,h.bs⟩⟩
 ·unfold q3d at hgw;rw[gnB] at hgw;exact hgw.2
 ·show a.wk++_=_
  rw[h.wk]
 ·have hpc:a.cs[p.toNat]? =some ⟨5,p⟩:=by
   have hlt:p.toNat<a.cs.length:=by omega
   rw[gnK hlt];have:=e7;unfold cellAt at this;rw[gnG,gnK hlt] at this;exact congrArg some this
  refine LsA.ne5 (S:=a) (S':={q3v a p ⟨1,n⟩ with wk:=a.wk++[⟨(cellAt a (p+1)).n,cellAt a (p+2),⟨1,n⟩⟩]}) (q:=p.toNat) hpc rfl (fun j hj=>?_) rfl (fun y hy=>(h.nm y hy).2) e10
  show(a.cs.set p.toNat _)[j]? =_
  exact uZ (fun e=>hj e.symm)
 ·show _≤(a.cs.set p.toNat _).length
  rw[uN];exact h.ln
 ·show(a.cs.set p.toNat _).length≤_
  rw[uN];exact h.bc
theorem zed{l:List Wk}{w:Wk}(h:∀y∈l,y.ser≤w.ser):q55 (l++[w])=q55 l++[w]:=by
 unfold q55;rw[qk5];have:=qks (ky:=Wk.ser) (x:=w) (L1:=jh Wk.ser l) (L2:=[]) (fun y hy=>h y (z4y.1 hy)) (fun y hy=>by cases hy);rwa [kF] at this
theorem qtx:∀(l:List Wk)(s:So)(o:List Ce)(w:Wk),jw s o (l++[w])=if(jw s o l).2.2=0 then zz w.val (jw s o l).1 (jw s o l).2.1 (yz (jw s o l).1 w.att) else jw s o l
 | [], s, o, w => by
  show jw s o [w]=if(0:Int)=0 then _ else _
  rw[if_pos rfl,q8u];split
  ·rename_i h
   show(_,_,_)=_
   rw[←h];rfl
  ·rfl
 |v::l,s,o,w=>by
  rw[vL,q8u,q8u];split
  ·exact qtx l _ _ w
  ·rfl
theorem qsx(h:nm.size≤100):q1i nm=.mk 3 0 q7l [.mk 2 0 nm [],.mk 0 0 ⟨#[]⟩ [],.mk 0 1 ⟨#[]⟩ []]:=by
 have e0:vaT 0=.mk 0 0 ⟨#[]⟩ []:=rfl;have e1:vaT 1=.mk 0 1 ⟨#[]⟩ []:=rfl;have e2:q7l.size=9:=rfl;unfold q1i q8x;rw[if_neg (by simp),e0,e1,qlo h];unfold qg3;rw[if_pos];have h':((nm.size:Nat):Int)≤100:=by omega
 simp[yj,szT,q04,z6,j7,q3q,Te.k,Te.n,Te.s,Te.l,h',e2]
theorem zhg{s:So}(hv:qr s=true){x:At}(hx:x∈yz s c):x.name.size≤100:=by
 obtain⟨-,h⟩:=za5 (N:=s.ys.map Sy.name) (s:=s) (fun y hy=>kA.2 ⟨y,hy,rfl⟩) c;obtain⟨y,hy,e⟩:=kA.1 (h x hx);rw[←e];obtain⟨i,hi,rfl⟩:=uP hy;have h1:=qrg hv;simp only[q7n,gnB] at h1;have h2:=uV.1 h1.2 i (uT.2 hi);simp only[qda,okY,gnB,gnD] at h2;have e:s.ys.getD i default=s.ys[i]:=by rw[gnG,gnK hi];rfl
 rw[e] at h2;omega
theorem zon{s:So}(hv:qr s=true)(hc:vcR s c=true){tl vl:Ce}(h:q5k s c=some (nm,tl,vl)):vcR s tl=true∧vcR s vl=true:=by
 have hd:=ql1 hv hc;rw[←derz hv] at hd;unfold q5k at h;split at h
 ·rename_i hp;rw[z45 hv hd] at hp;obtain⟨p1,p2⟩:=vA.1 hp;have p1:=of_decide_eq_true p1;have p2:=of_decide_eq_true p2;obtain⟨-,-,-,-,q5,q6⟩:=z1l hv hd p1;have e2:(qf6 s (cellAt s (jk s c).n).n).ar=2:=by rw[p2]
  obtain⟨a1,a2⟩:=q6 0 (by rw[e2];decide);obtain⟨b1,b2⟩:=q6 1 (by rw[e2];decide);have z1:(jk s c).n+1+((0:Nat):Int)=(jk s c).n+1:=by omega
  have z2:(jk s c).n+1+((1:Nat):Int)=(jk s c).n+2:=by omega
  rw[z1] at a2;rw[z2] at b2;have hd2:=ql1 hv a2;rw[←derz hv] at hd2;split at h
  ·rename_i hp';rw[z45 hv hd2] at hp';obtain⟨r1,r2⟩:=vA.1 hp';have r1:=of_decide_eq_true r1;have r2:=of_decide_eq_true r2;obtain⟨-,-,-,-,-,t6⟩:=z1l hv hd2 r1;have e3:(qf6 s (cellAt s (jk s (cellAt s ((jk s c).n+1))).n).n).ar=2:=by rw[r2]
   obtain⟨-,u2⟩:=t6 1 (by rw[e3];decide);have z3:(jk s (cellAt s ((jk s c).n+1))).n+1+((1:Nat):Int)=(jk s (cellAt s ((jk s c).n+1))).n+2:=by omega
   rw[z3] at u2;split at h
   ·simp only[gnS] at h;obtain⟨-,rfl,rfl⟩:=h;exact⟨b2,u2⟩
   ·cases h
  ·cases h
 ·cases h
theorem zf3{s:So}(hv:qr s=true):∀(k:Nat)(c:Ce)(met:List ByteArray),vcR s c=true→∀x∈q3x s k c met,vcR s x.val=true
 |0,c,met,_,x,hx=>by cases hx
 | k + 1, c, met, hc, x, hx => by
  unfold q3x at hx;split at hx
  ·cases hx
  ·rename_i nm tl vl hn;obtain⟨h1,h2⟩:=zon hv hc hn;rcases uM.1 hx with hx|hx
   ·split at hx
    ·cases hx
    ·rw[uK.1 hx]
     show vcR s (jl (jk s vl))=true
     rw[derz hv];exact z13 (ql1 hv h2)
   ·exact zf3 hv k tl _ h1 x hx
theorem zer{s:So}(hv:qr s=true)(h1:vcR s x=true)(h2:vcR s wv=true):vvP s (q5g x wv)=true:=by
 have e:=(q4l hv).vc;refine qa9.2 ⟨?_,fun y hy=>?_⟩
 ·unfold SV q5g;simp
 ·rw[e];simp only[q5g,uG,kD,or_false] at hy;rcases hy with rfl|rfl
  ·exact h1
  ·exact h2
theorem qp3(h:nm.size≤100):yj (q1i nm)=true:=by
 have e2:q7l.size=9:=rfl;have h':((nm.size:Nat):Int)≤100:=by omega
 rw[qsx h];simp[yj,szT,q04,z6,j7,q3q,Te.k,Te.n,Te.s,Te.l,h',e2]
theorem zdz{s:So}(hv:qr s=true){x:At}(hn:x.name.size≤100)(h1:vcR s x.val=true)(h2:vcR s wv=true):(z5 wv s x).2.2.1=0∨(z5 wv s x).2.2.1=13:=by
 unfold z5;rw[qo8 hv];unfold qw3;rw[qp3 hn,zer hv h1 h2];simp only[Bool.and_self,if_true];split
 ·exact .inl rfl
 ·exact .inr rfl
theorem qgj:∀(l:List At)(s:So)(o:List Ce),qr s=true→(∀x∈l,x.name.size≤100∧vcR s x.val=true)→vcR s wv=true→(zz wv s o l).2.2=0∨(zz wv s o l).2.2=13
 |[],s,o,_,_,_=>.inl rfl
 |x::l,s,o,hv,hl,hw=>by
  obtain⟨h1,h2⟩:=hl x uF;have g:=qvr wv x hv;rw[qc5];split
  ·exact qgj l _ _ g.valid (fun y hy=>⟨(hl y (uB _ hy)).1,g.ext.vc (hl y (uB _ hy)).2⟩) (g.ext.vc hw)
  ·exact zdz hv h1 h2 hw
theorem qp0:∀(l:List Wk)(s:So)(o:List Ce),qr s=true→(∀w∈l,vcR s w.att=true∧vcR s w.val=true)→(jw s o l).2.2=0∨(jw s o l).2.2=13
 |[],s,o,_,_=>.inl rfl
 |w::l,s,o,hv,hl=>by
  obtain⟨h1,h2⟩:=hl w uF;have g:=qh3 w.val (yz s w.att) s o hv;rw[q8u];split
  ·exact qp0 l _ _ g.valid fun y hy=>⟨g.ext.vc (hl y (uB _ hy)).1,g.ext.vc (hl y (uB _ hy)).2⟩
  ·exact qgj _ s o hv (fun x hx=>⟨zhg hv hx,zf3 hv _ _ _ h1 x hx⟩) h2
variable{V:List Int}
mutual
theorem zge{S':So}{f':Int→Ce}(E:Ext S S')(hf:∀v∈V,f' v=f v):∀(t:Te)(c:Ce),inV V t→Rh S f t c→Rh S' f' t c
 |.mk k n nm l,c,hi,h=>by
  rw[qmd] at hi;rw[Rh] at h⊢;rcases h with⟨rfl,rfl⟩|⟨rfl,rfl⟩|⟨rfl,ht,y,hy,hs⟩|⟨rfl,ht,p,y,hp,hc,hs,hl⟩
  ·exact .inl ⟨rfl,(hf n (hi.1 rfl)).symm⟩
  ·exact .inr (.inl ⟨rfl,rfl⟩)
  ·exact .inr (.inr (.inl ⟨rfl,ht,y,hy,E.ys _ _ hs⟩))
  ·exact .inr (.inr (.inr ⟨rfl,ht,p,y,hp,by rw[E.cs p (gnH.1 hc).1];exact hc,E.ys _ _ hs,zao E hf l (p+1) hi.2 hl⟩))
theorem zao{S':So}{f':Int→Ce}(E:Ext S S')(hf:∀v∈V,f' v=f v):∀(l:List Te)(p:Nat),qi7 V l→Rhs S f l p→Rhs S' f' l p
 |[],p,_,_=>by rw[Rhs];trivial
 |t::l,p,hi,h=>by
  rw[qi7] at hi;rw[Rhs] at h⊢;obtain⟨⟨c,hc,hr⟩,hl⟩:=h;exact⟨⟨c,by rw[E.cs p (gnH.1 hc).1];exact hc,zge E hf t c hi.1 hr⟩,zao E hf l (p+1) hi.2 hl⟩
end
def z01(S:So)(x:At)(wv c:Ce):Prop:=vcR S c=true∧∃f:Int→Ce,f 0=x.val∧f 1=wv∧Rh S f (q1i x.name) c
theorem z9k(h:nm.size≤100):inV [0,1] (q1i nm):=by
 rw[qsx h];simp[qmd,qi7]
theorem z01.ext{S':So}(E:Ext S S'){x:At}(hn:x.name.size≤100)(h:z01 S x wv c):z01 S' x wv c:=by
 obtain⟨h1,f,f0,f1,hr⟩:=h;exact⟨E.vc h1,f,f0,f1,zge E (fun v _=>rfl) _ _ (z9k hn) hr⟩
theorem z8f{s:So}(hv:qr s=true){x:At}(h1:x.val.t=1)(h2:wv.t=1)(he:(z5 wv s x).2.2.1=0):z01 (z5 wv s x).2.2.2 x wv (z5 wv s x).1:=by
 obtain⟨all,P⟩:=z5w hv he;refine⟨P.vc,fOf all,?_,?_,P.rep⟩
 ·rw[qdc (P.of 0 x.val rfl)];exact if_neg (by omega)
 ·rw[qdc (P.of 1 wv rfl)];exact if_neg (by omega)
theorem qp2(h2:wv.t=1):∀(l:List At)(s:So)(o:List Ce),qr s=true→(∀x∈l,x.name.size≤100∧x.val.t=1)→(zz wv s o l).2.2=0→∃cs:List Ce,(zz wv s o l).2.1=o++cs∧cs.length=l.length∧∀j,j<l.length→z01 (zz wv s o l).1 (l.getD j default) wv (cs.getD j default)
 |[],s,o,_,_,_=>⟨[],by simp[zz],rfl,fun j hj=>absurd hj (vN _)⟩
 | x :: l, s, o, hv, hl, he => by
  obtain⟨n1,n2⟩:=hl x uF;have g:=qvr wv x hv;rw[qc5] at he⊢;split at he
  ·rename_i h0;rw[if_pos h0];obtain⟨cs,e1,e2,e3⟩:=qp2 h2 l _ (o++[(z5 wv s x).1]) g.valid (fun y hy=>hl y (uB _ hy)) he;have g2:=qh3 wv l (z5 wv s x).2.2.2 (o++[(z5 wv s x).1]) g.valid;refine⟨(z5 wv s x).1::cs,by rw[e1];simp,by simp[e2],fun j hj=>?_⟩;cases j with
   |zero=>exact(z8f hv n2 h2 h0).ext g2.ext n1
   |succ j=>exact e3 j (by simpa using hj)
  ·rename_i h0;exact absurd he h0
def q91(nm:ByteArray)(a b:Int):Te:=.mk 3 0 q7l [.mk 2 0 nm [],.mk 1 a ⟨#[]⟩ [],.mk 1 b ⟨#[]⟩ []]
theorem zga{x:At}(hn:x.name.size≤100)(h1:x.val.t=1)(h2:wv.t=1)(h:z01 S x wv c):zdu S c=(q91 x.name x.val.n wv.n,0):=by
 obtain⟨hv,f,f0,f1,hr⟩:=h;have hint:∀(k:Int)(m:Nat)(l:Int),1≤m→1≤l→q6f S m ⟨1,k⟩ l=(.mk 1 k ⟨#[]⟩ [],l - 1):=fun k m l hm hl=>by
  have:=z2u (S:=S) (f:=f) (g:=fun _=>.mk 1 0 ⟨#[]⟩ []) (V:=[]) (fun v hv=>by cases hv) (.mk 1 k ⟨#[]⟩ []) ⟨1,k⟩ (by simp[qmd,qi7]) (by simp[z6,j7,q3q,Te.k,Te.s,Te.l]) ztz m l (by simp[qi3,qbz,szT,q04];omega) (by simp[qi3,qbz,szT,q04];omega);simpa[qi3,qbz,szT,q04] using this
 have e0:x.val=⟨1,x.val.n⟩:=Ce.ext' h1 rfl;have e1:wv=⟨1,wv.n⟩:=Ce.ext' h2 rfl;have hvt:=qp3 hn;simp only[yj,gnB] at hvt;have hsub:qi3 (fun v=>.mk 1 (if v=0 then x.val.n else wv.n) ⟨#[]⟩ []) (q1i x.name)=q91 x.name x.val.n wv.n:=by
  rw[qsx hn];simp[qi3,qbz,q91]
 have hg:=z2u (S:=S) (f:=f) (g:=fun v=>.mk 1 (if v=0 then x.val.n else wv.n) ⟨#[]⟩ []) (V:=[0,1]) (fun v hv m l hm hl=>by
  simp only[uG,kD,or_false] at hv;rcases hv with rfl|rfl
  ·rw[f0,e0];simpa[szT,q04] using hint x.val.n m l (by simpa[szT,q04] using hm) (by simpa[szT,q04] using hl)
  ·rw[f1,e1];simpa[szT,q04] using hint wv.n m l (by simpa[szT,q04] using hm) (by simpa[szT,q04] using hl)) (q1i x.name) c (z9k hn) hvt.2 hr 2001 2000 (by rw[hsub];simp[q91,szT,q04]) (by rw[hsub];simp[q91,szT,q04])
 rw[hsub] at hg;unfold zdu;rw[if_pos hv,hg];simp[q91,szT,q04]
theorem zj7(h:c.t=1):vcR S c=true:=by
 unfold vcR;rw[if_neg (by omega),if_pos h]
theorem zd3{s:So}(h:qr s=true):qr {s with wk:=[]}=true:=by
 obtain⟨h1,h2,h3,h4⟩:=q14.1 h;exact q14.2 ⟨h1,fun i hi=>(zbp s _ i).trans (h2 i hi),h3,fun w hw=>by cases hw⟩
theorem qyg(wv:Ce):∀(l:List At)(s:So)(o:List Ce),(zz wv s o l).2.1.length≤o.length+l.length
 |[],s,o=>uO _
 | x :: l, s, o => by
  unfold zz;split
  ·have:=qyg wv l (z5 wv s x).2.2.2 (o++[(z5 wv s x).1]);simp only[uE,uC,uQ] at this⊢;omega
  ·simp
theorem z04:∀(l:List Wk)(s:So)(o:List Ce),qcf s o l=true→(jw s o l).2.1.length≤o.length+l.length * 1048576
 |[],s,o,_=>Nat.le_add_right _ _
 | w :: l, s, o, h => by
  unfold qcf at h;simp only[gnB,uD,gnD] at h;have h1:=qyw (c:=w.att) h.1.1;have h2:=qyg w.val (yz s w.att) s o;unfold jw;split
  ·rename_i h0;have:=z04 l _ _ (h.2.resolve_left fun q=>q h0);simp only[uC];omega
  ·simp only[uC];omega
theorem zg5{s:So}(h:qcf s [] (q55 s.wk)=true):(q92 s).1.length≤s.wk.length * 1048576:=by
 have h1:=z04 _ _ _ h;rw[qlz] at h1;unfold q92;split
 ·simpa using h1
 ·simp
structure GlI(L:List At)(n:Int)(goals:List Ce)(S:So):Prop where
 v:qr S=true
 wk:S.wk=[]
 go:∃o cs:List Ce,goals=o++cs∧cs.length=L.length∧∀j,j<L.length→zdu S (cs.getD j default)=(q91 (L.getD j default).name (L.getD j default).val.n n,0)
theorem zgq{i:Nat}{n:Int}{w:Wk}(hv0:qr s0=true)(B:BdI s0 i L n w b)(hn:∀y∈L,y.name.size≤100∧y.val.t=1)(hd:(L.map At.name).Nodup):(q92 b).2.1=13∨((q92 b).2.1=0∧GlI L n (q92 b).1 (q92 b).2.2):=by
 rw[zg1 B.v];have hs:q55 b.wk=q55 s0.wk++[w]:=by
  rw[B.wk];refine zed fun y hy=>?_;have h1:=(q14.1 hv0).2.2.2 y hy;simp only[wkB,gnB,gnD] at h1;have:=B.ser;omega
 have hwk:=(q14.1 B.v).2.2.2;have g:=qtl (q55 s0.wk) b [] B.v;have e13:=qp0 (q55 s0.wk) b [] B.v (fun y hy=>by
  have h1:=hwk y (by rw[B.wk];exact List.mem_append_left _ (z4y.1 hy));simp only[wkB,gnB] at h1;exact h1.2.2)
 unfold zti;rw[hs,qtx];generalize jw b [] (q55 s0.wk)=R at g e13⊢;by_cases h0:R.2.2=0
 ·rw[if_pos h0];have hat:yz R.1 w.att=L:=z7b L _ _ [] (LsA.ext g.ext B.att) (fun y hy=>⟨(hn y hy).2,by simp⟩) hd (kN B.ln g.ext.len);rw[hat];have hwv:w.val.t=1:=by rw[B.val]
  have f13:=qgj L R.1 R.2.1 g.valid (fun y hy=>⟨(hn y hy).1,zj7 (hn y hy).2⟩) (zj7 hwv);have gg:=qp2 hwv L R.1 R.2.1 g.valid hn;have g2:=qh3 w.val L R.1 R.2.1 g.valid;generalize zz w.val R.1 R.2.1 L=H at f13 gg g2⊢;by_cases h1:H.2.2=0
  ·rw[if_pos h1];obtain⟨cs,c1,c2,c3⟩:=gg h1;refine .inr ⟨rfl,zd3 g2.valid,rfl,R.2.1,cs,c1,c2,fun j hj=>?_⟩;have hm:=q1y hj;have hE:Ext H.1 {H.1 with wk:=[]}:=⟨fun _ _=>rfl,uO _,fun _ _ h=>h⟩;have hG:=(c3 j hj).ext hE (hn _ hm).1;have:=zga (hn _ hm).1 (hn _ hm).2 hwv hG;rw[B.val] at this;exact this
  ·rw[if_neg h1];rcases f13 with q|q
   ·exact absurd q h1
   ·exact .inl q
 ·rw[if_neg h0,if_neg h0];rcases e13 with q|q
  ·exact absurd q h0
  ·exact .inl q
theorem zg3{i:Nat}{n:Int}{w:Wk}(B:BdI s0 i L n w b)(hi:i≤10)(hc:s0.cs.length≤300)(hy:s0.ys.length≤100)(hw:s0.wk.length≤50):zgg [eS b]=some [.r ((q92 b).1.map eC),.i (q92 b).2.1,eS (q92 b).2.2]∧(q92 b).1.length≤60 * 1048576:=by
 have h1:=B.bc;have h2:=B.bs;have h3:b.wk.length≤51:=by rw[B.wk,uE,List.length_singleton];omega
 have hB:qcf b [] (q55 b.wk)=true:=by
  refine qoj (N:=q7l::b.ys.map Sy.name) uF _ b [] (fun y h=>uB _ (kA.2 ⟨y,h,rfl⟩)) ?_ ?_
  ·rw[qlz,uC,uI];have:b.wk.length * (5 * (b.ys.length+1))≤51 * (5 * 521):=kU h3 (by omega);omega
  ·rw[qlz,uC,uI];have:b.wk.length * (4 * (b.ys.length+1))≤51 * (4 * 521):=kU h3 (by omega);omega
 have h60:b.wk.length≤60:=kN h3 (by decide);refine⟨?_,kN (zg5 hB) (kU h60 (uO _))⟩;simp only[zgg,yf];rw[if_pos ⟨by omega,by omega,hB⟩]
theorem z8w{k:Nat}(hk:k<L.length)(h1:(L.getD k default).name=nm)(h2:∀j,j<k→(L.getD j default).name≠nm):q5x L nm=k:=by
 have hf:(L.findIdx? fun a=>decide (a.name=nm))=some k:=by
  rw[kJ];refine⟨hk,?_,fun j hj=>?_⟩
  ·rw[gnG,gnK hk] at h1;simpa using h1
  ·have:=h2 j hj;rw[gnG,gnK (by omega)] at this;simpa using this
 unfold q5x;rw[hf]
theorem zdh(h2:∀j,j<L.length→(L.getD j default).name≠nm):q5x L nm= -1:=by
 have hf:(L.findIdx? fun a=>decide (a.name=nm))=none:=by
  rw[List.findIdx?_eq_none_iff];intro a ha;obtain⟨j,hj,rfl⟩:=uP ha;have:=h2 j hj;rw[gnG,gnK hj] at this;simpa using this
 unfold q5x;rw[hf]
theorem zp0(h2:∀j,j<L.length→(L.getD j default).name≠nm):apL L nm val=L++[⟨nm,val⟩]:=by
 unfold apL;rw[zdh h2,if_neg (by decide)]
theorem zlv{k:Nat}(hk:k<L.length)(h1:(L.getD k default).name=nm)(h2:∀j,j<k→(L.getD j default).name≠nm):apL L nm val=L.set k ⟨nm,val⟩:=by
 unfold apL;rw[z8w hk h1 h2,if_pos (by omega),uH,h1]
def q9y(L:List At):List D:=(L.map At.name).map .s
def qeh(L:List At):List D:=L.map fun y=>.i y.val.n
theorem zdq(L:List At)(nm:ByteArray)(val:Ce):q9y (L++[⟨nm,val⟩])=q9y L++[D.s nm]:=by simp[q9y]
theorem zdw(L:List At)(nm:ByteArray)(i:Int):(qeh L++[D.i 0]).set L.length (D.i i)=qeh (L++[⟨nm,⟨1,i⟩⟩]):=by
 unfold qeh;rw[vM,List.set_append];simp
theorem zea{k:Nat}(hk:k<L.length)(h1:(L.getD k default).name=nm):q9y (L.set k ⟨nm,val⟩)=q9y L:=by
 unfold q9y
 congr 1
 rw[kL];refine kC fun j=>?_;rw[vH];split
 ·rename_i e;subst e;rw[if_pos (by simpa using hk),vI,gnK hk];rw[gnG,gnK hk] at h1;simpa using h1.symm
 ·rfl
theorem zec{k:Nat}:(qeh L).set k (D.i i)=qeh (L.set k ⟨nm,⟨1,i⟩⟩):=by
 unfold qeh;rw[kL]
theorem qu5{a b:Int}(h:nm.size≤100):yj (q91 nm a b)=true:=by
 have e2:q7l.size=9:=rfl;have h':((nm.size:Nat):Int)≤100:=by omega
 simp[q91,yj,szT,q04,z6,j7,q3q,Te.k,Te.n,Te.s,Te.l,h',e2]
theorem zcg{a b:Int}(h:nm.size≤100):q8x q7l [q39 nm,.mk 1 a ⟨#[]⟩ [],.mk 1 b ⟨#[]⟩ []]=q91 nm a b:=by
 have:=qu5 (a:=a) (b:=b) h;unfold q8x;rw[if_neg (by simp),qlo h];unfold qg3;exact if_pos this
theorem zdm{a b:Int}(h:nm.size≤100):z3x (q91 nm a b) (q91 nm a b)=true:=by
 unfold z3x;rw[qu5 h];simp[q91,idT,z6p]
theorem qex:FOk jq (qg5 inS q2q):=qpd q30 fun ds outs hw hg=>by
 obtain⟨d,r,rfl,hd,e,r',rfl,he,rfl⟩:=hw;obtain⟨s,rfl,hs⟩:=wfS hd;obtain⟨i,rfl,hi⟩:=wfI he;simp only[qg5,yf,j4,uU,uR] at hg;obtain⟨hin,rfl⟩:=hg;have h1:=qi.1 hin;have hl:=hs.cs.1;have r1:i64 (i+1):=⟨by omega,by omega⟩;have r2:i64 (i+2):=⟨by omega,by omega⟩;simp only[q8g,Tree.go,q0s,X.says,X.ev,X.evs,evl,qf,gnA,qce,true_and,q2q,r1,r2];by_cases ht:q0d s (i+1)=1
 ·have h2:=tag_in ht;have h3:=qi.1 h2;simp[ht,y7 h2,qxd,h3.1,h3.2,j4,vS,q46,r1.1,r1.2]
 ·simp[ht]
theorem qvi:FOk q1a (qg5 z3k qbe):=qs5 q6n q30 qex zh fun ds outs hw hg=>by
 obtain⟨d,r,rfl,hd,e,r',rfl,he,rfl⟩:=hw;obtain⟨s,rfl,hs⟩:=wfS hd;obtain⟨i,rfl,hi⟩:=wfI he;simp only[qg5,yf,j4,uU,uR,z3k,gnB] at hg;obtain⟨⟨hin,hy⟩,rfl⟩:=hg;have h1:=qi.1 hin;have hl:=hs.cs.1;obtain⟨ha,hb⟩:=z69 hy (cellAt s i).n;simp only[q9l,Tree.go,q0s,X.says,X.ev,X.evs,evl,qf,gnA,qce,qpt,qdf,qg5,y7 hin,h1.1,h1.2,hin,if_true];unfold qbe;generalize arS s (cellAt s i).n=K at ha hb⊢;refine⟨fun h4=>?_,fun h4=>?_⟩
 ·have hr:i64 (i+K):=⟨by omega,by omega⟩;have hr1:i64 (i+1):=⟨by omega,by omega⟩;simp only[h4,hr,hr1,if_true];refine⟨fun hx=>?_,fun hx=>⟨⟨trivial,trivial⟩,?_⟩⟩
  ·have:¬(1≤K):=by omega
   simp[this]
  ·have hk:1≤K:=by omega
   simp only[hk];refine⟨fun st=>∃(j:Nat),(j:Int)≤K∧st=[.b false,.i (i+((j:Int)+1))]∧∀m:Nat,m<j→(decide (0≤q0d s (i+((m:Int)+1)))&& !decide (q0d s (i+((m:Int)+1))=4))=true,fun st=>(i+K+1 - (st.getD 1 .u).int).toNat,⟨0,by omega,by simp,fun m hm=>absurd hm (vN _)⟩,?_⟩;rintro st - ⟨j,hj,rfl,hP⟩;simp only[Tree.go,q0s,X.says,X.ev,X.evs,evl,qf,gnA,qce];refine⟨fun hlt=>?_,fun hlt=>?_⟩
   ·have hr3:i64 ((i+((j:Int)+1))+1):=⟨by omega,by omega⟩;refine⟨fun hx=>?_,fun hx=>⟨hr3,?_⟩⟩
    ·have hx':q0d s (i+((j:Int)+1))<0∨q0d s (i+((j:Int)+1))=4:=by simpa using hx
     rw[qbq (k:=j) (by omega)]
     ·simp
     ·rcases hx' with h|h
      ·have:¬(0≤q0d s (i+((j:Int)+1))):=by omega
       simp[this]
      ·simp[h]
    ·have hx':¬q0d s (i+((j:Int)+1))<0∧¬q0d s (i+((j:Int)+1))=4:=by simpa using hx
     rw[jv,if_pos rfl];refine⟨⟨j+1,by omega,by simp;omega,q3t hP (by simp[hx'.2];omega)⟩,?_⟩;simp[D.int];omega
   ·have:j=K.toNat:=by omega
    subst this;rw[q3k hP];simp
 ·simp only[h4,if_false];refine⟨fun hx=>?_,fun hx=>?_⟩
  ·simp[hx]
  ·simp[hx]
theorem qhu:FOk jg (zmp qsl):=qi8 q30 qex zh fun ds outs hw hg=>by
 obtain⟨d,r,rfl,hd,e,r',rfl,he,rfl⟩:=hw;obtain⟨s,rfl,hs⟩:=wfS hd;obtain⟨u,rfl,hu⟩:=wfU he;simp only[zmp,yf,qzt,uR] at hg;subst hg;have hl:=hs.cs.1;simp only[q4b,Tree.go,q0s,X.says,X.ev,X.evs,evl,qf,gnA,qce,qpt,qdf,qg5,qsl,z5b];by_cases ht:0≤q0d s u.at'
 ·have ht':¬(q0d s u.at'<0):=by omega
  have hin:inS s u.at'=true:=by
   cases hin:inS s u.at' with
   |true=>rfl
   |false=>rw[q4i hin] at ht;omega
  have h1:=qi.1 hin;have hr:i64 (u.at' - 1):=⟨by omega,by omega⟩;simp only[hr,hin,ht,ht',if_true];by_cases h0:u.old.t=0
  ·simp[h0]
  ·by_cases h5:u.old.t=5
   ·simp[h5,vS,q5y,q46,hr.1,hr.2]
   ·by_cases h2:u.old.t=1
    ·simp[h2]
    ·by_cases h3:u.old.t=2
     ·simp[h3]
     ·by_cases h4:u.old.t=3
      ·simp[h4]
      ·simp[h0,h5,h2,h3,h4]
 ·have ht':q0d s u.at'<0:=by omega
  simp[ht,ht']
theorem qp7:FOk q1n (gSb q70):=qq2 qf2 qvi qn8 qhu zh fun ds outs hw hg=>by
 obtain⟨d,r,rfl,hd,rfl⟩:=hw;obtain⟨s,rfl,hs⟩:=wfS hd;simp only[gSb,yf,uR] at hg;subst hg;have hl:=hs.cs.1;have hl2:=hs.tr.1;have hl3:=hs.wk.1;have hsy:zfb q7n [D.r (s.ys.map eY)]=some [.b (q7n s.ys)]:=by simp[zfb,q7i,map_id' qvc]
 rw[q89,qg];refine⟨by simp only[gnZ,hsy],?_⟩;rw[z8];have hcond:(X.ev (evl (qf [(ye,zfb q7n),(q1a,qg5 z3k qbe),(jy,ze9 zdo z0i),(jg,zmp qsl),(qb,qdf vcP)]) [eS s]) (.or (.or (.or (.or (.lt (.fld (.tok 0) 5) (.lit (.i 1))) (.lt (.lit (.i 1048576)) (.fld (.tok 0) 5))) (.lt (.fld (.tok 0) 5) (.len (.fld (.tok 0) 0)))) (.lt (.fld (.tok 0) 4) (.lit (.i 0)))) (.not (.call 0 0 [(.fld (.tok 0) 1)])))).tt= !q5b s:=by
  simp only[gnZ,hsy,q5b];by_cases h1:s.mx<1
  ·have:¬1≤s.mx:=by omega
   simp[h1,this]
  ·by_cases h2:1048576<s.mx
   ·have:¬s.mx≤1048576:=by omega
    simp[h2,this]
   ·by_cases h3:s.mx<s.cs.length
    ·have:¬(s.cs.length:Int)≤s.mx:=by omega
     simp[h3,this]
    ·by_cases h4:s.ser<0
     ·have:¬0≤s.ser:=by omega
      simp[h4,this]
     ·have a1:1≤s.mx:=by omega
      have a2:s.mx≤1048576:=by omega
      have a3:(s.cs.length:Int)≤s.mx:=by omega
      have a4:0≤s.ser:=by omega
      simp[h1,h2,h3,h4,a1,a2,a3,a4]
 refine⟨fun hx=>?_,fun hx=>?_⟩
 ·have hh:q5b s=false:=by
   have:=hcond.symm.trans hx;simpa using this
  simp[q4o,X.evs,X.ev,q70,hh]
 have hh:q5b s=true:=by
  have:=hcond.symm.trans hx;simpa using this
 have hsy2:q7n s.ys=true:=by
  simp only[q5b,gnB] at hh;exact hh.2.2.2.2
 refine z2w s.cs.length (fun i=>qbe s (i:Nat)) (v0:=.b false) rfl fun k B' hk hP hB _=>?_;rw[z8];refine⟨fun hlt=>?_,fun hlt=>?_⟩
 ·have hkl:k<s.cs.length:=by simpa[X.ev,evl,qed,D.int,D.rs,D.tt] using hlt
  have hin:inS s (k:Nat)=true:=qi.2 ⟨by omega,by omega⟩;have hQ:z3k s (k:Nat)=true:=by simp[z3k,hin,hsy2]
  simp only[gnZ,qg5,hQ,if_true];refine⟨fun hb=>?_,fun hb=>⟨⟨by omega,by omega⟩,?_⟩⟩
  ·have:qbe s (k:Nat)=false:=by simpa using hb
   have:=qbq (P:=fun i=>qbe s (i:Nat)) hkl this;simp[q70,this]
  ·exact hB hkl (by simpa using hb)
 have hc:(kH s.cs.length).all (fun i=>qbe s (i:Nat))=true:=by
  have:k=s.cs.length:=by
   have:¬(k<s.cs.length):=by simpa[X.ev,evl,qed,D.int,D.rs,D.tt] using hlt
   omega
  subst this;exact q3k hP
 have hq:zdo s=true:=zdt hh fun j hj=>q9i (P:=fun i=>qbe s (i:Nat)) hc hj;rw[qg];refine⟨by simp only[gnZ,ze9,hq,if_true],?_⟩;rw[z8];refine⟨fun hb=>?_,fun hb=>?_⟩
 ·have:z0i s=false:=by
   simp only[gnZ,ze9,hq,if_true] at hb;simpa only[uA] using hb
  simp only[q4o,X.evs,X.ev,q70,this,vR,kT]
 have ha:z0i s=true:=by
  simp only[gnZ,ze9,hq,if_true] at hb;simpa only[kI] using hb
 refine z2w s.tr.length (fun i=>qsl s (s.tr.getD i default)) (v0:=.b false) rfl fun k B' hk hP hB _=>?_;rw[z8];refine⟨fun hlt=>?_,fun hlt=>?_⟩
 ·have hkl:k<s.tr.length:=by simpa[X.ev,evl,z81,D.int,D.rs,D.tt] using hlt
  simp only[gnZ,zmp,q67 eU hkl];refine⟨⟨by omega,by omega⟩,fun hb=>?_,fun hb=>⟨⟨by omega,by omega⟩,?_⟩⟩
  ·have:qsl s (s.tr.getD k default)=false:=by simpa only[uA] using hb
   have:=qbq (P:=fun i=>qsl s (s.tr.getD i default)) hkl this;simp only[q70,this,vR,kT]
  ·exact hB hkl (by simpa only[kI] using hb)
 have hc2:(kH s.tr.length).all (fun i=>qsl s (s.tr.getD i default))=true:=by
  have:k=s.tr.length:=by
   have:¬(k<s.tr.length):=by simpa[X.ev,evl,z81,D.int,D.rs,D.tt] using hlt
   omega
  subst this;exact q3k hP
 refine z2w s.wk.length (fun i=>wkB vcP s (s.wk.getD i default)) (v0:=.b false) rfl fun k B' hk hP hB _=>?_;rw[z8];refine⟨fun hlt=>?_,fun hlt=>?_⟩
 ·have hkl:k<s.wk.length:=by simpa[X.ev,evl,z41,D.int,D.rs,D.tt] using hlt
  simp only[gnZ,qdf,q67 eW hkl];have hw:((decide ((s.wk.getD k default).ser<1)||decide (s.ser<(s.wk.getD k default).ser)|| !vcP s (s.wk.getD k default).att|| !vcP s (s.wk.getD k default).val))= !wkB vcP s (s.wk.getD k default):=by
   generalize s.wk.getD k default=w;simp only[wkB];by_cases h1:w.ser<1
   ·have:¬1≤w.ser:=by omega
    simp[h1,this]
   ·by_cases h2:s.ser<w.ser
    ·have:¬w.ser≤s.ser:=by omega
     simp[h2,this]
    ·have a1:1≤w.ser:=by omega
     have a2:w.ser≤s.ser:=by omega
     simp[h1,h2,a1,a2]
  refine⟨⟨by omega,by omega⟩,fun hb=>?_,fun hb=>⟨⟨by omega,by omega⟩,?_⟩⟩
  ·rw[hw] at hb;have:=qbq (P:=fun i=>wkB vcP s (s.wk.getD i default)) hkl (by simpa only[uA] using hb);simp only[q70,this,kT]
  ·rw[hw] at hb;exact hB hkl (by simpa only[kI] using hb)
 have hc3:(kH s.wk.length).all (fun i=>wkB vcP s (s.wk.getD i default))=true:=by
  have:k=s.wk.length:=by
   have:¬(k<s.wk.length):=by simpa[X.ev,evl,z41,D.int,D.rs,D.tt] using hlt
   omega
  subst this;exact q3k hP
 simp only[q4o,X.evs,X.ev,q70,hh,hc,ha,hc2,hc3,Bool.and_true]
def q2d:Ct:=⟨20,[],[(.st 26,true),(.st 32,false),(.bool,false)],[],none,[],[]⟩
theorem qi4:EnZ q2d:=fun _ _=>by kernel_rfl
def ql2:Ann:=⟨[0,1,2,3,4,5,6,7],[]⟩
def q5v:Tree:=(.need [(.ok 0 [(.lit (.i 100))])] (.need [(.ok 1 [(.call 0 0 [(.lit (.i 100))])])] (.need [(.ok 3 [(.call 1 2 [(.call 0 0 [(.lit (.i 100))])]),(.call 1 0 [(.call 0 0 [(.lit (.i 100))])]),(.lit (.s ⟨#[97]⟩)),(.call 2 0 [(.lit (.i 1))])]),(.ok 2 [(.lit (.i 1))])] (.leaf [(.call 3 1 [(.call 1 2 [(.call 0 0 [(.lit (.i 100))])]),(.call 1 0 [(.call 0 0 [(.lit (.i 100))])]),(.lit (.s ⟨#[97]⟩)),(.call 2 0 [(.lit (.i 1))])]),(.call 1 0 [(.call 0 0 [(.lit (.i 100))])]),(.and (.and (.eq (.call 0 1 [(.lit (.i 100))]) (.lit (.i 0))) (.eq (.call 1 1 [(.call 0 0 [(.lit (.i 100))])]) (.lit (.i 0)))) (.eq (.call 3 0 [(.call 1 2 [(.call 0 0 [(.lit (.i 100))])]),(.call 1 0 [(.call 0 0 [(.lit (.i 100))])]),(.lit (.s ⟨#[97]⟩)),(.call 2 0 [(.lit (.i 1))])]) (.lit (.i 0))))]))))
theorem qju(g0 g1 g2 g3:GfZ):CdZ [(q22,g0),(qv,g1),(jn,g2),(q06,g3)] ql2 q2d Try.f20 q5v:=fun cd h=>by injection h with h;subst h;kernel_rfl
theorem ql9{g0 g1 g2 g3 g:GfZ}(h0:FOk q22 g0)(h1:FOk qv g1)(h2:FOk jn g2)(h3:FOk q06 g3)(h:HgZ q5v q2d [(q22,g0),(qv,g1),(jn,g2),(q06,g3)] g):FOk q2d g:=jf (qju g0 g1 g2 g3) (.cons h0 (.cons h1 (.cons h2 (.cons h3 .nil)))) rfl rfl qi4 (by decide) h
def q3e:Ct:=⟨8,[],[(.bool,false)],[],none,[],[]⟩
theorem qkm:EnZ q3e:=fun _ _=>by kernel_rfl
def qew:Ann:=⟨[0,1,2,3,4,5,6,7,8,9,48,59],[]⟩
def q2k:Ct:=⟨3,[.val (.st 26),.val (.row 9),.val (.int .i64)],[(.bool,false)],[],none,[],[]⟩
theorem qfd:EnZ q2k:=fun _ _=>by kernel_rfl
def qhy:Ann:=⟨[0,1,2,3,6,7,8,9,10,11,12,13,14,15,16,17,18,36,45,50,61,77,83,100,113,119,135,139,177],[(10,⟨[(6,.bool,false),(10,.row 9,false),(11,.row 2,false),(12,.int .i64,false)],[7],[47,48,49,50,53,54,55,56,57,58,59,60,61,62,13,63,64,65,66,67,68,69,70,71,72,73,74,75,76,77,78,79,80,81,82,83,84,85,86,87,88,89,90,91,92,93,94,95,96,97,51,52,166],[]⟩),
 (15,⟨[(13,.int .i64,false)],[],[63,64,65,66,67,68,69,70,71,72,73,74,75,76,77,78,79],[]⟩),
 (31,⟨[(6,.bool,false),(16,.int .i64,false)],[],[136,137,138,139,143,144,145,146,147,148,149,150,151,152,153,154,142,155,156,17,18,157,158,159,160,161,162,163,164,165,166,167,168,169,170,171,172,173,174,175,176,177,140,141],[]⟩)]⟩
def q4h:Tree:=
 let c:X:=.len (.tok 4)
 let d:X:=.lit (.i 0)
 let e:X:=.tok 9
 let k:X:=.tok 6
 let n:X:=.lit (.i 1)
 let o:X:=.lit (.s ⟨#[97,116,116,114,95,104,111,111,107]⟩)
 let q:X:=.tok 8
 let u:X:=.tok 0
 let x:X:=.call 3 0 []
 let y:X:=.lit (.b .false)
 let c1:X:=.ok 3 []
 let d1:X:=.tok 5
 let f:X:=.ok 11 [(.get (.tok 4) e)]
 let i:X:=.lt q c
 let j:X:=.row [(.call 11 0 [(.get (.tok 4) e)]),(.call 12 0 [(.get d1 e)]),(.call 12 0 [(.tok 2)])]
 let l:X:=.lt e (.len d1)
 let m:X:=.le d e
 let p:X:=.lt k (.len (.tok 1))
 let t:X:=.lt e c
 let v:X:=.get (.tok 1) k
 let z:X:=.or (.not (.call 0 0 [u])) (.not (.call 1 0 [u]))
 let e1:X:=.le d q
 let g1:X:=.le d k
 let h1:X:=.call 4 0 [u]
 let i1:X:=.add k n
 let g:X:=.call 5 0 [h1]
 let b:X:=.call 8 1 [(.tok 7),g,(.call 6 0 [(.tok 2)])]
 let s:X:=.call 8 0 [(.tok 7),g,(.call 6 0 [(.tok 2)])]
 let a1:X:=.call 7 1 [(.tok 7),g,v,(.call 6 0 [k])]
 let b1:X:=.ok 8 [(.tok 7),g,(.call 6 0 [(.tok 2)])]
 let r:X:=.call 9 0 [b]
 let w:X:=.call 9 2 [b]
 let h:X:=.add (.sub (.len r) c) e
 let f1:X:=.get r h
 let a:X:=.not (.not (.eq (.call 10 1 [w,f1]) d))
 (.need [(.ok 0 [u]),(.imp (.not (.not (.call 0 0 [u]))) (.ok 1 [u])),(.imp (.not z) (.ok 2 [u]))] (.br (.or (.or z (.not (.call 2 0 [u]))) (.lt (.lit (.i 10)) (.len (.tok 1)))) (.need [c1] (.leaf [x])) (.need [(.ok 4 [u])] (.need [(.ok 5 [h1])] (.br (.not (.eq (.call 5 1 [h1]) d)) (.need [c1] (.leaf [x])) (.loop 10 3 [y,(.lit (.r [])),(.lit (.r [])),d,(.call 5 2 [h1])] (.br p (.need [(.ok 7 [(.tok 7),g,v,(.call 6 0 [k])]),(.ok 6 [k]),g1,p] (.br (.not (.eq (.call 7 0 [(.tok 7),g,v,(.call 6 0 [k])]) d)) (.need [c1] (.leaf [x])) (.loop 15 8 [d] (.need [(.imp i g1),(.imp i p),(.imp i e1),(.imp i i),(.imp i g1),(.imp i p),(.imp i e1),(.imp i i),(.imp i e1),(.imp i i),(.imp i g1),(.imp i p),(.imp i e1),(.imp i i)] (.br (.and i (.not (.eq (.get (.tok 4) q) v))) (.need [(.rng .i64 (.add q n))] (.back 15 [(.add q n)])) (.br (.eq q c) (.need [g1,p,(.le (.add c n) (.lit (.i 8796093021952)))] (.need [(.le (.add (.len d1) n) (.lit (.i 17592186043904)))] (.need [e1,(.lt q (.len (.app d1 (.row [d]))))] (.need [(.rng .i64 i1)] (.back 10 [(.tok 3),(.app (.tok 4) (.row [v])),(.put (.app d1 (.row [d])) q k),i1,a1]))))) (.need [e1,(.lt q (.len d1))] (.need [(.rng .i64 i1)] (.back 10 [(.tok 3),(.tok 4),(.put d1 q k),i1,a1]))))))))) (.br (.eq c d) (.need [(.imp (.eq s n) c1),b1,(.ok 6 [(.tok 2)])] (.leaf [(.and (.eq s n) x)])) (.need [b1,(.ok 6 [(.tok 2)])] (.br (.not (.eq s d)) (.leaf [y]) (.need [(.ok 9 [b])] (.br (.eq (.call 9 1 [b]) (.lit (.i 13))) (.need [c1] (.leaf [x])) (.br (.or (.or (.not (.eq (.call 9 1 [b]) d)) (.lt (.len r) c)) (.not (.eq (.len (.fld w 3)) d))) (.leaf [y]) (.loop 31 8 [(.tok 3),d] (.br t (.need [(.ok 10 [w,f1]),(.ok 10 [w,f1]),(.le d h),(.lt h (.len r)),(.rng .i64 h),(.rng .i64 (.sub (.len r) c))] (.need [(.imp a (.ok 14 [(.call 10 0 [w,f1]),(.call 13 0 [o,j])])),(.imp a (.ok 13 [o,j])),(.imp a (.ok 12 [(.tok 2)])),(.imp a (.ok 12 [(.get d1 e)])),(.imp a (.ok 12 [(.get d1 e)])),(.imp a f),(.imp a f),(.imp a f),(.imp a m),(.imp a l),(.imp a f),(.imp a f),(.imp a f),(.imp a f),(.imp a f),(.imp a m),(.imp a t),(.imp a m),(.imp a t),(.imp a m),(.imp a t),(.imp a m),(.imp a l),(.imp a m),(.imp a l),(.imp a f),(.imp a f),(.imp a f),(.imp a m),(.imp a t),(.imp a m),(.imp a t),(.imp a m),(.imp a t),(.imp a m),(.imp a t),(.imp a m),(.imp a t),(.imp a m),(.imp a l),(.imp a m),(.imp a l),(.imp a m),(.imp a l),(.imp a f),(.imp a m),(.imp a t),(.imp a m),(.imp a t),(.imp a m),(.imp a t),(.imp a m),(.imp a l),(.imp a m),(.imp a l),(.imp a m),(.imp a t)] (.br (.or (.not (.eq (.call 10 1 [w,f1]) d)) (.not (.call 14 0 [(.call 10 0 [w,f1]),(.call 13 0 [o,j])]))) (.leaf [y]) (.need [(.rng .i64 (.add e n))] (.back 31 [q,(.add e n)]))))) (.need [c1] (.leaf [x])))))))))))))))))
theorem qh4(g0 g1 g2 g3 g4 g5 g6 g7 g8 g9 g10 g11 g12 g13 g14:GfZ):CdZ [(q1k,g0),(q1n,g1),(q2a,g2),(q3e,g3),(q1j,g4),(qv,g5),(jn,g6),(q06,g7),(q1h,g8),(y8,g9),(q1d,g10),(zp,g11),(q07,g12),(yx,g13),(q0l,g14)] qhy q2k Try.f3 q4h:=fun cd h=>by injection h with h;subst h;kernel_rfl
theorem qhs{g0 g1 g2 g3 g4 g5 g6 g7 g8 g9 g10 g11 g12 g13 g14 g:GfZ}(h0:FOk q1k g0)(h1:FOk q1n g1)(h2:FOk q2a g2)(h3:FOk q3e g3)(h4:FOk q1j g4)(h5:FOk qv g5)(h6:FOk jn g6)(h7:FOk q06 g7)(h8:FOk q1h g8)(h9:FOk y8 g9)(h10:FOk q1d g10)(h11:FOk zp g11)(h12:FOk q07 g12)(h13:FOk yx g13)(h14:FOk q0l g14)(h:HgZ q4h q2k [(q1k,g0),(q1n,g1),(q2a,g2),(q3e,g3),(q1j,g4),(qv,g5),(jn,g6),(q06,g7),(q1h,g8),(y8,g9),(q1d,g10),(zp,g11),(q07,g12),(yx,g13),(q0l,g14)] g):FOk q2k g:=jf (qh4 g0 g1 g2 g3 g4 g5 g6 g7 g8 g9 g10 g11 g12 g13 g14) (.cons h0 (.cons h1 (.cons h2 (.cons h3 (.cons h4 (.cons h5 (.cons h6 (.cons h7 (.cons h8 (.cons h9 (.cons h10 (.cons h11 (.cons h12 (.cons h13 (.cons h14 .nil))))))))))))))) rfl rfl qfd (by decide) h
def qwd:List D→Option (List D):=qaz [] 60 q8r
theorem qlb:FOk q07 qwd:=qke fun ds outs hw hg=>q1b (fuel:=60) hg
def qn0:List D→Option (List D):=qaz [] 60 qax
theorem qim:FOk jn qn0:=qii fun ds outs hw hg=>q1b (fuel:=60) hg
def qzo:List D→Option (List D):=qaz [(j5,gTb yj),(q0b,gTi fun t=>min (szT t:Int) 2001),(yd,gTb z6),(yk,gTT qg3)] 60 q75
theorem qxx:FOk q18 qzo:=qik q8m qdk qe4 qfv fun ds outs hw hg=>q1b (fuel:=60) hg
def qjf:List D→Option (List D):=qaz [(zp,gSt q39),(q26,zhb),(yx,gSL q8x),(q18,qzo),(zu,zrd)] 60 q5m
theorem qg4:FOk jb qjf:=qge q2z qgx q4j qxx z0d fun ds outs hw hg=>q1b (fuel:=60) hg
def quz:List D→Option (List D):=qaz [(qu,yv),(y9,qvl),(qb,qdf vcP),(yi,z8u),(yr,j9),(jb,qjf),(zo,z6i vcP q41),(qfm,q5c)] 60 q8n
theorem qlw:FOk q06 quz:=qkl q2e q7q zh qbp qad qg4 q3h fun ds outs hw hg=>q1b (fuel:=60) hg
def z73:List D→Option (List D):=qaz [(qu,yv),(yi,z8u),(yr,j9),(y9,qvl),(ja,zq9),(jb,qjf),(zo,z6i vcP q41),(qfm,q5c)] 60 qco
theorem z0y:FOk q6a z73:=z1y q2e qbp qad q7q qan qg4 q3h fun ds outs hw hg=>q1b (fuel:=60) hg
def z4z:List D→Option (List D):=qaz [(qu,yv),(yi,z8u),(yr,j9)] 60 qch
theorem z2s:FOk q6d z4z:=z0n q2e qbp qad fun ds outs hw hg=>q1b (fuel:=60) hg
def qzy:List D→Option (List D):=qaz [(q1g,qba),(zo,z6i vcP q41)] 60 q6t
theorem qx3:FOk q1e qzy:=qiv qdz q3h fun ds outs hw hg=>q1b (fuel:=60) hg
def qyn:List D→Option (List D):=qaz [(qu,yv),(qb,qdf vcP),(zk,qez),(zo,z6i vcP q41),(q1e,qzy),(q0e,qpt inS),(qy,zdb),(q19,gOr)] 60 q6v
theorem qxb:FOk q1h qyn:=qir q2e zh q3s q3h qx3 qdl q31 qip fun ds outs hw hg=>q1b (fuel:=60) hg
def z4o(r:List D→Option (List D)):List D→Option (List D):=qaz [(yw,r),(zk,qez),(q07,qwd),(yb,qce arS),(zp,gSt q39),(ze,qce q0d)] 60 q50
def quh:List D→Option (List D):=upN z4o 6
theorem qqg:FOk yw quh:=qvg q7a (fun r hr=>qet hr q3s qlb q6n q2z q30 fun ds outs hw hg=>q1b (fuel:=60) hg) 6
def qyl:List D→Option (List D):=qaz [(yw,quh),(qb,qdf vcP)] 60 q6s
theorem qwt:FOk q1d qyl:=qis qqg zh fun ds outs hw hg=>q1b (fuel:=60) hg
def z0j(r:List D→Option (List D)):List D→Option (List D):=qaz [(yq,r)] 60 q4v
def qp5:List D→Option (List D):=upN z0j 6
theorem qpb:FOk yq qp5:=qvg q7b (fun r hr=>qeq hr fun ds outs hw hg=>q1b (fuel:=60) hg) 6
def qtj:List D→Option (List D):=qaz [(yq,qp5)] 60 q5n
theorem qv7:FOk q0n qtj:=qfq qpb fun ds outs hw hg=>q1b (fuel:=60) hg
def qtn:List D→Option (List D):=qaz [] 60 q5p
theorem qw2:FOk q0m qtn:=qgs fun ds outs hw hg=>q1b (fuel:=60) hg
def z17(r:List D→Option (List D)):List D→Option (List D):=qaz [(q0m,qtn),(yu,r)] 60 q4k
def qp4:List D→Option (List D):=upN z17 6
theorem qp9:FOk yu qp4:=qvg q73 (fun r hr=>qeu qw2 hr fun ds outs hw hg=>q1b (fuel:=60) hg) 6
def qp1:List D→Option (List D):=qaz [(q0n,qtj),(yu,qp4)] 60 q4p
theorem qq6:FOk q09 qp1:=qev qv7 qp9 fun ds outs hw hg=>q1b (fuel:=60) hg
def qm7(r:List D→Option (List D)):List D→Option (List D):=qaz [(zg,r)] 60 q2r
def qem:List D→Option (List D):=upN qm7 6
theorem qhx:FOk zg qem:=qvg q3u (fun r hr=>q9u hr fun ds outs hw hg=>q1b (fuel:=60) hg) 6
def qt2:List D→Option (List D):=qaz [(q09,qp1),(zg,qem)] 60 q5r
theorem qv9:FOk q0l qt2:=qfx qq6 qhx fun ds outs hw hg=>q1b (fuel:=60) hg
def qyf:List D→Option (List D):=qaz [] 60 qb6
theorem qxo:FOk q22 qyf:=qxi fun ds outs hw hg=>q1b (fuel:=60) hg
def qiu:List D→Option (List D):=qaz [(q22,qyf),(qv,qfw),(jn,qn0),(q06,quz)] 60 q5v
theorem qkb:FOk q2d qiu:=ql9 qxo qb2 qim qlw fun ds outs hw hg=>q1b (fuel:=60) hg
theorem z78{ct:Ct}{tbl:Tbl}{outs:List D}{fuel:Nat}(ann:Ann)(fn:Func)(cd:Code)(htb:q0v tbl)(hf:uL.funcs[ct.f]? =some fn)(hb:fn.body=some cd)
  (hen:∀args w,(callFunc ct.f args).run uL w=.ok (.enter ct.f args) w)(hsz:ct.ar.length≤fn.ntmps)(har:ct.ars=[])(hden:qaz tbl fuel (qg0 uL tbl ann ct fn cd) []=some outs)(hnp:q9v tbl=true)(hkp:ct.kp=[])(hfl:ct.fl=[]):FOk ct fun _=>some outs:=
 ziv ann fn cd htb hf hb hen hsz (fun ds o hw hg=>by
  rw[har] at hw;obtain rfl:ds=[]:=hw;injection hg with hg;subst hg;exact q1b hden) hnp hkp hfl
def zc9:Ct:=⟨12,[],[(.st 4242424242,true)],[],none,[],[]⟩
theorem zlp:FOk zc9 fun _=>none:=⟨qey,(fun A F p w vs us ds outs h=>by cases h),fun h=>absurd rfl h⟩
noncomputable def awC:Code:=match jA.body with
 |some c=>c
 |none=>.skip
def ztv:Tbl:=[(zc9,fun _=>none),(q2d,qiu),(q6d,z4z),(jn,qn0),(q06,quz),(q6a,z73),(q1h,qyn),(y8,zgg),(q1d,qyl),(zp,gSt q39),(q07,qwd),(yx,gSL q8x),(q0l,qt2)]
theorem zlb:q0v ztv:=.cons zlp (.cons qkb (.cons z2s (.cons qim (.cons qlw (.cons z0y (.cons qxb (.cons qil (.cons qwt (.cons q2z (.cons qlb (.cons q4j (.cons qv9 .nil))))))))))))
theorem zsq:qaz ztv 12 (qg0 uL ztv qew q3e jA awC) []=some [.b true]:=by kernel_rfl
theorem qt8:FOk q3e fun _=>some [.b true]:=z78 qew jA awC zlb (by kernel_rfl) (by kernel_rfl) qkm (by decide) (by kernel_rfl) zsq (by kernel_rfl) (by kernel_rfl) (by kernel_rfl)
end Go.Proofs.Ytdaadonfbnedaaa
