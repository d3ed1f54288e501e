/-
 Lemmas of the walk and plain laws, put together. No condition.
-/
import Derived.ChangeArms
import Derived.OpenShut
import Derived.ProofKit
import Derived.SizedLaws
import Derived.Test.YtdaadonfbnedaaaGreatRows
import Derived.Test.YtdaadonfbnedaaaGreatKi
namespace Go.Proofs.YtdaadonfbnedaaaGreat
open Go.RowKit
set_option linter.unusedVariables false
set_option linter.unusedSimpArgs false
set_option maxRecDepth 100000
open _root_.List renaming length_cons→uA,mem_cons→uC,mem_range→uD,all_eq_true→uF,pairwise_iff_getElem→uG,length_take→uJ,mem_iff_getElem→uK,getElem_of_mem→uM,mem_append→uO,mem_map→uR,take_append_drop→uT,getElem?_eq_none→uU,mem_singleton→uW,getElem?_take→uX,getElem_take→uY,getElem?_map→uZ,ext_getElem?→kA,getElem_mem→kB,drop_length→kC,length_nil→kD,length_map→kE,drop_zero→kF
open _root_.Go.Proofs.Tryz renaming prog→uB
open _root_.Bool renaming not_eq_true'→uE,or_eq_true→uP,true_and→uQ
open _root_.Nat renaming le_refl→uH,zero_le→uL,eq_zero_or_pos→uN,lt_or_ge→kH,le_trans→kI
open _root_.Int renaming toNat_natCast→uI,toNat_zero→kG
variable{ys:List Sy}{c:Ce}
section
theorem z15:q95 ys=true↔ys.length≤1048576∧ys.Nodup∧∀y∈ys,okY y=true:=by
 unfold q95;rw[gnB,gnD,uF];refine and_congr Iff.rfl ?_;constructor
 ·intro h;have h':∀k,k<ys.length→qeb ys k=true:=fun k hk=>h k (uD.2 hk);refine⟨uG.2 fun i j hi hj hij e=>?_,fun y hy=>?_⟩
  ·have:=h' j hj;simp only[qeb,gnB,uE,decide_eq_false_iff_not] at this;refine this.2 ?_;rw[show ys.getD j default=ys[i] by rw[e];simp[gnG,hj]];exact uK.2 ⟨i,by simp;omega,by simp⟩
  ·obtain⟨k,hk,rfl⟩:=uK.1 hy;have:=h' k hk;simp only[qeb,gnB] at this;simpa[gnG,hk] using this.1
 ·rintro⟨hn,ho⟩k hk;have hk:=uD.1 hk;simp only[qeb,gnB,uE,decide_eq_false_iff_not];have e:ys.getD k default=ys[k]:=by simp[gnG,hk]
  rw[e];refine⟨ho _ (kB hk),fun hm=>?_⟩;obtain⟨i,hi,he⟩:=uK.1 hm;have hi2:i<k:=by simp at hi;omega
  rw[uY] at he;exact uG.1 hn i k (by omega) hk hi2 he
def ze4(ys:List Sy):Prop:=ys.Nodup∧∀y∈ys,okY y=true
theorem zb0{y:Sy}(h:ze4 ys)(hy:okY y=true):ze4 (qb5 ys y):=by
 unfold qb5;split
 ·exact h
 ·rename_i hm;refine⟨List.nodup_append.2 ⟨h.1,by simp,fun a ha b hb e=>?_⟩,fun z hz=>?_⟩
  ·rw[uW.1 hb] at e;exact hm (e▸ha)
  ·rcases uO.1 hz with hz|hz
   ·exact h.2 z hz
   ·rw[uW.1 hz];exact hy
mutual
theorem z5s:∀(t:Te)(ys:List Sy),zq t=true→ze4 ys→ze4 (q33 ys t)
 | .mk k n nm l, ys, hn, h => by
  rw[zq,gnB] at hn;rw[q33];refine qz4 l _ hn.2 ?_;rcases q1t hn.1 with⟨rfl,rfl,h1,h2⟩|⟨rfl,rfl⟩|⟨rfl,rfl,h1⟩|⟨rfl,h1,h2,h3⟩
  ·exact h
  ·exact h
  ·refine zb0 h ?_;simp[okY];omega
  ·refine zb0 h ?_;simp[okY];omega
theorem qz4:∀(l:List Te)(ys:List Sy),q0m l=true→ze4 ys→ze4 (q0e ys l)
 |[],ys,_,h=>by rw[q0e];exact h
 |t::l,ys,hn,h=>by
  rw[q0m,gnB] at hn;rw[q0e];exact qz4 l _ hn.2 (z5s t ys hn.1 h)
end
structure Vgood(S:So)(c:Ce):Prop where
 vc:vcR S c=true
 no5:c.t≠5
 ends:c.t=0→q3g S S.cs.length c.n=true
section
variable{s S:So}{f:Int→Ce}{V:List Int}
theorem z35(hf:∀v∈V,Vgood S (f v)){t:Te}(hi:inV V t)(hn:zq t=true)(h:Rh S f t c):Vgood S c:=by
 obtain⟨k,n,nm,l⟩:=t;rw[zig] at hi;rw[Rh] at h;rcases h with⟨rfl,rfl⟩|⟨rfl,rfl⟩|⟨rfl,ht,y,hy,hs⟩|⟨rfl,ht,p,y,hp,hc,hs,hl⟩
 ·exact hf n (hi.1 rfl)
 ·exact⟨rfl,fun h=>absurd h (by decide:¬(1:Int)=5),fun h=>absurd h (by decide:¬(1:Int)=0)⟩
 ·obtain⟨q1,q2⟩:=zc0 hs;refine⟨?_,by omega,fun h=>by omega⟩;unfold vcR;rw[if_neg (by omega),if_neg (by omega),if_pos ht,hy,q1];rfl
 ·obtain⟨q3,q4⟩:=cell_of hc;refine⟨?_,by omega,fun h=>by omega⟩;unfold vcR;rw[if_neg (by omega),if_neg (by omega),if_neg (by omega),if_pos ht,hp,q34 q3,q4];rfl
theorem Vgood.no4(h:Vgood S c):c.t≠4:=fun e=>by
 rcases z2x h.vc with q|q|q|q|q<;>omega
theorem z14(E:Ext s S)(hs:S.ser=s.ser){i:Int}(h:qjh s i=true):qjh S i=true:=by
 simp only[qjh,gnB,gnD,uE,decide_eq_false_iff_not] at h⊢;obtain⟨h1,h2,h3,h4,h5,h6⟩:=h;have i1:=qdb (by decide) h1;have i2:=zq7 h4;rw[E.tag (qs.1 i1).2,E.tag (qs.1 i2).2,(E.inS i1).2,hs];exact⟨h1,h2,h3,h4,h5,h6⟩
theorem zdm(E:Ext s S)(h:zi s=true)(hs:S.ser=s.ser){i:Int}(hi:inS s i=true):q7m S i=true:=by
 have hc:=qsf h hi;have he:=qfa h hi;have hl:=E.len;unfold q7m at hc⊢;rw[(E.inS hi).2];split at hc
 ·rename_i ht;rw[if_pos ht];simp only[gnB,gnD,uF,uD,uE,decide_eq_false_iff_not] at hc⊢;obtain⟨h1,h2,h3⟩:=hc;rw[(E.ar (by omega)).1];have q:=qs.1 h2;refine⟨h1,(E.inS h2).1,fun j hj=>?_⟩;rw[E.tag (by omega)];exact h3 j hj
 ·rename_i ht;rw[if_neg ht];simp only[gnB,uP,gnD] at hc⊢;obtain⟨h1,h2,h3⟩:=hc;refine⟨E.vc h1,?_,h3.imp id fun q=>⟨q.1,z14 E hs q.2⟩⟩;exact qgi (by omega) (E.ends h _ _ hi he)
theorem zls(E:Ext s S)(hs:S.ser=s.ser){u:Un}(h:qws s u=true):qws S u=true:=by
 simp only[qws,zrt,gnB] at h⊢;obtain⟨h1,h2⟩:=h;have q:=qs.1 h1;refine⟨(E.inS h1).1,?_⟩;split at h2
 ·rename_i h3;rw[if_pos h3];exact h2
 rename_i h3;rw[if_neg h3];split at h2
 ·rename_i h4;rw[if_pos h4];simp only[gnB] at h2⊢;refine⟨h2.1,z14 E hs h2.2.1,?_⟩;rw[E.tag (by omega)];exact h2.2.2
 rename_i h4;rw[if_neg h4];split at h2
 ·rename_i h5;rw[if_pos h5];exact E.vc h2
 ·cases h2
theorem zj6(E:Ext s S)(hs:S.ser=s.ser){w:Wk}(h:wkB vcR s w=true):wkB vcR S w=true:=by
 simp only[wkB,gnB] at h⊢;rw[hs];exact⟨h.1,h.2.1,E.vc h.2.2.1,E.vc h.2.2.2⟩
theorem ze8(hf:∀v∈V,Vgood S (f v)){i:Nat}(h:z4w S f (fun t=>zq t=true∧inV V t) i):q7m S i=true:=by
 have e1:∀k:Nat,(k:Int).toNat=k:=fun k=>uI k;rcases h with⟨y,k,nm,hc,hy,h1,h2,hj⟩|⟨t,c,⟨hn,hi⟩,hc,hr⟩
 ·obtain⟨q1,q2⟩:=cell_of hc;obtain⟨q3,q4⟩:=zc0 hy;unfold q7m;rw[q2,if_pos rfl];simp only[q3,e1,gnB,gnD,uF,uD,uE,decide_eq_false_iff_not];refine⟨by omega,?_,fun j hjk=>?_⟩
  ·obtain⟨t,c,-,g1,-⟩:=hj k h1 (uH _);exact(cell_of g1).1
  ·obtain⟨t,c,⟨g0,g00⟩,g1,g2⟩:=hj (j+1) (by omega) (by omega);obtain⟨g3,g4⟩:=cell_of g1;have e:((i:Int)+((j:Int)+1))=((i+(j+1):Nat):Int):=by omega
   rw[e,q34 g3,g4];exact(z35 hf g00 g0 g2).no4
 ·obtain⟨q1,q2⟩:=cell_of hc;have hg:=z35 hf hi hn hr;unfold q7m;rw[q2,if_neg hg.no4,hg.vc];simp only[uQ,gnB,uP];refine⟨?_,.inl (by simp[hg.no5])⟩;unfold qot;by_cases hN:Ns S i
  ·rw[q5d hN,nx,q2];refine hg.ends ?_;have:=hN.1;rwa [q34 q1,q2] at this
  ·exact q8o hN
theorem zej(h:zi s=true)(E:Ext s S)(hm:S.mx=s.mx)(ht:S.tr=s.tr)(hw:S.wk=s.wk)(hs:S.ser=s.ser)(hc:(S.cs.length:Int)≤S.mx)(hy:q95 S.ys=true)(hf:∀v∈V,Vgood S (f v))(hn:∀i,s.cs.length≤i→i<S.cs.length→z4w S f (fun t=>zq t=true∧inV V t) i):zi S=true:=by
 have hh:=qs8 h;have h0:=h;simp only[zi,qg2,gnB,gnD] at h hh⊢;obtain⟨-,h2,h3,h4⟩:=h;rw[hm,hs,ht,hw];refine⟨⟨hh.1,hh.2.1,by rw[←hm];exact hc,hh.2.2.2.1,hy⟩,q8m fun i hi=>?_,q8m fun i hi=>zls E hs (qur h3 hi),q8m fun i hi=>zj6 E hs (qur h4 hi)⟩;rcases kH i s.cs.length with h5|h5
 ·exact zdm E h0 hs (qs.2 ⟨by omega,by omega⟩)
 ·exact ze8 hf (hn i h5 hi)
end
end
def Fr(all:List Vc)(n:Nat)(H:Nat→Prop):Prop:=∀v c,ofV all v=some c→∃p:Nat,c=⟨0,p⟩∧p<n∧¬H p
def Inj(all:List Vc):Prop:=∀v w c,ofV all v=some c→ofV all w=some c→v=w
theorem Inj.ins{all:List Vc}{n:Int}(h:Inj all)(ho:ofV all n=none)(hc:∀v,ofV all v≠some c):Inj (qa9 all n c):=fun v w d hv hw=>by
 rw[q6c ho] at hv hw;split at hv<;>split at hw
 ·rename_i h1 h2;exact h1.trans h2.symm
 ·cases hv;exact absurd hw (hc w)
 ·cases hw;exact absurd hv (hc v)
 ·exact h v w d hv hw
mutual
theorem z4q:∀(t:Te)(q:Sv)(a:Int)(H:Nat→Prop),zq t=true→SV q.2→Fr q.2 q.1.cs.length H→(0≤a→H a.toNat)→(∀p,H p→p<q.1.cs.length)→Inj q.2→Inj (z9 q t a).2.2∧Fr (z9 q t a).2.2 (z9 q t a).2.1.cs.length (fun p=>H p∧(p:Int)≠a)
 | .mk k n nm l, q, a, H, hn, hs, hf, ha, hH, hi => by
  have hm:=qai (a:=a) hn hs;rw[zq,gnB] at hn;rcases q1t hn.1 with⟨rfl,rfl,h1,h2⟩|⟨rfl,rfl⟩|⟨rfl,rfl,h1⟩|⟨rfl,h1,h2,h3⟩
  ·rw[q9m] at hm⊢;cases ho:ofV q.2 n with
   |some c=>
    simp only[ho] at hm⊢;exact⟨hi,fun v c hv=>(hf v c hv).imp fun p⟨e1,e2,e3⟩=>⟨e1,e2,fun q=>e3 q.1⟩⟩
   | none =>
    by_cases h0:a<0
    ·simp only[ho,if_pos h0] at hm⊢;refine⟨hi.ins ho fun v hv=>?_,fun v c hv=>?_⟩
     ·obtain⟨p,e1,e2,-⟩:=hf v _ hv;have:=congrArg Ce.n e1;simp only at this;omega
     ·rw[q6c ho] at hv;split at hv
      ·cases hv;exact⟨_,rfl,by simp,fun h=>absurd (hH _ h.1) (Nat.lt_irrefl _)⟩
      ·obtain⟨p,e1,e2,e3⟩:=hf v c hv;exact⟨p,e1,by omega,fun q=>e3 q.1⟩
    ·simp only[ho,if_neg h0] at hm⊢;have e:(a.toNat:Int)=a:=Int.toNat_of_nonneg (by omega);have haH:=ha (by omega);refine⟨hi.ins ho fun v hv=>?_,fun v c hv=>?_⟩
     ·obtain⟨p,e1,e2,e3⟩:=hf v _ hv;have:=congrArg Ce.n e1;simp only at this;have:p=a.toNat:=by omega
      subst this;exact e3 haH
     ·rw[q6c ho] at hv;split at hv
      ·cases hv;exact⟨a.toNat,by rw[e],hH _ haH,fun h=>h.2 e⟩
      ·obtain⟨p,e1,e2,e3⟩:=hf v c hv;exact⟨p,e1,by omega,fun q=>e3 q.1⟩
  ·rw[qdd];exact⟨hi,fun v c hv=>(hf v c hv).imp fun p⟨e1,e2,e3⟩=>⟨e1,e2,fun q=>e3 q.1⟩⟩
  ·rw[qdj] at hm⊢;exact⟨hi,fun v c hv=>(hf v c hv).imp fun p⟨e1,e2,e3⟩=>⟨e1,by have hm:=hm;simp only at hm⊢;omega,fun q=>e3 q.1⟩⟩
  ·rw[qe4] at hm⊢;have hg:=qkq q.1 (jp q.1 nm (l.length:Nat)).1 l.length;have ih:=z08 l ({(jp q.1 nm (l.length:Nat)).2 with cs:=grow q.1 (jp q.1 nm (l.length:Nat)).1 l.length},q.2) (q.1.cs.length+1) (fun p=>H p∨q.1.cs.length+1≤p∧p<q.1.cs.length+1+l.length) hn.2 hs (fun v c hv=>by
    obtain⟨p,e1,e2,e3⟩:=hf v c hv;refine⟨p,e1,?_,?_⟩
    ·show p<(grow _ _ _).length
     omega
    ·rintro(h|h)
     ·exact e3 h
     ·omega) (fun p hp=>by
    show p<(grow _ _ _).length
    rcases hp with h|h
    ·have:=hH p h;omega
    ·omega) (fun i g1 g2=>.inr ⟨g1,g2⟩) hi
   obtain⟨i1,i2⟩:=ih;refine⟨i1,fun v c hv=>?_⟩;obtain⟨p,e1,e2,e3⟩:=i2 v c hv;refine⟨p,e1,e2,fun h=>e3 ⟨.inl h.1,fun r=>?_⟩⟩;have:=hH p h.1;omega
theorem z08:∀(l:List Te)(q:Sv)(to:Nat)(H:Nat→Prop),q0m l=true→SV q.2→Fr q.2 q.1.cs.length H→(∀p,H p→p<q.1.cs.length)→(∀i,to≤i→i<to+l.length→H i)→Inj q.2→Inj (je q l to).2∧Fr (je q l to).2 (je q l to).1.cs.length (fun p=>H p∧¬(to≤p∧p<to+l.length))
 |[],q,to,H,_,_,hf,_,_,hi=>by
  rw[je];exact⟨hi,fun v c hv=>(hf v c hv).imp fun p⟨e1,e2,e3⟩=>⟨e1,e2,fun q=>e3 q.1⟩⟩
 | t :: l, q, to, H, hn, hs, hf, hH, hr, hi => by
  rw[q0m,gnB] at hn;rw[uA] at hr;rw[je];have h4:=(q2x t q (to:Nat) hn.1 hs).2.2.2;have hm:=qai (a:=(to:Nat)) hn.1 hs;obtain⟨i1,i2⟩:=z4q t q (to:Nat) H hn.1 hs hf (fun _=>by rw[uI];exact hr to (uH _) (by omega)) hH hi;have hL:=q3r (z9 q t (to:Nat)).2.1 to (z9 q t (to:Nat)).1;obtain⟨j1,j2⟩:=z08 l (qcn (z9 q t (to:Nat)).2.1 to (z9 q t (to:Nat)).1,(z9 q t (to:Nat)).2.2) (to+1) (fun p=>H p∧(p:Int)≠(to:Nat)) hn.2 h4 (by rw[hL];exact i2) (fun p hp=>by
   rw[hL];have:=hH p hp.1;omega) (fun i g1 g2=>⟨hr i (by omega) (by omega),by omega⟩) i1
  refine⟨j1,fun v c hv=>?_⟩;obtain⟨p,e1,e2,e3⟩:=j2 v c hv;refine⟨p,e1,e2,fun h=>e3 ⟨⟨h.1,fun r=>?_⟩,fun r=>?_⟩⟩
  ·have h2:=h.2;rw[uA] at h2;omega
  ·have h2:=h.2;rw[uA] at h2;omega
end
theorem zjf{l:List Vc}(h:SV l){x:Vc}(hx:x∈l):ofV l x.v=some x.c:=by
 have h1:=h.1;clear h
 induction l with
 |nil=>cases hx
 | cons y l ih =>
  rw[List.pairwise_cons] at h1;rw[ofV];rcases uC.1 hx with rfl|hx
  ·rw[if_pos rfl]
  ·have:=h1.1 x hx;rw[if_neg (by omega)];exact ih hx h1.2
def fOf(all:List Vc)(v:Int):Ce:=q2q ((ofV all v).getD default)
theorem z6a{all:List Vc}{v:Int}(h:ofV all v=some c):fOf all v=q2q c:=by rw[fOf,h];rfl
structure PutOk(s:So)(t:Te)(l:List Vc)(c:Ce)(all:List Vc)(S:So):Prop where
 ext:Ext s S
 rst:Rst s S
 valid:zi S=true
 rep:Rh S (fOf all) t c
 sv:SV all
 of:∀v d,ofV l v=some d→ofV all v=some d
 new:∀v d,ofV all v=some d→ofV l v=some d∨∃p:Nat,d=⟨0,p⟩∧S.cs[p]? =some d
 vc:vcR S c=true
 vv:vvP S all=true
 len:S.cs.length=s.cs.length+q46 t l
 ys:∃m,S.ys=s.ys++m
 vars:∀v,v∈q6y (l.map Vc.v) t↔(ofV all v).isSome=true
 varsG:∀vs:List Int,(∀v,v∈vs↔(ofV l v).isSome=true)→(∀v,v∈q6y vs t↔(ofV all v).isSome=true)∧all.length+vs.length=l.length+(q6y vs t).length
 cnt:all.length=(q6y (l.map Vc.v) t).length
 inj:∀H:Inj l,(∀v d,ofV l v=some d→∃p:Nat,d=⟨0,p⟩∧p<s.cs.length)→Inj all∧∀v d,ofV all v=some d→∃p:Nat,d=⟨0,p⟩∧p<S.cs.length
theorem mem_of{l:List Vc}(v:Int):v∈l.map Vc.v↔(ofV l v).isSome=true:=by
 induction l with
 |nil=>simp[ofV]
 | cons x l ih =>
  rw[List.map_cons,uC,ih,ofV];by_cases h:x.v=v
  ·simp[h]
  ·have h':¬v=x.v:=fun e=>h e.symm;simp[h,h']
theorem ze6{s S:So}(h:zi s=true)(E:Ext s S)(hl:0<S.cs.length)(hc:vcR s c=true):Vgood S (q2q c):=by
 have hL:=E.len;unfold q2q;split
 ·rename_i h5;have ht:q3f s c.n=5:=by
   unfold vcR at hc;rw[if_neg (by omega),if_neg (by omega),if_neg (by omega),if_neg (by omega),if_pos h5] at hc;exact of_decide_eq_true hc
  have hi:=qdb (by decide) ht;have hT:=E.tag (qs.1 hi).2;have hI:=(E.inS hi).1;refine⟨?_,fun h=>absurd h (by decide:¬(0:Int)=5),fun _=>?_⟩
  ·unfold vcR;rw[if_pos rfl];simp only[hI,hT,ht];rfl
  ·obtain⟨k,hk⟩:∃k,S.cs.length=k+1:=⟨S.cs.length - 1,by omega⟩;rw[hk];exact q8o fun q=>by have:=q.1;simp only[hT,ht] at this;omega
 ·rename_i h5;refine⟨E.vc hc,h5,fun h0=>?_⟩;have:=(qm6 hc h0).1;exact qgi hL (E.ends h _ _ this (qfa h this))
theorem qzg{S:So}{p:Nat}(h:S.cs[p]? =some ⟨0,p⟩):Vgood S ⟨0,p⟩:=by
 obtain⟨h1,h2⟩:=cell_of h;have hl:=(gnH.1 h).1;refine⟨?_,fun h=>absurd h (by decide:¬(0:Int)=5),fun _=>?_⟩
 ·unfold vcR;rw[if_pos rfl];simp only[h1,q34 h1,h2];rfl
 ·obtain⟨k,hk⟩:∃k,S.cs.length=k+1:=⟨S.cs.length - 1,by omega⟩;rw[hk];refine q8o fun q=>q.2 ?_
  show(cellAt S (p:Nat)).n=_
  rw[h2]
theorem zs7{s:So}{t:Te}{l:List Vc}(hs:zi s=true)(ht:q01 t=true)(hl:vvP s l=true)(hr:qfm s t l=true):PutOk s t l (z9 (s,l) t (-1)).1 (z9 (s,l) t (-1)).2.2 (z9 (s,l) t (-1)).2.1:=by
 have hA:=z7l hs ht hl hr;simp only[qoj,gnB,gnD] at hA;obtain⟨hn,hsv,-,-,hys,-⟩:=hA;have hcs:(s.cs.length:Int)+((q46 t l:Nat):Int)≤s.mx:=by
  simp only[qfm,gnB,gnD] at hr;omega
 obtain⟨g1,g2,⟨r1,r2,r3,r4⟩,g4⟩:=q2x t (s,l) (-1) hn hsv;have hk:=fun i h=>qzb t (s,l) (-1) i hn hsv h;have hof:=zbk t (s,l) (-1) hn;obtain⟨v1,v2⟩:=qnx t (s,l) (-1) (l.map Vc.v) hn (fun v=>mem_of v);have hvg:=fun vs h=>qnx t (s,l) (-1) vs hn h;have hnew:=z6t (S:=(z9 (s,l) t (-1)).2.1) t (s,l) (-1) hn hsv (fun i _ _=>rfl) (fun h=>absurd h (by decide));have hinj:=fun H h1 h2 h3 h4=>z4q t (s,l) (-1) H hn hsv h1 h2 h3 h4;have hm:=qai (a:= -1) (q:=(s,l)) hn hsv;rw[if_pos (by decide)] at g1;obtain⟨hd1,hd2,hd3,hd4⟩:=z70 hs;obtain⟨m,hpre⟩:=z13 t s.ys;have hrep:=z82 (S:=(z9 (s,l) t (-1)).2.1) (f:=fOf (z9 (s,l) t (-1)).2.2) (P:=fun u=>zq u=true∧inV (q6y (l.map Vc.v) t) u) (fun k n nm l' hp u hu=>by
  rw[zq,gnB,zig] at hp;exact⟨qgb.1 hp.1.2 u hu,z5u.1 hp.2.2 u hu⟩) t (s,l) (-1) ⟨hn,qw2 t _⟩ hn hsv (fun i _ _=>rfl) (fun i y h=>h) (fun v c h=>z6a h)
 have hcz:=qlc t;simp only[q01,gnB,gnD] at ht;generalize z9 (s,l) t (-1)=R at *;obtain⟨rep,news⟩:=hrep;have E:Ext s R.2.1:=⟨fun i h=>hk i h,hm,fun i y h=>by rw[g2];show(q33 s.ys t)[i]? =_;rw[hpre];exact zhx h⟩;have hvs:=qad hs;have hlv:=(qc4.1 hl).2;have hvP:∀c,vcP s c=vcR s c:=hvs.vc;have hsome:∀v d,ofV R.2.2 v=some d→Vgood R.2.1 (q2q d):=fun v d hv=>by
  rcases hnew v d hv with h|⟨p,e,h,-⟩
  ·have hmem:=z2v h;have hvd:vcR s d=true:=by rw[←hvP];exact hlv _ hmem
   have hpos:0<R.2.1.cs.length∨d.t≠0∧d.t≠5:=by
    rcases uN R.2.1.cs.length with h0|h0
    ·right;have hs0:s.cs.length=0:=by have:s.cs.length≤R.2.1.cs.length:=hm;omega
     refine⟨fun q=>?_,fun q=>?_⟩
     ·have:=qs.1 (qm6 hvd q).1;omega
     ·unfold vcR at hvd;rw[if_neg (by omega),if_neg (by omega),if_neg (by omega),if_neg (by omega),if_pos q] at hvd;have:=qs.1 (qdb (by decide) (of_decide_eq_true hvd));omega
    ·exact .inl h0
   rcases hpos with h0|h0
   ·exact ze6 hs E h0 hvd
   ·have:q2q d=d:=if_neg h0.2;rw[this];exact⟨E.vc hvd,h0.2,fun q=>absurd q h0.1⟩
  ·subst e;exact qzg h
 have hgood:∀v∈q6y (l.map Vc.v) t,Vgood R.2.1 (fOf R.2.2 v):=fun v hv=>by
  have:=(v1 v).1 hv;cases ho:ofV R.2.2 v with
  |none=>rw[ho] at this;cases this
  |some d=>rw[z6a ho];exact hsome v d ho
 have hsy:q95 R.2.1.ys=true:=by
  have h0:=z15.1 (z3h hs);refine z15.2 ⟨by rw[g2];exact hys,?_⟩;rw[g2];exact z5s t s.ys hn ⟨h0.2.1,h0.2.2⟩
 have hval:zi R.2.1=true:=zej (V:=q6y (l.map Vc.v) t) (f:=fOf R.2.2) hs E r1 r2 r3 r4 (by rw[g1,r1];show((s.cs.length+q46 t l:Nat):Int)≤s.mx;have hcs:(s.cs.length:Int)+((q46 t l:Nat):Int)≤s.mx:=hcs;omega) hsy hgood news;have hvP2:∀c,vcP R.2.1 c=vcR R.2.1 c:=(qad hval).vc;refine⟨E,⟨r1,r2,r3,r4⟩,hval,rep,g4,hof,fun v d hv=>(hnew v d hv).imp id fun⟨p,e,h,_⟩=>⟨p,e,h⟩,(z35 hgood (qw2 t _) hn rep).vc,qc4.2 ⟨g4,fun x hx=>?_⟩,g1,⟨m,by rw[g2];exact hpre⟩,v1,hvg,?_,fun H hb=>?_⟩
 ·rw[hvP2];rcases hnew _ _ (zjf g4 hx) with h|⟨p,e,h,-⟩
  ·exact E.vc (by rw[←hvP];exact hlv _ (z2v h))
  ·rw[e] at h⊢;exact(qzg h).vc
 ·rw[kE] at v2;have v2:R.2.2.length+l.length=l.length+(q6y (l.map Vc.v) t).length:=v2;omega
 ·obtain⟨i1,i2⟩:=hinj (fun _=>False) (fun v c hv=>(hb v c hv).imp fun p⟨e1,e2⟩=>⟨e1,e2,id⟩) (fun h=>absurd h (by decide)) (fun p h=>h.elim) H;exact⟨i1,fun v d hv=>(i2 v d hv).imp fun p⟨e1,e2,_⟩=>⟨e1,e2⟩⟩
structure GrV(s S:So):Prop where
 ext:Ext s S
 rst:Rst s S
 valid:zi S=true
theorem Ext.refl(s:So):Ext s s:=⟨fun _ _=>rfl,uH _,fun _ _ h=>h⟩
theorem Ext.trans{a b c:So}(h:Ext a b)(k:Ext b c):Ext a c:=⟨fun i hi=>(k.cs i (Nat.lt_of_lt_of_le hi h.len)).trans (h.cs i hi),kI h.len k.len,fun i y hy=>k.ys i y (h.ys i y hy)⟩
theorem GrV.refl{s:So}(h:zi s=true):GrV s s:=⟨Ext.refl s,Rst.refl s,h⟩
theorem GrV.trans{a b c:So}(h:GrV a b)(k:GrV b c):GrV a c:=⟨h.ext.trans k.ext,h.rst.trans k.rst,k.valid⟩
variable{wv:Ce}{x:At}
theorem zfx{s:So}(hv:zi s=true)(he:(qz wv s x).2.2.1=0):∃all,PutOk s (q2l x.name) (q5z x.val wv) (qz wv s x).1 all (qz wv s x).2.2.2:=by
 unfold qz at he⊢;rw[za1 hv] at he⊢;unfold z5b at he⊢;split at he
 ·rename_i h;split at he
  ·rename_i hr;have h':=h;simp only[gnB] at h;simp only[if_pos h',if_pos hr];exact⟨_,zs7 hv h.1 h.2 hr⟩
  ·exact absurd (show(13:Int)=0 from he) (by decide)
 ·exact absurd (show(1:Int)=0 from he) (by decide)
theorem z0y{s:So}(he:¬(qz wv s x).2.2.1=0):(qz wv s x).2.2.2=s∧(qz wv s x).1=⟨0,0⟩:=by
 unfold qz qpa at he⊢;split at he
 ·rename_i h;split at he
  ·exact absurd rfl he
  ·rename_i hr;simp only[if_pos h,if_neg hr];exact⟨trivial,trivial⟩
 ·rename_i h;simp only[if_neg h];exact⟨trivial,trivial⟩
theorem z5z{s:So}(wv:Ce)(x:At)(hv:zi s=true):GrV s (qz wv s x).2.2.2:=by
 by_cases he:(qz wv s x).2.2.1=0
 ·obtain⟨all,P⟩:=zfx hv he;exact⟨P.ext,P.rst,P.valid⟩
 ·rw[(z0y he).1];exact GrV.refl hv
theorem z58(wv:Ce):∀(l:List At)(s:So)(o:List Ce),zi s=true→GrV s (ye wv s o l).1
 |[],s,o,hv=>GrV.refl hv
 |x::l,s,o,hv=>by
  have h1:=z5z wv x hv;unfold ye;split
  ·exact h1.trans (z58 wv l _ _ h1.valid)
  ·exact h1
theorem z67:∀(l:List Wk)(s:So)(o:List Ce),zi s=true→GrV s (q0v s o l).1
 |[],s,o,hv=>GrV.refl hv
 |w::l,s,o,hv=>by
  have h1:=z58 w.val (yb s w.att) s o hv;unfold q0v;split
  ·exact h1.trans (z67 l _ _ h1.valid)
  ·exact h1
theorem zim{s r:So}(h:Ext s r)(k:Rst s r):qvt s r=s:=by
 have h1:r.cs.take s.cs.length=s.cs:=by
  refine kA fun i=>?_;rw[uX];split
  ·rename_i hi;exact h.cs i hi
  ·rename_i hi;exact(uU (by omega)).symm
 have h2:r.ys.take s.ys.length=s.ys:=by
  refine kA fun i=>?_;rw[uX];split
  ·rename_i hi;rw[gnK hi];exact h.ys i _ (gnK hi)
  ·rename_i hi;exact(uU (by omega)).symm
 obtain⟨k1,k2,k3,k4⟩:=k;unfold qvt;rw[h1,h2];cases s;cases r;simp only at k1 k2 k3 k4;subst_vars;simp
def z9i(s:So):List Ce×Int×So:=if(q0v s [] (q1k s.wk)).2.2=0 then((q0v s [] (q1k s.wk)).2.1,0,{(q0v s [] (q1k s.wk)).1 with wk:=[]}) else([],(q0v s [] (q1k s.wk)).2.2,s)
theorem zgi{s:So}(hv:zi s=true):qbm s=z9i s:=by
 unfold qbm z9i;split
 ·rfl
 ·have:=z67 (q1k s.wk) s [] hv;rw[zim this.ext this.rst]
theorem zeg{ky:Wk→Int}{x z:Wk}{l:List Wk}:z∈q2s ky x l↔z=x∨z∈l:=by
 induction l with
 |nil=>simp[q2s]
 | cons y l ih =>
  unfold q2s;split
  ·simp only[uC,ih];constructor
   ·rintro(h|h|h)
    ·exact .inr (.inl h)
    ·exact .inl h
    ·exact .inr (.inr h)
   ·rintro(h|h|h)
    ·exact .inr (.inl h)
    ·exact .inl h
    ·exact .inr (.inr h)
  ·simp only[uC]
theorem zj3{l:List Wk}{z:Wk}:z∈q1k l↔z∈l:=by
 have key:∀(l acc:List Wk),z∈l.foldl (fun acc x=>q2s Wk.ser x acc) acc↔z∈l∨z∈acc:=by
  intro l
  induction l with
  |nil=>intro acc;simp
  | cons x l ih =>
   intro acc;rw[List.foldl_cons,ih,zeg,uC];constructor
   ·rintro(h|h|h)
    ·exact .inl (.inr h)
    ·exact .inl (.inl h)
    ·exact .inr h
   ·rintro((h|h)|h)
    ·exact .inr (.inl h)
    ·exact .inl h
    ·exact .inr (.inr h)
 have:=key l [];simpa[q1k,jb] using this
theorem zdn{l:List Wk}{k:Nat}(h:k<l.length):q1k (l.take (k+1))=q2s Wk.ser (l.getD k default) (q1k (l.take k)):=by
 rw[q7x h];exact qiy _ _
theorem zo2{l:List Wk}{k j:Nat}(h:k<l.length)(hj:j≤k)(h1:∀y∈(q1k (l.take k)).drop j,(l.getD k default).ser<y.ser)(h2:j=0∨((q1k (l.take k)).getD (j - 1) default).ser≤(l.getD k default).ser):(q1k (l.take k)).take j++(l.getD k default)::(q1k (l.take k)).drop j=q1k (l.take (k+1)):=by
 have hs:q7i Wk.ser (q1k (l.take k)):=qah _;have hlen:(q1k (l.take k)).length=k:=by rw[qcz,uJ];omega
 rw[zdn h];generalize q1k (l.take k)=L at *
 conv=>rhs;rw[←uT j L]
 refine(qk8 (fun y hy=>?_) (fun y hy=>h1 y (List.mem_of_mem_head? hy))).symm;rcases h2 with rfl|h2
 ·simp at hy
 ·obtain⟨i,hi,rfl⟩:=uM hy;rw[uJ] at hi;rw[uY];rcases uN j with rfl|hj0
  ·omega
  have hjL:j - 1<L.length:=by omega
  have e:L.getD (j - 1) default=L[j - 1]:=by rw[gnG,gnK hjL];rfl
  rw[e] at h2;rcases kH i (j - 1) with q|q
  ·exact Int.le_trans (uG.1 hs i (j - 1) _ hjL q) h2
  ·obtain rfl:i=j - 1:=by omega
   exact h2
theorem zqw{s:So}(h:zi s=true){w:Wk}(hw:w∈s.wk):wkB vcR s w=true:=by
 unfold zi at h;simp only[gnB] at h;obtain⟨i,hi,rfl⟩:=uM hw;have:=uF.1 h.2.2.2 i (uD.2 hi);rwa [gnG,gnK hi] at this
theorem zjs{nm:ByteArray}(h:nm.size≤100):q2l nm=.mk 3 0 qb6 [.mk 2 0 nm [],.mk 0 0 ⟨#[]⟩ [],.mk 0 1 ⟨#[]⟩ []]:=by
 have e0:vaT 0=.mk 0 0 ⟨#[]⟩ []:=rfl;have e1:vaT 1=.mk 0 1 ⟨#[]⟩ []:=rfl;have e2:qb6.size=9:=rfl;unfold q2l qhy;rw[if_neg (by simp),e0,e1,zit h];unfold qwr;rw[if_pos];have h':((nm.size:Nat):Int)≤100:=by omega
 simp[q01,szT,q4y,zq,q0m,q9z,Te.k,Te.n,Te.s,Te.l,h',e2]
theorem zjy{s:So}(hv:zi s=true)(hx:x∈yb s c):x.name.size≤100:=by
 obtain⟨-,h⟩:=zch (N:=s.ys.map Sy.name) (s:=s) (fun y hy=>uR.2 ⟨y,hy,rfl⟩) c;obtain⟨y,hy,e⟩:=uR.1 (h x hx);rw[←e];obtain⟨i,hi,rfl⟩:=uM hy;have h1:=z3h hv;simp only[q95,gnB] at h1;have h2:=uF.1 h1.2 i (uD.2 hi);simp only[qeb,okY,gnB,gnD] at h2;have e:s.ys.getD i default=s.ys[i]:=by rw[gnG,gnK hi];rfl
 rw[e] at h2;omega
def zas:List D→Option (List D)
 |[s]=>if zi (dS s)&&decide ((dS s).wk.length≤1000) then some [.r ((z9i (dS s)).1.map eC),.i (z9i (dS s)).2.1,eS (z9i (dS s)).2.2] else none
 |_=>none
theorem z4v{s:So}{o:List Ce}{l:List At}{k:Nat}(h:k<l.length):ye wv s o (l.drop k)=if(qz wv s (l.getD k default)).2.2.1=0 then ye wv (qz wv s (l.getD k default)).2.2.2 (o++[(qz wv s (l.getD k default)).1]) (l.drop (k+1)) else((qz wv s (l.getD k default)).2.2.2,[],(qz wv s (l.getD k default)).2.2.1):=by
 rw[qae h];rfl
set_option maxHeartbeats 2000000 in
theorem qw0:FOk q1l zas:=qr6 qbc qhp z1t fun ds outs hw hg=>by
 obtain⟨d,r,rfl,hd,rfl⟩:=hw;obtain⟨s,rfl,hs⟩:=wfS hd;simp only[zas,zr,Option.ite_none_right_eq_some,Option.some.injEq,gnB,gnD] at hg;obtain⟨⟨hv,hwl⟩,rfl⟩:=hg;have hcl:qfw [eS s]=some [eS s]:=by
  simp only[qfw,zr];rw[if_pos (z8n hs)]
 rw[q7y,zz];refine⟨fun st=>∃k:Nat,k≤s.wk.length∧st=[.r ((q1k (s.wk.take k)).map eW),.i k],fun st=>s.wk.length - (st.getD 1 .u).int.toNat,⟨0,uL _,rfl⟩,?_⟩;rintro st - ⟨k,hk,rfl⟩;have hL:(q1k (s.wk.take k)).length=k:=by rw[qcz,uJ];omega
 rw[zw];refine⟨fun hlt=>?_,fun hlt=>?_⟩
 ·-- one wake goes to its place
  simp only[gnZ,gnT] at hlt;have hkl:k<s.wk.length:=by omega
  rw[zz];refine⟨fun st=>∃j:Nat,j≤k∧st=[.i j]∧∀y∈(q1k (s.wk.take k)).drop j,(s.wk.getD k default).ser<y.ser,fun st=>(st.getD 0 .u).int.toNat,⟨k,uH _,?_,fun y hy=>?_⟩,?_⟩
  ·simp only[gnZ,gnT,hL]
  ·rw[List.drop_of_length_le (by omega)] at hy;cases hy
  rintro st - ⟨j,hj,rfl,hP⟩;have hrow:((q1k (s.wk.take k)).map eW).length=k:=by rw[kE,hL]
  have htk:((q1k (s.wk.take k)).map eW).take k=(q1k (s.wk.take k)).map eW:=List.take_of_length_le (by omega);have stop:(j=0∨((q1k (s.wk.take k)).getD (j - 1) default).ser≤(s.wk.getD k default).ser)→((q1k (s.wk.take k)).map eW).take j++eW (s.wk.getD k default)::((q1k (s.wk.take k)).map eW).drop j=(q1k (s.wk.take (k+1))).map eW:=fun h=>by
   rw[←zo2 hkl hj hP h];simp[List.map_take,List.map_drop]
  rcases uN j with rfl|hj0
  ·have e1:decide ((0:Int)<((0:Nat):Int))=false:=by decide
   have hst:eW (s.wk.getD k default)::(q1k (s.wk.take k)).map eW=(q1k (s.wk.take (k+1))).map eW:=stop (.inl rfl)
   simp only[gnZ,gnT,e1,hL,q31 eW hkl,Bool.not_false,Bool.true_or,Bool.false_and,forall_const,uI,kG,kF,htk];refine⟨fun h=>(by cases h),by simp only[uA,kD,hrow];omega,by omega,?_⟩;rw[hst,jg,if_neg (by decide),jg,if_pos rfl];refine⟨⟨k+1,by omega,by simp⟩,?_⟩;simp[D.int];omega
  ·have hj1:((j:Int) - 1)=((j - 1:Nat):Int):=by omega
   have hjL:j - 1<(q1k (s.wk.take k)).length:=by omega
   have e1:decide ((0:Int)<(j:Int))=true:=by simp;omega
   simp only[gnZ,gnT,e1,hL,hj1,q31 eW hkl,q31 eW hjL,Bool.not_true,Bool.false_or,uQ];refine⟨by (try simp);omega,fun hx=>⟨by omega,?_⟩,fun hx=>?_⟩
   ·rw[jg,if_pos rfl];refine⟨⟨j - 1,by omega,rfl,fun y hy=>?_⟩,?_⟩
    ·rw[List.drop_eq_getElem_cons (by omega),show j - 1+1=j by omega] at hy;rcases uC.1 hy with rfl|hy
     ·have e:(q1k (s.wk.take k)).getD (j - 1) default=(q1k (s.wk.take k))[j - 1]:=by rw[gnG,gnK hjL];rfl
      rw[←e];simpa using hx
     ·exact hP y hy
    ·simp[D.int];omega
   have hx2:((q1k (s.wk.take k)).getD (j - 1) default).ser≤(s.wk.getD k default).ser:=by simpa using hx
   have hst:=stop (.inr hx2)
   simp only[uI,kG,kF,htk];refine⟨by simp only[uA,List.length_drop,uJ,hrow];omega,by omega,?_⟩;rw[hst,jg,if_neg (by decide),jg,if_pos rfl];refine⟨⟨k+1,by omega,by simp⟩,?_⟩;simp[D.int];omega
 ·-- the wakes in their order
  simp only[gnZ,gnT] at hlt;obtain rfl:k=s.wk.length:=by omega
  rw[List.take_length] at hL⊢;obtain⟨ws,hws⟩:∃ws,ws=q1k s.wk:=⟨_,rfl⟩;rw[←hws] at hL⊢;have hwm:∀w∈ws,w∈s.wk:=fun w hw=>zj3.1 (hws▸hw);rw[qp];refine⟨⟨by simp only[gnZ,gnT,hcl],trivial⟩,?_⟩;rw[zz];refine⟨fun st=>∃(k:Nat)(sk:So)(o:List Ce),k≤ws.length∧st=[.r [],.i 0,.r (o.map eC),.i k,eS sk]∧GrV s sk∧q0v sk o (ws.drop k)=q0v s [] ws∧o.length≤k * 1048576,fun st=>ws.length - (st.getD 3 .u).int.toNat,⟨0,s,[],uL _,?_,GrV.refl hv,rfl,uL _⟩,?_⟩
  ·simp only[gnZ,gnT,hcl];rfl
  rintro st - ⟨k,sk,o,hk,rfl,hgr,hrun,hol⟩;rw[zw];refine⟨fun hlt=>?_,fun hlt=>?_⟩
  ·simp only[gnZ,gnT] at hlt;have hkl:k<ws.length:=by omega
   have hwv:=zqw hv (hwm _ (q8t hkl));simp only[wkB,gnB,gnD] at hwv;have hA:zcx [eS sk,eC (ws.getD k default).att]=some [qjb (yb sk (ws.getD k default).att),qxa (yb sk (ws.getD k default).att)]:=by
    simp only[zcx,zr,q0t,hgr.valid,hgr.ext.vc hwv.2.2.1,Bool.and_self,if_true]
   have hal:(yb sk (ws.getD k default).att).length≤1048576:=qmx (z3o hgr.valid);rw[qae hkl,qox] at hrun;generalize hw:ws.getD k default=w at hwv hA hal hrun;have hnm:∀x∈yb sk w.att,x.name.size≤100:=fun x hx=>zjy hgr.valid hx;generalize hat:yb sk w.att=L at hA hal hrun hnm;have eg:(D.r (ws.map eW)).get (k:Int)=eW w:=by rw[q31 eW hkl,hw]
   rw[qp];refine⟨by simp only[gnZ,gnT,eg,hA];exact⟨by omega,by omega⟩,?_⟩;rw[zz];refine⟨fun st=>∃(j:Nat)(s':So)(o':List Ce),j≤L.length∧st=[.r [],.i 0,.r (o'.map eC),.i j,eS s']∧GrV sk s'∧ye w.val s' o' (L.drop j)=ye w.val sk o L∧o'.length=o.length+j,fun st=>L.length - (st.getD 3 .u).int.toNat,⟨0,sk,o,uL _,?_,GrV.refl hgr.valid,rfl,rfl⟩,?_⟩
   ·simp only[gnZ,gnT];rfl
   rintro st - ⟨j,s',o',hj,rfl,hg',hrun',hol'⟩;rw[zw];refine⟨fun hlt=>?_,fun hlt=>?_⟩
   ·-- one attribute's hook
    have hnl:(qjb L).rs.length=L.length:=by simp[qjb,D.rs]
    have hvl:(qxa L).rs.length=L.length:=by simp[qxa,D.rs]
    simp only[gnZ,gnT,eg,hA,hnl] at hlt;have hjl:j<L.length:=by omega
    have hxm:=q8t hjl;have en:(qjb L).get (j:Int)=.s (L.getD j default).name:=by
     unfold qjb;rw[List.map_map];exact q31 (fun x:At=>D.s x.name) hjl
    have ev':(qxa L).get (j:Int)=eC (L.getD j default).val:=q31 (fun x:At=>eC x.val) hjl;rw[z4v hjl] at hrun';generalize L.getD j default=x at hxm en ev' hrun';have hP:z9v [eS s',eT (q2l x.name),.r ((q5z x.val w.val).map eV)]=some [eC (qz w.val s' x).1,.r ((qz w.val s' x).2.1.map eV),.i (qz w.val s' x).2.2.1,eS (qz w.val s' x).2.2.2]:=by
     simp only[z9v,zr,q1p,q0d,hg'.valid,if_true,qz,za1 hg'.valid]
    have hgx:=z5z w.val x hg'.valid;have hbad:=z0y (s:=s') (wv:=w.val) (x:=x);rw[zjs (hnm x hxm)] at hP;generalize qz w.val s' x=H at hP hgx hrun' hbad;have e1:D.a ((D.a ((D.a ((eT zT).fs.set 0 (D.i 3))).fs.set 2 (D.s ⟨#[97,116,116,114,95,104,111,111,107]⟩))).fs.set 3 (D.r [D.a ((D.a ((eT zT).fs.set 0 (D.i 2))).fs.set 2 (D.s x.name)),D.a ((eT zT).fs.set 1 (D.i 0)),D.a ((eT zT).fs.set 1 (D.i 1))]))=eT (.mk 3 0 qb6 [.mk 2 0 x.name [],.mk 0 0 ⟨#[]⟩ [],.mk 0 1 ⟨#[]⟩ []]):=rfl;have e2:D.r [D.a [D.i 0,eC x.val],D.a [D.i 1,eC w.val]]=.r ((q5z x.val w.val).map eV):=rfl;simp only[gnZ,gnT,eg,hA,hnl,hvl,en,ev',e1,e2,hP];refine⟨by omega,by omega,fun h0=>?_,fun h0=>?_⟩
    ·-- the put failed
     have h0:¬H.2.2.1=0:=by simpa using h0
     rw[if_neg h0] at hrun';rw[←hrun',if_neg h0] at hrun;simp only[z9i,←hws,←hrun,if_neg h0];rfl
    ·have h0:H.2.2.1=0:=by simpa using h0
     rw[if_pos h0] at hrun';simp only[jg];refine⟨by omega,by omega,⟨j+1,H.2.2.2,o'++[H.1],by omega,by simp,hg'.trans hgx,hrun',by simp;omega⟩,?_⟩;simp[D.int];omega
   ·-- the next wake
    have hnl:(qjb L).rs.length=L.length:=by simp[qjb,D.rs]
    simp only[gnZ,gnT,eg,hA,hnl] at hlt;obtain rfl:j=L.length:=by omega
    rw[kC] at hrun';have hrun':(s',o',(0:Int))=ye w.val sk o L:=hrun';rw[←hrun',if_pos rfl] at hrun;simp only[gnZ,gnT,jg];refine⟨by omega,⟨k+1,s',o',by omega,by simp,hgr.trans hg',hrun,by omega⟩,?_⟩;simp[D.int];omega
  ·simp only[gnZ,gnT] at hlt;obtain rfl:k=ws.length:=by omega
   rw[kC] at hrun;have hrun:(sk,o,(0:Int))=q0v s [] ws:=hrun;simp only[gnZ,gnT,z9i,←hws,←hrun,if_true];rfl
theorem z05(wv:Ce):∀(l:List At)(s:So)(o:List Ce),(ye wv s o l).2.1.length≤o.length+l.length
 |[],s,o=>uH _
 | x :: l, s, o => by
  unfold ye;split
  ·have:=z05 wv l (qz wv s x).2.2.2 (o++[(qz wv s x).1]);simp only[List.length_append,uA,kD] at this⊢;omega
  ·simp
theorem z0z:∀(l:List Wk)(s:So)(o:List Ce),qan s o l=true→(q0v s o l).2.1.length≤o.length+l.length * 1048576
 |[],s,o,_=>Nat.le_add_right _ _
 | w :: l, s, o, h => by
  unfold qan at h;simp only[gnB,uP,gnD] at h;have h1:=qmx (c:=w.att) h.1.1;have h2:=z05 w.val (yb s w.att) s o;unfold q0v;split
  ·rename_i h0;have:=z0z l _ _ (h.2.resolve_left fun q=>q h0);simp only[uA];omega
  ·simp only[uA];omega
theorem zga{s:So}(h:qan s [] (q1k s.wk)=true):(qbm s).1.length≤s.wk.length * 1048576:=by
 have h1:=z0z _ _ _ h;rw[qcz] at h1;unfold qbm;split
 ·simpa using h1
 ·simp
theorem qq2:FOk q0p (fun _=>some [.r [],.i 1]):=qns q90 zgm q4u qfn q6k (FOk.none qk0) fun ds outs hw hg=>by
 injection hg with hg;subst hg;simp only[q6o,gnZ];simp
set_option maxHeartbeats 1000000 in
theorem qxt:FOk q2m fun _=>some [.b true]:=qh4 qsk qvo qbc qhz quu qw0 qq2 qxi fun ds outs hw hg=>by
 obtain⟨d,r,rfl,hd,rfl⟩:=hw;obtain⟨s,rfl,hs⟩:=wfS hd;injection hg with hg;subst hg;have hcl:qfw [eS s]=some [eS s]:=by
  simp only[qfw,zr];rw[if_pos (z8n hs)]
 simp only[q4b,gnZ,gSb,hcl];cases hsm:z2e s with
 |false=>simp
 | true =>
  unfold z2e at hsm;simp only[gnB,gnD] at hsm;have hB:qan s [] (q1k s.wk)=true:=z34 (by omega) (by omega) (by omega);have hW:zk1 [eS s]=some [.r ((qbm s).1.map eC),.i (qbm s).2.1,eS (qbm s).2.2]:=by
   simp only[zk1,zr];rw[if_pos ⟨by omega,by omega,hB⟩]
  simp only[gnZ,hW];cases hv:zi s with
  |false=>simp
  | true =>
   have hW2:zas [eS s]=some [.r ((qbm s).1.map eC),.i (qbm s).2.1,eS (qbm s).2.2]:=by
    simp only[zas,zr,←zgi hv];rw[if_pos (by simp only[hv,uQ,gnD];omega)]
   have hS:∀x:So,zb6 [eS x,eS x]=some [.b true]:=fun x=>by
    simp[zb6]
   have hol:=zga hB;have hl0:s.wk.length≤50:=by omega
   generalize qbm s=R at hW hW2 hol;obtain⟨o,er,s'⟩:=R;simp only at hol hW hW2;simp only[gnZ,hW2,hS];refine⟨fun h=>(by cases h),fun _=>⟨fun h=>(by cases h),fun _=>⟨fun h=>(by cases h),fun _=>?_⟩⟩⟩;rw[zz];refine⟨fun st=>∃k:Nat,k≤o.length∧st=[.b false,.i k],fun st=>o.length - (st.getD 1 .u).int.toNat,⟨0,uL _,rfl⟩,?_⟩;rintro st - ⟨k,hk,rfl⟩;rw[zw];refine⟨fun hlt=>?_,fun hlt=>?_⟩
   ·simp only[gnZ,hW,hcl] at hlt;have hkl:k<o.length:=by omega
    simp only[gnZ,hW,hW2,hcl,jg];refine⟨⟨by omega,by omega,by omega,by omega⟩,fun h=>(by simp at h),fun _=>⟨by omega,⟨k+1,by omega,by simp⟩,?_⟩⟩;simp[D.int];omega
   ·simp only[gnZ,hW,hW2,hcl,hS];simp
variable{T t:TypeId}{v:Value}{W:World}
section
open Go.ChangeShapes Go.WideShapes Go.ChangeAt Go.RowKit
theorem zee:ownKnob uB.godebug=none:=by kernel_rfl
theorem zeu:laidOutB uB=true:=by kernel_rfl
section
variable{H:Type}{enc:TypeId×Value→H}{W:World}{base:Nat}{spare:Nat→Bool}{held:Bool}
def qib(t:TypeId)(d:DataW H):Prop:=∀n∈d.weights uB t,n≤reachBytes
theorem qeh{e:TypeId}:∀{l:List (DataW H)}{d:DataW H},d∈l→∀n∈d.weights uB e,n∈DataW.weightsAll uB e l
 |[],_,h,_,_=>by cases h
 |x::l,d,h,n,hn=>by
  simp only[DataW.weightsAll,uO];rcases uC.1 h with rfl|h
  ·exact .inl hn
  ·exact .inr (qeh h n hn)
theorem qib.each{ts:List TypeId}{l:List (DataW H)}{k:Nat}{d:DataW H}(h:∀n∈DataW.weightsEach uB ts l,n≤reachBytes)(ht:ts[k]? =some t)(hd:l[k]? =some d):qib t d:=fun n hn=>
 h n (DataW.weights_mem_each ht hd n hn)
theorem qzr:reachBytes=LIM:=rfl
theorem z3d{t:Ty}(h:qj T=some t):uB.cellsOf T=t.w:=by
 obtain⟨i,hi,h1,-⟩:=q48 h;simp[Program.cellsOf,hi,h1]
theorem zsn{k:IntKind}(ht:qj t=some (.int k)){n:Int}(h:(Lit.int k n).wf=true):yz k n=true:=by
 have h0:=(q4m ht).2.1;cases k<;>first|(simp[yz] at h0;done)|(simp[Lit.wf,IntKind.min,IntKind.max,IntKind.signed,IntKind.bits] at h;simp[yz];omega)
theorem z8w{a:Addr}(h:W.cell? a=some v):a.spot=none:=by
 unfold World.cell? at h;split at h
 ·split at h
  ·cases h
  ·rename_i hs;simpa using hs
 ·cases h
theorem zgs{F:Nat→Prop}{cs:List Value}:∀{fl:List Field}{fs:List Ty}{o:Nat},q3w fl fs o=true→(∀(j:Nat)(f:Field)(t:Ty),fl[j]? =some f→fs[j]? =some t→∃y,Rd W F y t ((cs.drop f.offset).take t.w))→cs.length=o+widths fs→∃ds,RdF W F ds fs (cs.drop o)
 |[],[],o,_,_,hl=>by
  simp[widths] at hl;exact⟨[],rfl,by rw[List.drop_eq_nil_iff];omega⟩
 |f::l,t::ts,o,hb,hf,hl=>by
  simp only[q3w,gnB] at hb;obtain⟨⟨⟨h1,-⟩,-⟩,h3⟩:=hb;have ho:=gnN h1;rw[q8r] at hl;obtain⟨ds,hds⟩:=zgs h3 (fun j f' t' hj ht=>hf (j+1) f' t' (by simpa using hj) (by simpa using ht)) (by omega);obtain⟨y,hy⟩:=hf 0 f t rfl rfl;refine⟨y::ds,t,ts,(cs.drop o).take t.w,cs.drop (o+t.w),rfl,?_,by rw[←ho];exact hy,hds⟩;rw[←List.drop_drop,uT]
 |[],_::_,o,hb,_,_=>by cases hb
 |_::_,[],o,hb,_,_=>by cases hb
theorem zeh:∀(fuel:Nat){T:TypeId}{t:Ty}(cs:List Value)(x:DataW H×List MemPlace),qj T=some t→qbt t=false→DataW.trod enc uB W base spare held fuel T cs=some x→qib T x.1→∃y,Rd W (fun _=>True) y t cs:=by
 intro fuel
 induction fuel with
 |zero=>intro T t cs x _ _ h;simp[DataW.trod] at h
 | succ fuel ih =>
  intro T t cs x hT hM h hL;cases t with
  |map K V=>cases hM
  |int k=>
   obtain⟨n,rfl,-,hw⟩:=DataW.trod_int (q4m hT).1 h;exact⟨.i n,k,rfl,rfl,zsn hT hw⟩
  |bool=>
   obtain⟨b,rfl,-⟩:=DataW.trod_bool (q5b hT).1 h;exact⟨.b b,rfl,rfl⟩
  |str=>
   obtain⟨s,rfl,rfl,-⟩:=DataW.trod_string (q4p hT).1 h;have:=hL s.data.toList.length (by simp[DataW.weights]);exact⟨.s s,rfl,rfl,by rw[qzr] at this;simpa using this⟩
  | st S =>
   obtain⟨fields,fs,zc,i,hu,hfs,hfb,hi,hsz,-,-,-,-⟩:=q5s hT;obtain⟨xs,n,hn,hx,hlen,hxl,hf⟩:=DataW.trod_struct hu h;obtain rfl:fuel=n:=by omega
   have hw:∀n∈DataW.weightsEach uB (fields.toList.map (·.type)) (xs.map (·.1)),n≤reachBytes:=fun n hn=>hL n (by rw[hx];simp only[DataW.weights,hu];exact hn);have hcl:cs.length=0+widths fs:=by rw[hlen,z3d hT,(qs0 hfs).1];omega
   obtain⟨ds,hds⟩:=zgs (W:=W) (F:=fun _=>True) hfb (fun j f t hj ht=>by
    obtain⟨f',hf',ho,hty,-⟩:=q8y hfb ht;obtain rfl:=gnI (hj.symm.trans hf');have h5:=hf j f (by rw[←Array.getElem?_toList];exact hj);have hjl:j<fields.toList.length:=(gnH.1 hj).1;have hjx:j<xs.length:=by rw[hxl];simpa using hjl
    rw[z3d hty,gnK hjx] at h5;refine ih _ _ hty (znr hfs (List.mem_of_getElem? ht)) h5 (qib.each (k:=j) hw ?_ ?_)
    ·rw[uZ,hj];rfl
    ·rw[uZ,gnK hjx];rfl) hcl
   exact⟨.a ds,S,fs,rfl,hfs,by simpa using hds⟩
  | row E =>
   obtain⟨hu,⟨te,hte⟩,-⟩:=q1y hT;rcases DataW.trod_slice hu h with⟨rfl,hx⟩|⟨a,len,cap,elems,rest,n,hn,rfl,hx,hb,hl,hm,hlen,hel,-⟩
   ·exact⟨.r [],E,te,none,0,rfl,hte,rfl,by simp,by simp,by simp[maxLen],by simp[RdE]⟩
   ·obtain rfl:fuel=n:=by omega
    have hwd:=q39 hte;rw[z3d hte] at hel;have hw:=hL;rw[hx] at hw;simp only[qib,DataW.weights,hu,uC,uO] at hw;have hlen2:len≤LM te:=by
     have:=hw _ (.inl rfl);rw[qzr] at this;have hbe:uB.bytesOf E=te.by:=by
      obtain⟨i,hi,-⟩:=q48 hte;simp[Program.bytesOf,hi,qmv hte hi]
     refine(Nat.le_div_iff_mul_le (zgu hte).1).2 ?_;simp[hbe] at this;have h2:len * te.by≤(elems.length+rest.length) * te.by:=Nat.mul_le_mul_right _ (by omega);exact kI h2 this
    have spot:0<len→a.spot=none:=fun h0=>by
     have h2:=hel 0 h0;rw[gnK (by omega)] at h2;cases hc0:W.cells? base (a.add (0 * te.w)) te.w with
     |none=>rw[hc0] at h2;cases h2
     |some cs0=>
      obtain⟨_,hcl0,hat0⟩:=World.cells?_some hc0;have hp:0<cs0.length:=by omega
      have:=hat0 0 (by omega);rw[gnK hp] at this;exact z8w (a:=a) (v:=cs0[0]) (by simpa[Addr.add] using this)
    have each:∀i,i<len→∃y,zse W (fun _=>True) y te (some a) i:=fun i hi=>by
     have h1:=hel i hi;rw[gnK (by omega)] at h1;cases hc:W.cells? base (a.add (i * te.w)) te.w with
     |none=>rw[hc] at h1;cases h1
     | some cs' =>
      rw[hc] at h1;obtain⟨_,hcl,hat⟩:=World.cells?_some hc;obtain⟨y,hy⟩:=ih cs' _ hte (znn hT hte) h1 (fun n hn=>hw n (.inr (.inl (qeh (uR.2 ⟨_,kB (by omega),rfl⟩) n hn))));have hsp:=spot (by omega);obtain⟨b,o,sp⟩:=a;obtain rfl:sp=none:=hsp;have add:∀k,(Addr.add ⟨b,o,none⟩ (i * te.w)).add k=⟨b,o+i * te.w+k,none⟩:=fun k=>by
       unfold Addr.add;split<;>split<;>simp<;>omega
      refine⟨y,b,o,cs',rfl,trivial,fun j v hj=>?_,hy⟩;have hj':=(gnH.1 hj).1;have:=hat j (by omega);rw[add,hj] at this;exact this
    have pick:∀n,n≤len→∃l:List D,l.length=n∧∀i(h:i<l.length),zse W (fun _=>True) l[i] te (some a) i:=by
     intro n
     induction n with
     |zero=>exact fun _=>⟨[],rfl,fun i hi=>by simp at hi⟩
     | succ n ihn =>
      intro hn;obtain⟨l,hl1,hl2⟩:=ihn (by omega);obtain⟨t,ht⟩:=each n (by omega);refine⟨l++[t],by simp[hl1],fun i hi=>?_⟩;by_cases hin:i<l.length
      ·rw[List.getElem_append_left hin];exact hl2 i hin
      ·obtain rfl:i=l.length:=by simp at hi;omega
       rw[List.getElem_append_right (by omega)];simp[hl1];exact ht
    obtain⟨l,hl1,hl2⟩:=pick len (uH _);exact⟨.r l,E,te,some a,cap,rfl,hte,by rw[hl1],by omega,by omega,hm,q0s.2 fun j hj=>by rw[Nat.zero_add];exact hl2 j hj⟩
theorem zsx{t:Ty}(hT:qj T=some t)(hM:qbt t=false){d:DataW H}{p:List MemPlace}{b0:Nat}{r:Reach}(hv:Value.okWide uB W r b0 T v)(h:DataW.Trod enc uB W base spare held T v d p)(hL:qib T d):
  ∃x cs,j9 t cs v∧Rd W (fun b=>b<W.heap.size) x t cs:=by
 obtain⟨fuel,hf⟩:=h;obtain⟨y,hy⟩:=zeh fuel _ _ hT hM hf hL;refine⟨y,v.cells.toList,?_,Rd.keeps (fun b o _ ho=>⟨ho,qq ho⟩) _ hy⟩;cases t with
 |int k=>obtain⟨n,rfl⟩:=okWide_int (q4m hT).1 hv;rfl
 |bool=>obtain⟨n,rfl⟩:=okWide_bool (q5b hT).1 hv;rfl
 |str=>obtain⟨n,rfl⟩:=okWide_string (q4p hT).1 hv;rfl
 |map K V=>cases hM
 |row E=>obtain⟨A,l,c,rfl⟩:=okWide_slice (q1y hT).1 hv;rfl
 |st S=>
  obtain⟨fields,fs,zc,i,hu,-⟩:=q5s hT;obtain⟨cs,rfl,-⟩:=okWide_struct hu hv;simp[j9,Value.cells]
end
def qzk(W:World):List Ar→List Value→List D→Prop
 |[],vs,ds=>vs=[]∧ds=[]
 |.val t::l,vs,ds=>∃v r d ds',vs=v::r∧ds=d::ds'∧(∃cs,j9 t cs v∧Rd W (FFD (fun _=>True) (fun _=>none) []) d t cs)∧qzk W l r ds'
 |_::_,_,_=>False
theorem qzk.ok{V:List Value}:∀{i:Nat}{ar:List Ar}{vs:List Value}{ds:List D},qzk W ar vs ds→j7 V (fun _=>True) (fun _=>none) W (idx i ar) vs ds∧vs.length=ar.length
 |_,[],vs,ds,h=>⟨h,by rw[h.1];rfl⟩
 |i,.val t::l,vs,ds,⟨v,r,d,ds',e1,e2,h1,h⟩=>by
  obtain⟨h2,h3⟩:=qzk.ok (V:=V) (i:=i+1) h;exact⟨⟨v,r,d,ds',e1,e2,h1,h2⟩,by rw[e1];simp[h3]⟩
 |_,.ref _ _::_,_,_,h=>h.elim
 |_,.rref _::_,_,_,h=>h.elim
 |_,.own _::_,_,_,h=>h.elim
 |_,.mref _::_,_,_,h=>h.elim
 |_,.nils::_,_,_,h=>h.elim
 |_,.nilp::_,_,_,h=>h.elim
 |_,.fn _ _::_,_,_,h=>h.elim
 |_,.cell _ _::_,_,_,h=>h.elim
theorem zdk{ct:Ct}{g:List D→Option (List D)}(h:FOk ct g)(hrs:ct.rs=[(.bool,false)])(hvr:ct.vr=[]){vs:List Value}{ds:List D}(ha:qzk W ct.ar vs ds)(hg:g ds=some [.b true]):
  Calls uB ct.f vs.toArray W fun e W'=>e=.returned (.bool true)∧But Nil W W':=by
 obtain⟨h1,h2⟩:=qzk.ok (V:=vs++[]) (i:=0) ha;refine(h.call (fun _=>True) .no (fun _=>none) W vs [] ds _ hg (qg3.of0 fun _=>rfl) Flo.no (by constructor<;>simp[Flr.no]) h2 (by simpa[Ct.all,hvr,idx] using h1)).mono ?_;rintro e W'(⟨T,-,ho,-⟩|⟨rs,p',rfl,hb,hr,-⟩)
 ·cases ho
 rw[hrs] at hr;obtain⟨v,r,d,ds',rfl,hd,⟨cs,hp,hc⟩,rfl⟩:=hr;simp at hd;obtain⟨rfl,rfl⟩:=hd;obtain⟨e1,e2⟩:D.b true=.b true∧cs=[.bool true]:=⟨rfl,by
  have hc':Rd W' (FFD (fun _=>True) p' []) (.b true) .bool cs:=hc;exact hc'.2⟩
 subst e2;have hpv:[Value.bool true]=[v]:=hp;injection hpv with hpv;subst hpv;exact⟨rfl,hb.but.mono fun i hi _=>by obtain⟨x,hx⟩:=hi;cases hx⟩
end
end Go.Proofs.YtdaadonfbnedaaaGreat
