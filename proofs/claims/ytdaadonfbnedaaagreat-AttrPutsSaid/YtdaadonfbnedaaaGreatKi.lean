/-
 Lemmas of the walk and plain laws, put together. No condition.
-/
import Derived.Great.BuildSlice
import Derived.OwnWalk
import Derived.StillTailTactics
import Derived.TacticsInMore
import Derived.Test.YtdaadonfbnedaaaGreatKh
namespace Go.Proofs.YtdaadonfbnedaaaGreat
open Go.RowKit
set_option linter.unusedVariables false
set_option linter.unusedSimpArgs false
set_option maxRecDepth 100000
set_option linter.unusedSectionVars false
open _root_.List.cons renaming inj→uA
open _root_.Option renaming ite_none_right_eq_some→uB,map_eq_some_iff→kU
open _root_.Int renaming toNat_natCast→uC,toNat_of_nonneg→vI
open _root_.List renaming length_append→uD,length_map→uE,getElem?_append_left→uH,length_cons→uK,length→uN,replicate→uO,length_take→uQ,length_drop→uR,map_cons→uT,getD_cons_zero→uX,getD_cons_succ→uY,append_assoc→uZ,mem_cons→kA,take_of_length_le→kB,mem_range→kE,mem_iff_getElem→kF,getElem?_set_ne→kG,size_toArray→kL,getElem_mem→kM,drop_length→kN,all_eq_true→kO,append_nil→kQ,getElem?_append_right→kR,drop_zero→kS,pairwise_iff_getElem→kT,map_take→kV,length_eq_zero_iff→kW,zipWith→kX,map_nil→kY,getElem?_set_self→kZ,drop_eq_nil_of_le→vA,take_append_drop→vC,mem_cons_of_mem→vD,mem_singleton→vG,mem_cons_self→vH,not_mem_nil→vK,mem_append→vL,map_append→vM,length_nil→vN,take_left→vP,map_drop→vT
open _root_.Bool renaming or_eq_true→uF,not_eq_true'→uM,false_or→uV,or_eq_false_iff→kH,true_and→kI,not_true→kJ,not_false→vQ,false_and→vR,and_false→vS,and_true→vU,and_self→vV,true_or→vY
open _root_.Go.Proofs.Tryz renaming prog→uG,f8→vW
open _root_.Option.some renaming injEq→uI
open _root_.Nat renaming le_refl→uJ,lt_of_lt_of_le→uL,lt_or_ge→uP,zero_le→uW,zero_add→kC,beq→kD,add_sub_cancel→kK,le_add_right→kP,le_trans→vB,min_eq_left→vO,zero_mul→jB
open Builtin renaming append_→uU,clear_→vJ
variable{A F:Nat→Prop}{cs:List Value}{T:TypeId}{p:qi}{pin:Nat}{v:Value}
section
namespace Dl
open Go.RowKit Go.Shelf
abbrev tAt:TypeId:=66
abbrev z77:TypeId:=62
theorem wA:(Ty.st aS).w=3:=by kernel_rfl
def flT(a:At):List Value:=[.string a.name,.int .i64 a.val.t,.int .i64 a.val.n]
def rwA(l:List At):List Value:=l.flatMap flT
theorem qe5(l:List At):(rwA l).length=l.length * 3:=by
 induction l with
 |nil=>rfl
 |cons x l ih=>simp[rwA,flT] at ih⊢;omega
theorem z37(l m:List At):rwA (l++m)=rwA l++rwA m:=List.flatMap_append
theorem z70(x:At)(l:List At):rwA (x::l)=flT x++rwA l:=rfl
theorem zkp{l:List At}:∀v∈rwA l,v.oneCell'=true:=fun v hv=>by
 obtain⟨x,-,hx⟩:=List.mem_flatMap.1 hv
 simp only[flT,kA,vK,or_false] at hx
 rcases hx with rfl|rfl|rfl<;>rfl
theorem zv3{x:At}(h:x.ok)(w:World)(F:Nat→Prop):Rd w F (eA x) (.st aS) (flT x):=
 ⟨_,_,rfl,flA,.str,[qm],[.string x.name],ceL x.val,rfl,rfl,⟨rfl,rfl,h.1⟩,qm,[],ceL x.val,[],rfl,by simp,z03 h.2,rfl,rfl⟩
theorem zrs{w:World}{d:D}(h:Rd w F d (.st aS) cs):∃x:At,x.ok∧d=eA x∧cs=flT x:=by
 obtain⟨l,rfl,hF⟩:=Ins.of_rdS flA h
 obtain⟨d1,l1,c1,c2,rfl,rfl,h1,hG⟩:=Ins.of_rdF hF
 obtain⟨d2,l2,c3,c4,rfl,rfl,h2,hH⟩:=Ins.of_rdF hG
 obtain⟨rfl,rfl⟩:=Ins.of_rdN hH
 obtain⟨x,ha,hx⟩:=wfA ⟨w,F,_,h⟩
 obtain⟨n,v⟩:=x
 have e:=congrArg D.fs ha
 simp only[eA,D.fs,List.cons.injEq,and_true] at e
 obtain⟨rfl,rfl⟩:=e
 obtain rfl:=qzo h2
 obtain⟨-,rfl,-⟩:=h1
 exact⟨⟨n,v⟩,hx,rfl,rfl⟩
theorem z0t{w:World}{b o:Nat}{cur:Array Value}(hc:w.heap[b]? =some (.cells cur T (0,0))):∀{rs:List D}{i:Nat},RdE w F rs (.st aS) (some ⟨b,o,none⟩) i→∃L:List At,rs=L.map eA∧(∀x∈L,x.ok)∧cur.toList.drop (o+i * 3)=rwA L++cur.toList.drop (o+(i+rs.length) * 3)
 |[],i,_=>⟨[],rfl,fun x hx=>(by cases hx),by simp[rwA]⟩
 |d::rs,i,⟨⟨b',o',cs,e,hF,hr,hd⟩,h⟩=>by
  injection e with e
  injection e with e1 e2
  subst e1 e2
  obtain⟨x,hx,rfl,rfl⟩:=zrs hd
  obtain⟨L,rfl,hL,hdr⟩:=z0t hc h
  rw[wA] at hr
  refine⟨x::L,rfl,fun y hy=>(kA.1 hy).elim (fun e=>e▸hx) (hL y),?_⟩
  have:=Ins.range_drop3 hc hr
  rw[this,show o+i * 3+3=o+(i+1) * 3 by omega,hdr,show i+1+(L.map eA).length=i+(eA x::L.map eA).length by simp;omega]
  rfl
theorem zea{w:World}{dep:List Nat}{l:List D}(h:q1g A p w dep pin tAt (.st aS) l v)(h0:0<l.length):
  ∃g cap L post,v=.slice (some ⟨g,0,none⟩) l.length cap∧p pin=some g∧l=L.map eA∧(∀x∈L,x.ok)∧w.heap[g]? =some (.cells (rwA L++post).toArray tAt (0,0))∧l.length≤cap∧cap≤maxLen∧post.length=(cap - l.length) * 3:=by
 rcases h with⟨-,rfl⟩|⟨g,cap,cur,rfl,hg,hh,h1,h2,h3,h4,h5⟩
 ·simp at h0
 ·obtain⟨L,hL,hok,hdr⟩:=z0t (F:=FFD A p (pin::dep)) (o:=0) hh (rs:=l) (i:=0) (q1m.2 fun j hj=>by
   obtain⟨cs,hr,hx⟩:=h5 j hj
   exact⟨g,0,cs,rfl,.inr ⟨pin,by simp,hg⟩,by simpa using hr,hx.mono fun b _ hb=>hb.mono fun x hx=>vD _ hx⟩)
  have hl:=qe5 L
  have hll:l.length=L.length:=by rw[hL,uE]
  simp only[jB,kC,kS] at hdr
  rw[wA] at h3
  have hcl:=congrArg uN hdr
  rw[uD,uR,Array.length_toList] at hcl
  refine⟨g,cap,L,cur.toList.drop (l.length * 3),rfl,hg,hL,hok,?_,h1,h2,?_⟩
  ·rw[←hdr]
   exact hh
  ·rw[uR,Array.length_toList]
   omega
theorem zcu:∀{l:List At}{i:Nat}(h:i<l.length){j:Nat}{v:Value},(flT l[i])[j]? =some v→(rwA l)[i * 3+j]? =some v
 |x::l,0,_,j,v,hj=>by
  rw[jB,kC,z70]
  exact uH (by have:=(gnH.1 hj).1;exact this)▸hj
 |x::l,i+1,h,j,v,hj=>by
  have:=zcu (l:=l) (i:=i) (by simpa using h) (j:=j) (v:=v) (by simpa using hj)
  rw[z70,show(i+1) * 3+j=i * 3+j+3 by omega]
  exact this
theorem qzs{w:World}{b k:Nat}(h:w.heap[b]? =some (.cells cs.toArray T (0,0)))(hv:cs[k]? =some v):w.cell? ⟨b,k,none⟩=some v:=by
 have:=cell_of_row w b k _ T (0,0) h
 rw[this]
 simpa using hv
theorem zmi{w:World}{g cap:Nat}{M:List At}{post:List Value}(hp:p pin=some g)(hM:∀x∈M,x.ok)(hh:w.heap[g]? =some (.cells (rwA M++post).toArray tAt (0,0)))(h1:M.length≤cap)(h2:cap≤maxLen)(h3:post.length=(cap - M.length) * 3)(h4:M.length≤4398046510976):
  q1g A p w [] pin tAt (.st aS) (M.map eA) (.slice (some ⟨g,0,none⟩) M.length cap):=by
 have hl:=qe5 M
 refine .inr ⟨g,cap,_,by rw[uE],hp,hh,by rw[uE];exact h1,h2,by rw[kL,uD,wA];omega,by rw[uE,lmA];exact h4,fun i hi=>?_⟩
 have hi':i<M.length:=by simpa using hi
 refine⟨flT M[i],fun j v hj=>?_,by simpa using zv3 (hM _ (kM hi')) _ _⟩
 rw[wA]
 have:=zcu hi' hj
 exact qzs hh (uH (by have:=(gnH.1 this).1;exact this)▸this)
theorem zhh:uG.underlying z77=some (.slice tAt):=by kernel_rfl
theorem zkg:(uG.info? tAt).map (fun i=>i.size)=some 3:=by kernel_rfl
theorem zm4(w:World):(zeroValue tAt).run uG w=.ok (.agg #[.string ⟨#[]⟩,.int .i64 0,.int .i64 0]) w:=by kernel_rfl
theorem zaf(w:World)(g i m cap mc:Nat)(a:Addr)(cur:Array Value)(t:TypeId)(cs:List Value)
  (hg:w.heap[g]? =some (.cells cur t (0,0)))(hl:cs.length=m * 3)(hsrc:∀j v,cs[j]? =some v→w.cell? (a.add j)=some v)(hroom:i+m≤cap)(hfit:i * 3+cs.length≤cur.size)(h1:∀v∈cs,v.oneCell'=true):
  (uU #[z77,z77] z77 #[.slice (some ⟨g,0,none⟩) i cap,.slice (some a) m mc]).run uG w=
   .ok (.slice (some ⟨g,0,none⟩) (i+m) cap) (w.setRow g (cur.toList.take (i * 3)++cs++cur.toList.drop (i * 3+cs.length)).toArray):=by
 have hld:=run_loadCells_list (P:=uG) w a cs hsrc
 have hst:=run_storeCells_at uG g (i * 3) t cs 0 cur w hg (by simpa using hfit) h1
 obtain⟨ti,hi,e⟩:=kU.1 zkg
 have e:ti.size=3:=e
 rw[hl] at hld
 simp[uU,run_underlying zhh,Builtin.lenOf,Builtin.firstCells,sizeOf,typeInfo,hi,e,hroom,hld,hst,Addr.add_lit]
def zAt:List Value:=[.string ⟨#[]⟩,.int .i64 0,.int .i64 0]
theorem z8z(w:World)(g q c:Nat)(cur:Array Value)(t:TypeId)(hg:w.heap[g]? =some (.cells cur t (0,0)))(hfit:q+3≤cur.size):
  (vJ #[z77] 0 #[.slice (some ⟨g,q,none⟩) 1 c]).run uG w=.ok (.tuple #[]) (w.setRow g (cur.toList.take q++zAt++cur.toList.drop (q+3)).toArray):=by
 have hst:=run_storeCells_at uG g q t zAt 0 cur w hg (by simpa[zAt] using hfit) (fun v hv=>by
  simp only[zAt,kA,vK,or_false] at hv
  rcases hv with rfl|rfl|rfl<;>rfl)
 have hz:(Builtin.zeroCells #[.string ⟨#[]⟩,.int .i64 0,.int .i64 0] 1).toList=zAt:=by kernel_rfl
 have hl:zAt.length=3:=rfl
 rw[hl] at hst
 simp only[Nat.add_zero] at hst
 simp only[vJ,List.getElem?_toArray,List.getElem?_cons_zero,Sem.run_bind,run_underlying zhh,Result.andThen_ok,zm4,Value.cells,hz,hst,Sem.run_pure]
end Dl
end
section
open Go.RowKit Go.Shelf
open Dl
def zbf:List D→Option (List D)
 |[l,i,j]=>if 0≤i.int∧i.int<l.rs.length∧j.int=i.int+1 then some [.r (l.rs.take i.int.toNat++l.rs.drop (i.int.toNat+1))] else none
 |_=>none
theorem zl4{w:World}{d:D}(h:Con A p w d (.row tAt) [(0,pin)] [] cs):∃l v,d=.r l∧cs=[v]∧q1g A p w [] pin tAt (.st aS) l v:=by
 rcases h with⟨E,te,l,v,e,hte,rfl,rfl,h⟩|⟨K,V,kt,vt,l,g,es,clock,e,-⟩
 ·injection e with e
  subst e
  obtain rfl:=gnI (hte.symm.trans tyA)
  exact⟨l,v,rfl,rfl,h⟩
 ·cases e
set_option maxHeartbeats 1000000 in
theorem q2k:FOk zg zbf:=FOk.of_at q8z fun ds outs hw hg=>by
 obtain⟨d,r,rfl,hd,e,r',rfl,he,e2,r2,rfl,he2,hw⟩:=hw
 obtain rfl:r2=[]:=hw
 obtain⟨l,te,rfl,hte,hl,-⟩:=hd.row
 obtain⟨n,rfl,hn⟩:=wfI he
 obtain⟨m,rfl,hm⟩:=wfI he2
 have hg':(if 0≤n∧n<l.length∧m=n+1 then some [D.r (l.take n.toNat++l.drop (n.toNat+1))] else none)=some outs:=hg
 split at hg'
 case isFalse=>cases hg'
 rename_i hc
 obtain⟨h1,h2,rfl⟩:=hc
 injection hg' with hg'
 subst hg'
 clear hg
 intro A F p w vs us hfl hfo hpre hvl hargs
 have hF0:∀te,F.mx te=0:=fun te=>hfl.zero rfl te
 obtain⟨v0,r0,d0,ds0,e0,e00,⟨cs0,hpk0,hc0⟩,v1,r1,d1,ds1,e1,e11,⟨cs1,hpk1,hc1⟩,v2,r2,d2,ds2,e2',e22,⟨cs2,hpk2,hc2⟩,hr⟩:=hargs
 obtain rfl:r2=[]:=hr.1
 subst e1 e2'
 obtain⟨rfl,rfl⟩:=uA e00
 obtain⟨rfl,rfl⟩:=uA e11
 obtain⟨rfl,-⟩:=uA e22
 clear e00 e11 e22 hr
 obtain⟨rfl,rfl⟩:vs=[v0,v1,v2]∧us=[]:=by
  have hl3:vs.length=3:=hvl
  have hus:us.length=0:=by
   have:=congrArg uN e0
   simp at this
   omega
  obtain rfl:=kW.1 hus
  exact⟨by simpa using e0,rfl⟩
 clear e0
 have hc0:Con A p w (D.r l) (.row tAt) [(0,1)] [] cs0:=hc0
 obtain⟨l',u0,q0,rfl,ho0⟩:=zl4 hc0
 injection q0 with q0
 subst q0
 obtain rfl:u0=v0:=(uA hpk0).1
 obtain⟨n',-,e,rfl⟩:=Ins.of_rdI hc1
 injection e with e
 subst e
 obtain rfl:Value.int .i64 n=v1:=(uA hpk1).1
 obtain⟨n',-,e,rfl⟩:=Ins.of_rdI hc2
 injection e with e
 subst e
 obtain rfl:Value.int .i64 (n+1)=v2:=(uA hpk2).1
 obtain⟨g,cap,L,post,rfl,hpg,hL,hLo,hg,hcap,hcm,hpost⟩:=zea ho0 (by omega)
 have hLl:l.length=L.length:=by rw[hL,uE]
 obtain⟨i,rfl⟩:∃i:Nat,n=i:=⟨n.toNat,by omega⟩
 have hi:i<L.length:=by omega
 have hlm:cap≤9223372036854775807:=by unfold maxLen at hcm;omega
 have hout:l.take (i:Int).toNat++l.drop ((i:Int).toNat+1)=(L.take i++L.drop (i+1)).map eA:=by
  rw[hL,uC]
  simp
 have hNo:∀y∈L.take i++L.drop (i+1),y.ok:=fun y hy=>by
  rcases vL.1 hy with h|h
  ·exact hLo y (List.mem_of_mem_take h)
  ·exact hLo y (List.mem_of_mem_drop h)
 have hNl:(L.take i++L.drop (i+1)).length=L.length - 1:=by simp;omega
 have hlL:=qe5 L
 have hlD:=qe5 (L.drop (i+1))
 have hlN:=qe5 (L.take i++L.drop (i+1))
 have hlT:=qe5 (L.take i)
 rw[uR] at hlD
 rw[uQ,vO (by omega)] at hlT
 rw[hNl] at hlN
 have hsp:rwA L=rwA (L.take i)++rwA (L.drop i):=by rw[←z37,vC]
 have hsp2:rwA L=rwA (L.take (i+1))++rwA (L.drop (i+1)):=by rw[←z37,vC]
 have hlT2:=qe5 (L.take (i+1))
 rw[uQ,vO (by omega)] at hlT2
 have hgd:w.drew.heap[g]? =some (.cells (rwA L++post).toArray tAt (0,0)):=hg
 -- the cells behind the append
 have hc1':((rwA L++post).take (i * 3)++rwA (L.drop (i+1))++(rwA L++post).drop (i * 3+(rwA (L.drop (i+1))).length))=rwA (L.take i++L.drop (i+1))++(rwA L++post).drop ((L.length - 1) * 3):=by
  rw[z37,hlD]
  congr 1
  ·congr 1
   rw[hsp,uZ,←hlT,vP]
  ·congr 1
   omega
 have hsz:(rwA L++post).length=cap * 3:=by rw[uD,hlL,hpost,hLl];omega
 have happ:∀o:Addr,o.block=g→(i+1<L.length→o=⟨g,(i+1) * 3,none⟩)→(uU #[z77,z77] z77 #[.slice (some ⟨g,0,none⟩) i cap,.slice (some o) (L.length - (i+1)) (cap - (i+1))]).run uG w.drew=.ok (.slice (some ⟨g,0,none⟩) (L.length - 1) cap) (w.drew.setRow g (rwA (L.take i++L.drop (i+1))++(rwA L++post).drop ((L.length - 1) * 3)).toArray):=fun o ho1 ho2=>by
  have:=zaf w.drew g i (L.length - (i+1)) cap (cap - (i+1)) o (rwA L++post).toArray tAt (rwA (L.drop (i+1))) hgd hlD (fun j v hj=>?_) (by omega) (by rw[hlD];simp only[kL,hsz];omega) zkp
  ·rw[this,show i+(L.length - (i+1))=L.length - 1 by omega]
   rw[←hc1']
  ·have hj':=(gnH.1 hj).1
   rw[hlD] at hj'
   rw[ho2 (by omega)]
   rw[Addr.add_lit]
   refine qzs hgd ?_
   rw[uH (by rw[hlL];omega),hsp2,kR (by omega),hlT2,show(i+1) * 3+j - (i+1) * 3=j by omega]
   exact hj
 have hg1:=setRow_heap w.drew g _ (rwA (L.take i++L.drop (i+1))++(rwA L++post).drop ((L.length - 1) * 3)).toArray tAt (0,0) hgd
 have hclr:=z8z (w.drew.setRow g (rwA (L.take i++L.drop (i+1))++(rwA L++post).drop ((L.length - 1) * 3)).toArray) g ((L.length - 1) * 3) (cap - (L.length - 1)) _ tAt hg1 (by simp only[kL,uD,hlN,uR];simp only[uD] at hsz;omega)
 have hc2':((rwA (L.take i++L.drop (i+1))++(rwA L++post).drop ((L.length - 1) * 3)).toArray.toList.take ((L.length - 1) * 3)++zAt++(rwA (L.take i++L.drop (i+1))++(rwA L++post).drop ((L.length - 1) * 3)).toArray.toList.drop ((L.length - 1) * 3+3))=rwA (L.take i++L.drop (i+1))++(zAt++post):=by
  show((rwA (L.take i++L.drop (i+1))++(rwA L++post).drop ((L.length - 1) * 3)).take ((L.length - 1) * 3)++zAt++(rwA (L.take i++L.drop (i+1))++(rwA L++post).drop ((L.length - 1) * 3)).drop ((L.length - 1) * 3+3))=_
  rw[←hlN,vP,uZ]
  congr 2
  rw[List.drop_append,vA (by omega),List.nil_append,List.drop_drop,hlN,show(L.length - 1) * 3+((L.length - 1) * 3+3 - (L.length - 1) * 3)=(rwA L).length by rw[hlL];omega,List.drop_left]
 rw[hc2',setRow_setRow] at hclr
 rw[show(uN l)=L.length from hLl]
 refine Calls.mono (zld w g cap L.length i hi (by omega) hlm _ _ happ hclr) ?_
 rintro e w'⟨rfl,rfl⟩
 have hbut:But (pinned p) w (w.drew.setRow g (rwA (L.take i++L.drop (i+1))++(zAt++post)).toArray):=q86 (But.refl (pinned p) w).drew (.inl ⟨_,hpg⟩) _
 have hh:=setRow_heap w.drew g _ (rwA (L.take i++L.drop (i+1))++(zAt++post)).toArray tAt (0,0) hgd
 have hp':∀y b,(fun y=>if y=49 then some g else none:qi) y=some b→y=49∧b=g:=fun y b h=>by
  by_cases hy:y=49
  ·subst hy
   exact⟨rfl,(gnI h).symm⟩
  ·simp[hy] at h
 refine .inr ⟨[.slice (some ⟨g,0,none⟩) (L.length - 1) cap],fun y=>if y=49 then some g else none,rfl,⟨?_,?_,hbut,?_,hpre.new,?_,?_,Flo.of0 hF0 hfo⟩,?_,rfl⟩
 ·intro y z b h1 h2
  rw[(hp' y b h1).1,(hp' z b h2).1]
 ·intro y b h
  rw[(hp' y b h).2]
  exact qr hh
 ·intro y b h
  rw[(hp' y b h).2]
  exact .inl ⟨_,hpg⟩
 ·intro y b h
  rw[(hp' y b h).2]
  exact hpre.pa _ _ hpg
 ·intro y b h
  rw[(hp' y b h).2]
  exact .inl ⟨_,_,hh⟩
 ·refine⟨_,_,_,_,rfl,rfl,⟨[.slice (some ⟨g,0,none⟩) (L.length - 1) cap],rfl,?_⟩,rfl⟩
  refine .inl ⟨tAt,.st aS,_,_,rfl,tyA,rfl,rfl,?_⟩
  rw[hout,←hNl]
  refine zmi rfl hNo hh (by rw[hNl];omega) hcm (by rw[hNl,uD,hpost];show 3+_=_;omega) ?_
  rw[hNl]
  have:=hl
  obtain rfl:=gnI (hte.symm.trans tyA)
  rw[lmA] at hl
  omega
end
def qtw:List D→Option (List D):=qbe [] 60 qcv
theorem qlg:FOk q24 qtw:=z25 fun ds outs hw hg=>q15 (fuel:=60) hg
def qm6:List D→Option (List D):=qbe [] 60 qb9
theorem qia:FOk q0y qm6:=qy7 fun ds outs hw hg=>q15 (fuel:=60) hg
def z06:List D→Option (List D):=qbe [(yz,gTb jb),(q09,gTi fun t=>min (szT t:Int) 2001),(yg,gTb z7),(yo,gTT z4d)] 60 q79
theorem qzd:FOk q0x z06:=qib q8q qdn qe3 qfm fun ds outs hw hg=>q15 (fuel:=60) hg
def qiq:List D→Option (List D):=qbe [(yf,gSt q54),(q2a,zjd),(jk,gSL qgp),(q0x,z06),(zy,qsz)] 60 q61
theorem qgj:FOk j7 qiq:=qfi q4r qfl q7a qzd qlx fun ds outs hw hg=>q15 (fuel:=60) hg
def qto:List D→Option (List D):=qbe [(qn,zl),(qz,qlo),(qf,q65 vcP),(zf,zaq),(zh,y9),(j7,qiq),(zs,qr0 vcP q42),(qfe,q5k)] 60 q8o
theorem qkp:FOk q01 qto:=qkh q0d q2c yy q4b q3q qgj q3r fun ds outs hw hg=>q15 (fuel:=60) hg
def z7v:List D→Option (List D):=qbe [(qn,zl),(zf,zaq),(zh,y9),(qz,qlo),(zg,zbf),(j7,qiq),(zs,qr0 vcP q42),(qfe,q5k)] 60 q8p
theorem z2l:FOk q1y z7v:=qkf q0d q4b q3q q2c q2k qgj q3r fun ds outs hw hg=>q15 (fuel:=60) hg
def z6w:List D→Option (List D):=qbe [(qn,zl),(zf,zaq),(zh,y9)] 60 qcr
theorem z4y:FOk q6h z6w:=z4v q0d q4b q3q fun ds outs hw hg=>q15 (fuel:=60) hg
def z13:List D→Option (List D):=qbe [(q14,q5m),(zs,qr0 vcP q42)] 60 q70
theorem qz0:FOk q0w z13:=qin qe7 q3r fun ds outs hw hg=>q15 (fuel:=60) hg
def z1b:List D→Option (List D):=qbe [(qn,zl),(qf,q65 vcP),(zm,qfv),(zs,qr0 vcP q42),(q0w,z13),(q0b,qcp inS),(zj,znr),(q17,gOr)] 60 qaq
theorem qy9:FOk q4t z1b:=qye q0d yy q63 q3r qz0 qjk q93 qyq fun ds outs hw hg=>q15 (fuel:=60) hg
def z72(r:List D→Option (List D)):List D→Option (List D):=qbe [(j4,r),(zm,qfv),(q24,qtw),(jc,qaf arS),(yf,gSt q54),(ja,qaf q37)] 60 q80
def qss:List D→Option (List D):=upN z72 6
theorem qqm:FOk j4 qss:=qvf qcc (fun r hr=>qpd hr q63 qlg qfo q4r qab fun ds outs hw hg=>q15 (fuel:=60) hg) 6
def z1a:List D→Option (List D):=qbe [(j4,qss),(qf,q65 vcP)] 60 qau
theorem qy0:FOk q4m z1a:=qxk qqm yy fun ds outs hw hg=>q15 (fuel:=60) hg
def z2r(r:List D→Option (List D)):List D→Option (List D):=qbe [(yv,r)] 60 q4z
def qp0:List D→Option (List D):=upN z2r 6
theorem qpt:FOk yv qp0:=qvf q77 (fun r hr=>qe9 hr fun ds outs hw hg=>q15 (fuel:=60) hg) 6
def qw1:List D→Option (List D):=qbe [(yv,qp0)] 60 q62
theorem qv3:FOk q0j qw1:=qgo qpt fun ds outs hw hg=>q15 (fuel:=60) hg
def qsl:List D→Option (List D):=qbe [] 60 q5w
theorem qso:FOk q0k qsl:=qfh fun ds outs hw hg=>q15 (fuel:=60) hg
def z2x(r:List D→Option (List D)):List D→Option (List D):=qbe [(q0k,qsl),(yu,r)] 60 q4u
def qos:List D→Option (List D):=upN z2x 6
theorem qpr:FOk yu qos:=qvf q7b (fun r hr=>qei qso hr fun ds outs hw hg=>q15 (fuel:=60) hg) 6
def qoy:List D→Option (List D):=qbe [(q0j,qw1),(yu,qos)] 60 q51
theorem qpw:FOk j5 qoy:=qed qv3 qpr fun ds outs hw hg=>q15 (fuel:=60) hg
def qno(r:List D→Option (List D)):List D→Option (List D):=qbe [(zq,r)] 60 q4e
def qeh:List D→Option (List D):=upN qno 6
theorem qi0:FOk zq qeh:=qvf q7p (fun r hr=>qhl hr fun ds outs hw hg=>q15 (fuel:=60) hg) 6
def qt0:List D→Option (List D):=qbe [(j5,qoy),(zq,qeh)] 60 q9p
theorem qw5:FOk q3x qt0:=qtk qpw qi0 fun ds outs hw hg=>q15 (fuel:=60) hg
def z18:List D→Option (List D):=qbe [] 60 qb7
theorem qxq:FOk q1w z18:=qzf fun ds outs hw hg=>q15 (fuel:=60) hg
def qid:List D→Option (List D):=qbe [(q1w,z18),(z4,z54),(q0y,qm6),(q01,qto)] 60 q6c
theorem qk6:FOk q2d qid:=qll qxq qgi qia qkp fun ds outs hw hg=>q15 (fuel:=60) hg
theorem zax{ct:Ct}{tbl:Tbl}{outs:List D}{fuel:Nat}(ann:Ann)(fn:Func)(cd:Code)(htb:q0r tbl)(hf:uG.funcs[ct.f]? =some fn)(hb:fn.body=some cd)
  (hen:∀args w,(callFunc ct.f args).run uG w=.ok (.enter ct.f args) w)(hsz:ct.ar.length≤fn.ntmps)(har:ct.ars=[])(hden:qbe tbl fuel (qfa uG tbl ann ct fn cd) []=some outs)(hnp:qa3 tbl=true)(hkp:ct.kp=[])(hfl:ct.fl=[]):FOk ct fun _=>some outs:=
 zin ann fn cd htb hf hb hen hsz (fun ds o hw hg=>by
  rw[har] at hw
  obtain rfl:ds=[]:=hw
  injection hg with hg
  subst hg
  exact q15 hden) hnp hkp hfl
def zc8:Ct:=⟨26,[],[(.st 4242424242,true)],[],none,[],[]⟩
theorem zod:FOk zc8 fun _=>none:=⟨qem,(fun A F p w vs us ds outs h=>by cases h),fun h=>absurd rfl h⟩
noncomputable def awC:Code:=match vW.body with
 |some c=>c
 |none=>.skip
def zqx:Tbl:=[(zc8,fun _=>none),(q2d,qid),(q6h,z6w),(q0y,qm6),(q01,qto),(q1y,z7v),(q4t,z1b),(j8,zpy),(q4m,z1a),(yf,gSt q54),(q24,qtw),(jk,gSL qgp),(q3x,qt0)]
theorem zku:q0r zqx:=.cons zod (.cons qk6 (.cons z4y (.cons qia (.cons qkp (.cons z2l (.cons qy9 (.cons qxn (.cons qy0 (.cons q4r (.cons qlg (.cons q7a (.cons qw5 .nil))))))))))))
theorem zru:qbe zqx 12 (qfa uG zqx qeb q3d vW awC) []=some [.b true]:=by kernel_rfl
theorem qv0:FOk q3d fun _=>some [.b true]:=zax qeb vW awC zku (by kernel_rfl) (by kernel_rfl) qlk (by decide) (by kernel_rfl) zru (by kernel_rfl) (by kernel_rfl) (by kernel_rfl)
def q2o:Ct:=⟨45,[.nilp,.val (.int .i64),.val (.st 28)],[(.int .i64,false)],[],none,[],[]⟩
theorem qce:EnZ q2o:=fun _ _=>by kernel_rfl
def z1t(s:So):Bool:=decide (s.cs.length≤300)&&decide (s.ys.length≤100)&&decide (s.tr.length≤300)&&decide (s.wk.length≤50)
theorem qus:FOk q1h (gSb z1t):=qph fun ds outs hw hg=>by
 obtain⟨d,r,rfl,hd,rfl⟩:=hw
 obtain⟨s,rfl,hs⟩:=wfS hd
 simp only[gSb,qy,uI] at hg
 subst hg
 have h1:decide ((s.cs.length:Int)≤300)=decide (s.cs.length≤300):=decide_eq_decide.2 (by omega)
 have h2:decide ((s.ys.length:Int)≤100)=decide (s.ys.length≤100):=decide_eq_decide.2 (by omega)
 have h3:decide ((s.tr.length:Int)≤300)=decide (s.tr.length≤300):=decide_eq_decide.2 (by omega)
 have h4:decide ((s.wk.length:Int)≤50)=decide (s.wk.length≤50):=decide_eq_decide.2 (by omega)
 simp only[q7y,gnZ,z1t,h1,h2,h3,h4]
variable{c:Ce}{a:Int}
section
theorem zhc{s:So}{x:Ce}(h:vcR s x=true):x.t=0∨x.t=1∨x.t=2∨x.t=3∨x.t=5:=by
 unfold vcR at h
 by_cases h0:x.t=0
 ·exact .inl h0
 by_cases h1:x.t=1
 ·exact .inr (.inl h1)
 by_cases h2:x.t=2
 ·exact .inr (.inr (.inl h2))
 by_cases h3:x.t=3
 ·exact .inr (.inr (.inr (.inl h3)))
 by_cases h5:x.t=5
 ·exact .inr (.inr (.inr (.inr h5)))
 ·rw[if_neg h0,if_neg h1,if_neg h2,if_neg h3,if_neg h5] at h
  cases h
section
variable{s:So}(hv:qw s=true)
include hv
theorem z68:∀(k:Nat)(c:Ce),vcR s c=true→(c.t=0→q3h s k c.n=true)→(qad s k c).t=0→cellAt s (qad s k c).n=qad s k c
 |0,c,hc,he,h0=>by cases he h0
 | k + 1, c, hc, he, h0 => by
  unfold qad at h0⊢
  by_cases h:c.t=0∧inS s c.n=true∧cellAt s c.n≠c
  ·rw[if_pos h] at h0⊢
   refine z68 k _ (z84 hv h.2.1 (qb5 hc h.1).2) (fun ht=>?_) h0
   have hn:Ns s c.n:=⟨(q1l h.2.1).trans ht,fun q=>h.2.2 (Ce.ext' (ht.trans h.1.symm) q)⟩
   have:=he h.1
   rwa [q4k hn] at this
  ·rw[if_neg h] at h0⊢
   exact Classical.byContradiction fun q=>h ⟨h0,(qb5 hc h0).1,q⟩
theorem zj4(h:vcR s c=true)(h0:(jt s c).t=0):cellAt s (jt s c).n=jt s c:=by
 unfold jt at h0⊢
 rw[if_pos h] at h0⊢
 exact z68 hv _ _ h (fun h0=>zcv hv (qb5 h h0).1) h0
theorem zq4(hi:inS s a=true):q42 s a=q40 s a:=by
 unfold q42 q40
 have hc:=qds hv hi
 unfold q5t at hc
 by_cases h0:(cellAt s a).t=0
 ·rw[if_pos h0,if_pos (.inl h0)]
 rw[if_neg h0]
 by_cases h5:(cellAt s a).t=5
 ·rw[if_pos h5,if_pos (.inr h5)]
  rw[if_neg (by omega)] at hc
  simp only[gnB,uF,uM,decide_eq_false_iff_not,gnD] at hc
  rcases hc.2.2 with q|q
  ·exact(q h5).elim
  ·simp[q.1]
 have hR:¬((cellAt s a).t=0∨(cellAt s a).t=5):=by omega
 rw[if_neg h5,if_neg hR]
 by_cases h4:(cellAt s a).t=4
 ·have hL:¬((cellAt s a).t=1∨(cellAt s a).t=2∨(cellAt s a).t=3):=by omega
  rw[if_neg hL]
  simp[h4]
 ·rw[if_neg h4] at hc
  simp only[gnB] at hc
  rcases zhc hc.1 with q|q|q|q|q
  ·exact(h0 q).elim
  ·rw[if_pos (.inl q)]
   simp[q]
  ·rw[if_pos (.inr (.inl q))]
   simp[q]
  ·rw[if_pos (.inr (.inr q))]
   simp[q]
  ·exact(h5 q).elim
theorem zbl(a:Int)(c:Ce):q1q vcR q40 s a c=q1q vcP q42 s a c:=by
 unfold q1q
 rw[ziw hv]
 cases hi:inS s a with
 |false=>rfl
 |true=>rw[zq4 hv hi]
end
end
def qod(e:Int)(s' s:So):So:=if e=0 then s' else{s' with cs:=s'.cs.take s.cs.length,ys:=s'.ys.take s.ys.length,tr:=s'.tr.take s.tr.length,ser:=s.ser}
def zf1(e:Int)(s' s:So):Bool:=decide (e=0)||(decide (s.cs.length≤s'.cs.length)&&(decide (s.ys.length≤s'.ys.length)&&decide (s.tr.length≤s'.tr.length)))
theorem q5r{e:Int}{s' s:So}(h:zf1 e s' s=true):q5k [.i e,eS s',eS s]=some [eS (qod e s' s)]:=by
 simp only[q5k,qod]
 have ei:(D.i e).int=e:=rfl
 rw[ei]
 by_cases he:e=0
 ·rw[if_pos he,if_pos he]
 ·simp only[zf1,uF,gnB,gnD] at h
  obtain⟨h0,h1,h2⟩:=h.resolve_left he
  rw[if_neg he,if_neg he]
  simp only[eS,D.fld,D.fs,uX,uY,D.rs,uE]
  rw[if_pos ⟨h0,h1,h2⟩]
  simp[kV]
def apT(l:List At):Te:=liT (qbm l) z58
def qu(s:So)(l:List At):Ce×Int×So:=((qpu s (apT l) (vsA l)).1,(qpu s (apT l) (vsA l)).2.2.1,(qpu s (apT l) (vsA l)).2.2.2)
def apQ(s:So)(l:List At):Bool:=z1s s (apT l) (vsA l)
theorem qvs{s:So}{l:List At}(hv:apQ s l=true)(hl:l.length≤499):zco [eS s,.r (l.map eA)]=some [eC (qu s l).1,.i (qu s l).2.1,eS (qu s l).2.2]:=by
 have h1:dVs (.r ((vsA l).map eV))=vsA l:=q0a _
 unfold apQ at hv
 unfold qu
 simp only[zco,qt,if_pos hl,z6u,qy,ju,h1]
 unfold apT at hv⊢
 rw[if_pos hv]
 simp only[Option.map_some,uX,uY]
def apL(l:List At)(nm:ByteArray)(val:Ce):List At:=if 0≤q1s l nm then l.set (q1s l nm).toNat ⟨(l.getD (q1s l nm).toNat default).name,val⟩ else l++[⟨nm,val⟩]
def apN(s:So)(c:Ce):So:={s with ser:=s.ser+1,cs:=s.cs++[⟨5,(s.cs.length:Nat)⟩,⟨1,s.ser+1⟩,c]}
def apC(s:So)(d:Ce)(l:List At):Int×So:=
 if(qu s l).2.1=0 then(if d.t=5 then q9r (qu s l).2.2 (d.n+2) (qu s l).1 else
  if IntKind.wrap .i64 ((qu s l).2.2.mx - 3)<(qu s l).2.2.cs.length∨1099511627776≤(qu s l).2.2.ser then(13,(qu s l).2.2) else q9r (apN (qu s l).2.2 (qu s l).1) d.n ⟨5,((qu s l).2.2.cs.length:Nat)⟩)
 else((qu s l).2.1,(qu s l).2.2)
def zhl(s:So)(d:Ce)(l:List At):Bool:=qa4 (qu s l).2.2&&(decide ((qu s l).2.2.cs.length+3≤8796093021952)&&(decide (-9223372036854775808≤(qu s l).2.2.ser)&&zf1 (apC s d l).1 (apC s d l).2 s))
def apB(s:So)(v:Ce)(nm:ByteArray)(val:Ce):Bool:= !(zw s v).2||(decide ((zw s v).1.t=5)&& !qb0 s (zw s v).1.n)||decide (100<(nm.size:Int))|| !vcP s val
def apA(s:So)(v:Ce)(nm:ByteArray)(val:Ce):Int×So:=if apB s v nm val then(1,s) else if 499<(apL (jx s (zw s v).1) nm val).length then(2,s) else
 ((apC s (zw s v).1 (apL (jx s (zw s v).1) nm val)).1,qod (apC s (zw s v).1 (apL (jx s (zw s v).1) nm val)).1 (apC s (zw s v).1 (apL (jx s (zw s v).1) nm val)).2 s)
def apO(s:So)(v:Ce)(nm:ByteArray)(val:Ce):Bool:=zfh s&&(qa4 s&&(apB s v nm val||(decide (499<(apL (jx s (zw s v).1) nm val).length)||(apQ s (apL (jx s (zw s v).1) nm val)&&zhl s (zw s v).1 (apL (jx s (zw s v).1) nm val)))))
def zcn:List D→Option (List D)
 |[s,v,nm,val]=>if apO (dS s) (dC v) nm.str (dC val) then some [.i (apA (dS s) (dC v) nm.str (dC val)).1,eS (apA (dS s) (dC v) nm.str (dC val)).2] else none
 |_=>none
theorem z90{s:So}{v:Ce}(h:(zw s v).2=true):inS s (zw s v).1.n=true∧((zw s v).1.t=5→inS s ((zw s v).1.n+2)=true):=by
 unfold zw at h⊢
 split at h
 ·rename_i hv
  simp only[if_pos hv]
  split at h
  ·rename_i h0
   simp only[if_pos h0]
   exact⟨h,fun h5=>by rw[h0] at h5;exact absurd h5 (by decide)⟩
  ·rename_i h0
   simp only[if_neg h0]
   split at h
   ·rename_i h1
    simp only[if_pos h1]
    simp only[gnB] at h
    exact⟨h.1,fun _=>h.2⟩
   ·cases h
 ·cases h
theorem zau(s:So)(c:Ce):D.a ((D.a ((eS s).fs.set 4 (.i (s.ser+1)))).fs.set 0 (.r (s.cs.map eC++[eC ⟨5,(s.cs.length:Nat)⟩,eC ⟨1,s.ser+1⟩,eC c])))=eS (apN s c):=by
 simp[apN,eS,D.fs]
theorem qwd{s:So}{x:D}:(D.a ((eS s).fs.set 4 x)).fld 0=.r (s.cs.map eC):=rfl
theorem z5y{s:So}{x:D}:(D.a ((eS s).fs.set 4 x)).fld 4=x:=rfl
theorem zlh(l:List At)(i:Nat)(a:At):(l.map eA).set i (eA a)=(l.set i a).map eA:=by rw[List.map_set]
set_option maxHeartbeats 2000000 in
theorem z6r:FOk q01 zcn:=qkh q0d q2c yy q4b q3q qih q3r fun ds outs hw hg=>by
 obtain⟨d,r,rfl,hd,e,r',rfl,he,f,r2,rfl,hf,q,r3,rfl,hq,rfl⟩:=hw
 obtain⟨s,rfl,hs⟩:=wfS hd
 obtain⟨v,rfl,hv⟩:=wfC he
 obtain⟨nm,rfl,hn⟩:=hf.str
 obtain⟨val,rfl,hval⟩:=wfC hq
 simp only[zcn,qy,yt,q1z,uB,uI] at hg
 obtain⟨ho,rfl⟩:=hg
 simp only[apO,gnB] at ho
 obtain⟨hlb,hrm,ho⟩:=ho
 have ez:D.a [.i 0,.i 0]=eC ⟨0,0⟩:=rfl
 have hA:(zw s v).2=true→(zw s v).1.t=5→qlo [eS s,eC (zw s v).1]=some [.b (qb0 s (zw s v).1.n)]:=fun h h5=>by
  simp only[qlo,qy,yt]
  rw[if_pos ((z90 h).2 h5)]
 have hBad:(!(zw s v).2||decide ((zw s v).1.t=5)&& !((((qlo [eS s,eC (zw s v).1]).getD []).getD 0 D.u).tt)||decide (100<(nm.size:Int))|| !vcP s val)=apB s v nm val:=by
  unfold apB
  cases h:(zw s v).2 with
  |false=>simp
  | true =>
   by_cases h5:(zw s v).1.t=5
   ·rw[hA h h5]
    simp[h5,q5i]
   ·simp[h5]
 rw[q8o,qj]
 refine⟨by simp only[gnZ,zl],?_⟩
 rw[qj]
 refine⟨?_,?_⟩
 ·simp only[gnZ,zl]
  refine⟨by simp[q65],?_⟩
  cases h:(zw s v).2 with
  |false=>simp
  | true =>
   by_cases h5:(zw s v).1.t=5
   ·rw[hA h h5]
    simp
   ·simp[h5]
 rw[zd]
 refine⟨fun hb=>?_,fun hb=>?_⟩
 ·simp only[gnZ,zl,q65] at hb⊢
  rw[hBad] at hb
  unfold apA
  rw[if_pos hb]
 ·simp only[gnZ,zl,q65] at hb
  rw[hBad] at hb
  have hnb:¬apB s v nm val=true:=by rw[hb];decide
  have hok:(zw s v).2=true:=by
   cases h:(zw s v).2 with
   |true=>rfl
   |false=>
    unfold apB at hb
    rw[h] at hb
    simp at hb
  have hown:=z78 hlb hok
  rw[hb,uV,uF,gnD] at ho
  have hapA:apA s v nm val=if 499<(apL (jx s (zw s v).1) nm val).length then(2,s) else((apC s (zw s v).1 (apL (jx s (zw s v).1) nm val)).1,qod (apC s (zw s v).1 (apL (jx s (zw s v).1) nm val)).1 (apC s (zw s v).1 (apL (jx s (zw s v).1) nm val)).2 s):=by
   unfold apA
   rw[if_neg hnb]
  rw[hapA]
  have hdl:=z69 s (zw s v).1 (of_decide_eq_true hlb)
  obtain⟨hin,hin2⟩:=z90 hok
  generalize hd:(zw s v).1=d at *
  generalize hl:jx s d=l at *
  rw[qj]
  refine⟨by simp only[gnZ,zl,hd,hown],?_⟩
  rw[qj]
  refine⟨by simp only[gnZ,zl,hd,hown,y9],?_⟩
  rw[zd]
  refine⟨fun hi=>?_,fun hi=>?_⟩
  ·simp only[gnZ,zl,hd,hown,y9,qt] at hi
   obtain⟨i1,i2⟩:=qh6 (l:=l) (nm:=nm) (by omega)
   have eg:(D.r (l.map eA)).get (q1s l nm)=eA (l.getD (q1s l nm).toNat default):=z0b eA i1 i2
   rw[qj]
   refine⟨by simp only[gnZ,zl,hd,hown,y9,qt];exact⟨i1,i2⟩,?_⟩
   have eL:(l.map eA).set (q1s l nm).toNat (eA ⟨(l.getD (q1s l nm).toNat default).name,val⟩)=(apL l nm val).map eA:=by
    unfold apL
    rw[if_pos i1,zlh]
   generalize apL l nm val=M at *
   rw[zd]
   refine⟨fun hlen=>?_,fun hlen=>?_⟩
   ·simp only[gnZ,zl,hd,hown,y9,qt,eg,q5u,eL] at hlen⊢
    have hlen:499<M.length:=by omega
    rw[if_pos hlen]
   ·simp only[gnZ,zl,hd,hown,y9,qt,eg,q5u,eL] at hlen
    have hlen:M.length≤499:=by omega
    have ho:=ho.resolve_left (by omega)
    unfold zhl at ho
    simp only[gnB,gnD] at ho
    obtain⟨hvr,q1,q2,q4,q5⟩:=ho
    have hst:=qvs hvr hlen
    rw[if_neg (by omega)]
    rw[qj]
    refine⟨by simp only[gnZ,zl,hd,hown,y9,qt,eg,q5u,eL,hst],?_⟩
    rw[zd]
    refine⟨fun he=>?_,fun he=>?_⟩
    ·simp only[gnZ,zl,hd,hown,y9,qt,eg,q5u,eL,hst] at he
     have he:¬(qu s M).2.1=0:=by simpa using he
     have ec:apC s d M=((qu s M).2.1,(qu s M).2.2):=by
      unfold apC
      rw[if_neg he]
     rw[ec] at q5⊢
     have hk:=q5r q5
     rw[qj]
     refine⟨by simp only[gnZ,zl,hd,hown,y9,qt,eg,q5u,eL,hst,hk],?_⟩
     simp only[gnZ,zl,hd,hown,y9,qt,eg,q5u,eL,hst,hk]
    ·simp only[gnZ,zl,hd,hown,y9,qt,eg,q5u,eL,hst] at he
     have he:(qu s M).2.1=0:=by simpa using he
     rw[zd]
     refine⟨fun h5=>?_,fun h5=>?_⟩
     ·simp only[gnZ,zl,hd,hown,y9,qt,eg,q5u,eL] at h5
      have ec:apC s d M=q9r (qu s M).2.2 (d.n+2) (qu s M).1:=by
       unfold apC
       rw[if_pos he,if_pos h5]
      rw[ec] at q5⊢
      have hse:=qgz q1 (d.n+2) (qu s M).1
      have hk:=q5r q5
      have hi2:=ql.1 (hin2 h5)
      have hsl:=qg1 hs
      unfold i64 at hsl
      rw[qj]
      refine⟨by simp only[gnZ,zl,hd,hown,y9,qt,eg,q5u,eL,hst,hse];exact⟨by omega,by omega⟩,?_⟩
      rw[qj]
      refine⟨by simp only[gnZ,zl,hd,hown,y9,qt,eg,q5u,eL,hst,hse,hk],?_⟩
      simp only[gnZ,zl,hd,hown,y9,qt,eg,q5u,eL,hst,hse,hk]
     ·simp only[gnZ,zl,hd,hown,y9,qt,eg,q5u,eL] at h5
      rw[zd]
      refine⟨fun h6=>?_,fun h6=>?_⟩
      ·simp only[gnZ,zl,hd,hown,y9,qt,eg,q5u,eL,hst,fnD,uF,gnD] at h6
       have ec:apC s d M=(13,(qu s M).2.2):=by
        unfold apC
        rw[if_pos he,if_neg h5,if_pos h6]
       rw[ec] at q5⊢
       have hk:=q5r q5
       rw[qj]
       refine⟨by simp only[gnZ,zl,hd,hown,y9,qt,eg,q5u,eL,hst,hk],?_⟩
       simp only[gnZ,zl,hd,hown,y9,qt,eg,q5u,eL,hst,hk]
      ·simp only[gnZ,zl,hd,hown,y9,qt,eg,q5u,eL,hst,fnD,kH,decide_eq_false_iff_not] at h6
       have ec:apC s d M=q9r (apN (qu s M).2.2 (qu s M).1) d.n ⟨5,((qu s M).2.2.cs.length:Nat)⟩:=by
        unfold apC
        rw[if_pos he,if_neg h5,if_neg (by rintro(h|h);exact h6.1 h;exact h6.2 h)]
       rw[ec] at q5⊢
       have q1':qa4 (apN (qu s M).2.2 (qu s M).1)=true:=q1
       have hse:=qgz q1' d.n ⟨5,((qu s M).2.2.cs.length:Nat)⟩
       have hk:=q5r q5
       have hap:=zau (qu s M).2.2 (qu s M).1
       rw[qj]
       refine⟨by simp only[gnZ,zl,hd,hown,y9,qt,eg,q5u,eL,hst];exact⟨by omega,by omega⟩,?_⟩
       rw[qj]
       refine⟨by simp only[gnZ,zl,hd,hown,y9,qt,eg,q5u,eL,hst,qwd];omega,?_⟩
       rw[qj]
       refine⟨by simp only[gnZ,zl,hd,hown,y9,qt,eg,q5u,eL,hst,qwd,z5y,q3t,hap,hse],?_⟩
       rw[qj]
       refine⟨by simp only[gnZ,zl,hd,hown,y9,qt,eg,q5u,eL,hst,qwd,z5y,q3t,hap,hse,hk],?_⟩
       simp only[gnZ,zl,hd,hown,y9,qt,eg,q5u,eL,hst,qwd,z5y,q3t,hap,hse,hk]
  ·simp only[gnZ,zl,hd,hown,y9,qt] at hi
   rw[qj]
   refine⟨by simp only[gnZ,zl,hd,hown,y9,qt];omega,?_⟩
   have eL:l.map eA++[D.a [.s nm,eC val]]=(apL l nm val).map eA:=by
    unfold apL
    rw[if_neg (by omega)]
    simp[eA]
   generalize apL l nm val=M at *
   rw[zd]
   refine⟨fun hlen=>?_,fun hlen=>?_⟩
   ·simp only[gnZ,zl,hd,hown,y9,qt,eL] at hlen⊢
    have hlen:499<M.length:=by omega
    rw[if_pos hlen]
   ·simp only[gnZ,zl,hd,hown,y9,qt,eL] at hlen
    have hlen:M.length≤499:=by omega
    have ho:=ho.resolve_left (by omega)
    unfold zhl at ho
    simp only[gnB,gnD] at ho
    obtain⟨hvr,q1,q2,q4,q5⟩:=ho
    have hst:=qvs hvr hlen
    rw[if_neg (by omega)]
    rw[qj]
    refine⟨by simp only[gnZ,zl,hd,hown,y9,qt,eL,hst],?_⟩
    rw[zd]
    refine⟨fun he=>?_,fun he=>?_⟩
    ·simp only[gnZ,zl,hd,hown,y9,qt,eL,hst] at he
     have he:¬(qu s M).2.1=0:=by simpa using he
     have ec:apC s d M=((qu s M).2.1,(qu s M).2.2):=by
      unfold apC
      rw[if_neg he]
     rw[ec] at q5⊢
     have hk:=q5r q5
     rw[qj]
     refine⟨by simp only[gnZ,zl,hd,hown,y9,qt,eL,hst,hk],?_⟩
     simp only[gnZ,zl,hd,hown,y9,qt,eL,hst,hk]
    ·simp only[gnZ,zl,hd,hown,y9,qt,eL,hst] at he
     have he:(qu s M).2.1=0:=by simpa using he
     rw[zd]
     refine⟨fun h5=>?_,fun h5=>?_⟩
     ·simp only[gnZ,zl,hd,hown,y9,qt,eL] at h5
      have ec:apC s d M=q9r (qu s M).2.2 (d.n+2) (qu s M).1:=by
       unfold apC
       rw[if_pos he,if_pos h5]
      rw[ec] at q5⊢
      have hse:=qgz q1 (d.n+2) (qu s M).1
      have hk:=q5r q5
      have hi2:=ql.1 (hin2 h5)
      have hsl:=qg1 hs
      unfold i64 at hsl
      rw[qj]
      refine⟨by simp only[gnZ,zl,hd,hown,y9,qt,eL,hst,hse];exact⟨by omega,by omega⟩,?_⟩
      rw[qj]
      refine⟨by simp only[gnZ,zl,hd,hown,y9,qt,eL,hst,hse,hk],?_⟩
      simp only[gnZ,zl,hd,hown,y9,qt,eL,hst,hse,hk]
     ·simp only[gnZ,zl,hd,hown,y9,qt,eL] at h5
      rw[zd]
      refine⟨fun h6=>?_,fun h6=>?_⟩
      ·simp only[gnZ,zl,hd,hown,y9,qt,eL,hst,fnD,uF,gnD] at h6
       have ec:apC s d M=(13,(qu s M).2.2):=by
        unfold apC
        rw[if_pos he,if_neg h5,if_pos h6]
       rw[ec] at q5⊢
       have hk:=q5r q5
       rw[qj]
       refine⟨by simp only[gnZ,zl,hd,hown,y9,qt,eL,hst,hk],?_⟩
       simp only[gnZ,zl,hd,hown,y9,qt,eL,hst,hk]
      ·simp only[gnZ,zl,hd,hown,y9,qt,eL,hst,fnD,kH,decide_eq_false_iff_not] at h6
       have ec:apC s d M=q9r (apN (qu s M).2.2 (qu s M).1) d.n ⟨5,((qu s M).2.2.cs.length:Nat)⟩:=by
        unfold apC
        rw[if_pos he,if_neg h5,if_neg (by rintro(h|h);exact h6.1 h;exact h6.2 h)]
       rw[ec] at q5⊢
       have q1':qa4 (apN (qu s M).2.2 (qu s M).1)=true:=q1
       have hse:=qgz q1' d.n ⟨5,((qu s M).2.2.cs.length:Nat)⟩
       have hk:=q5r q5
       have hap:=zau (qu s M).2.2 (qu s M).1
       rw[qj]
       refine⟨by simp only[gnZ,zl,hd,hown,y9,qt,eL,hst];exact⟨by omega,by omega⟩,?_⟩
       rw[qj]
       refine⟨by simp only[gnZ,zl,hd,hown,y9,qt,eL,hst,qwd];omega,?_⟩
       rw[qj]
       refine⟨by simp only[gnZ,zl,hd,hown,y9,qt,eL,hst,qwd,z5y,q3t,hap,hse],?_⟩
       rw[qj]
       refine⟨by simp only[gnZ,zl,hd,hown,y9,qt,eL,hst,qwd,z5y,q3t,hap,hse,hk],?_⟩
       simp only[gnZ,zl,hd,hown,y9,qt,eL,hst,qwd,z5y,q3t,hap,hse,hk]
def dlL(l:List At)(nm:ByteArray):List At:=l.take (q1s l nm).toNat++l.drop ((q1s l nm).toNat+1)
def dlC(s:So)(d:Ce)(l:List At):Int×So:=if(qu s l).2.1=0 then q9r (qu s l).2.2 (d.n+2) (qu s l).1 else((qu s l).2.1,(qu s l).2.2)
def zkr(s:So)(d:Ce)(l:List At):Bool:=(decide (l.length≤499)&&apQ s l)&&(qa4 (qu s l).2.2&&zf1 (dlC s d l).1 (dlC s d l).2 s)
def dlB(s:So)(v:Ce)(nm:ByteArray):Bool:= !(zw s v).2||decide (100<(nm.size:Int))
def dlA(s:So)(v:Ce)(nm:ByteArray):Int×So:=if dlB s v nm then(1,s) else if q1s (jx s (zw s v).1) nm<0 then(0,s) else if qb0 s (zw s v).1.n then
 ((dlC s (zw s v).1 (dlL (jx s (zw s v).1) nm)).1,qod (dlC s (zw s v).1 (dlL (jx s (zw s v).1) nm)).1 (dlC s (zw s v).1 (dlL (jx s (zw s v).1) nm)).2 s) else(1,s)
def dlO(s:So)(v:Ce)(nm:ByteArray):Bool:=zfh s&&(qa4 s&&(dlB s v nm||(decide (q1s (jx s (zw s v).1) nm<0)||(!qb0 s (zw s v).1.n||zkr s (zw s v).1 (dlL (jx s (zw s v).1) nm)))))
def zbu:List D→Option (List D)
 |[s,v,nm]=>if dlO (dS s) (dC v) nm.str then some [.i (dlA (dS s) (dC v) nm.str).1,eS (dlA (dS s) (dC v) nm.str).2] else none
 |_=>none
set_option maxHeartbeats 2000000 in
theorem z81:FOk q1y zbu:=qkf q0d q4b q3q q2c q2k qih q3r fun ds outs hw hg=>by
 obtain⟨d,r,rfl,hd,e,r',rfl,he,f,r2,rfl,hf,rfl⟩:=hw
 obtain⟨s,rfl,hs⟩:=wfS hd
 obtain⟨v,rfl,hv⟩:=wfC he
 obtain⟨nm,rfl,hn⟩:=hf.str
 simp only[zbu,qy,yt,q1z,uB,uI] at hg
 obtain⟨ho,rfl⟩:=hg
 simp only[dlO,gnB] at ho
 obtain⟨hlb,hrm,ho⟩:=ho
 rw[q8p,qj]
 refine⟨by simp only[gnZ,zl],?_⟩
 rw[zd]
 refine⟨fun hb=>?_,fun hb=>?_⟩
 ·simp only[gnZ,zl] at hb⊢
  unfold dlA
  rw[if_pos (by unfold dlB;simpa using hb)]
 ·simp only[gnZ,zl] at hb
  have hnb:dlB s v nm=false:=by unfold dlB;simpa using hb
  have hok:(zw s v).2=true:=by
   cases h:(zw s v).2 with
   |true=>rfl
   |false=>
    unfold dlB at hnb
    rw[h] at hnb
    simp at hnb
  have hown:=z78 hlb hok
  rw[hnb,uV,uF,gnD] at ho
  have hA:dlA s v nm=if q1s (jx s (zw s v).1) nm<0 then(0,s) else if qb0 s (zw s v).1.n then((dlC s (zw s v).1 (dlL (jx s (zw s v).1) nm)).1,qod (dlC s (zw s v).1 (dlL (jx s (zw s v).1) nm)).1 (dlC s (zw s v).1 (dlL (jx s (zw s v).1) nm)).2 s) else(1,s):=by
   unfold dlA
   rw[if_neg (by rw[hnb];decide)]
  rw[hA]
  have hdl:=z69 s (zw s v).1 (of_decide_eq_true hlb)
  obtain⟨hin,hin2⟩:=z90 hok
  have h5:¬q1s (jx s (zw s v).1) nm<0→(zw s v).1.t=5:=fun h=>by
   by_cases h5:(zw s v).1.t=5
   ·exact h5
   ·exfalso
    apply h
    unfold jx
    rw[if_neg h5]
    show(-1:Int)<0
    decide
  generalize hd:(zw s v).1=d at *
  generalize hl:jx s d=l at *
  rw[qj]
  refine⟨by simp only[gnZ,zl,hd,hown],?_⟩
  rw[qj]
  refine⟨by simp only[gnZ,zl,hd,hown,y9],?_⟩
  rw[zd]
  refine⟨fun hi=>?_,fun hi=>?_⟩
  ·simp only[gnZ,zl,hd,hown,y9,qt] at hi⊢
   rw[if_pos hi]
  ·simp only[gnZ,zl,hd,hown,y9,qt] at hi
   obtain⟨i1,i2⟩:=qh6 (l:=l) (nm:=nm) (by omega)
   have h5:=h5 (by omega)
   have hst0:qlo [eS s,eC d]=some [.b (qb0 s d.n)]:=by
    simp only[qlo,qy,yt]
    rw[if_pos (hin2 h5)]
   rw[if_neg (by omega)]
   have ho:=ho.resolve_left (by omega)
   rw[qj]
   refine⟨by simp only[gnZ,zl,hd,hst0],?_⟩
   rw[zd]
   refine⟨fun hx=>?_,fun hx=>?_⟩
   ·simp only[gnZ,zl,hd,hst0] at hx⊢
    have hx:¬qb0 s d.n=true:=by simpa using hx
    rw[if_neg hx]
   ·simp only[gnZ,zl,hd,hst0] at hx
    have hx:qb0 s d.n=true:=by simpa using hx
    rw[if_pos hx]
    rw[hx] at ho
    simp only[kJ,uV] at ho
    unfold zkr at ho
    simp only[gnB,gnD] at ho
    obtain⟨⟨q0,hvr⟩,q1,q5⟩:=ho
    have eD:zbf [.r (l.map eA),.i (q1s l nm),.i (q1s l nm+1)]=some [.r ((dlL l nm).map eA)]:=by
     have e1:(0:Int)≤(D.i (q1s l nm)).int∧(D.i (q1s l nm)).int<(D.r (l.map eA)).rs.length∧(D.i (q1s l nm+1)).int=(D.i (q1s l nm)).int+1:=⟨i1,by show q1s l nm<((l.map eA).length:Int);rw[uE];exact i2,rfl⟩
     simp only[zbf]
     rw[if_pos e1]
     show some [D.r ((l.map eA).take (q1s l nm).toNat++(l.map eA).drop ((q1s l nm).toNat+1))]=_
     unfold dlL
     simp
    generalize dlL l nm=M at *
    have hst:=qvs hvr q0
    rw[qj]
    refine⟨by simp only[gnZ,zl,hd,hown,y9,qt,eD,hst];exact⟨by omega,by omega⟩,?_⟩
    rw[zd]
    refine⟨fun he=>?_,fun he=>?_⟩
    ·simp only[gnZ,zl,hd,hown,y9,qt,eD,hst] at he
     have he:¬(qu s M).2.1=0:=by simpa using he
     have ec:dlC s d M=((qu s M).2.1,(qu s M).2.2):=by
      unfold dlC
      rw[if_neg he]
     rw[ec] at q5⊢
     have hk:=q5r q5
     rw[qj]
     refine⟨by simp only[gnZ,zl,hd,hown,y9,qt,eD,hst,hk],?_⟩
     simp only[gnZ,zl,hd,hown,y9,qt,eD,hst,hk]
    ·simp only[gnZ,zl,hd,hown,y9,qt,eD,hst] at he
     have he:(qu s M).2.1=0:=by simpa using he
     have ec:dlC s d M=q9r (qu s M).2.2 (d.n+2) (qu s M).1:=by
      unfold dlC
      rw[if_pos he]
     rw[ec] at q5⊢
     have hse:=qgz q1 (d.n+2) (qu s M).1
     have hk:=q5r q5
     have hi2:=ql.1 (hin2 h5)
     have hsl:=qg1 hs
     unfold i64 at hsl
     rw[qj]
     refine⟨by simp only[gnZ,zl,hd,hown,y9,qt,eD,hst,hse];exact⟨by omega,by omega⟩,?_⟩
     rw[qj]
     refine⟨by simp only[gnZ,zl,hd,hown,y9,qt,eD,hst,hse,hk],?_⟩
     simp only[gnZ,zl,hd,hown,y9,qt,eD,hst,hse,hk]
variable{t:Te}
theorem za2{s:So}{l:List Vc}(hc:s.cs.length≤500000)(hy:s.ys.length≤500000)(hk:t.k≠0):z1s s t l=true:=by
 unfold z1s
 cases hv:(jb t&&vvP s l)
 ·rfl
 ·simp only[gnB] at hv
  have ht:=hv.1
  simp only[jb,gnB,gnD] at ht
  have h1:=qh1 t
  have h2:=qk8 t s.ys []
  have h3:=qx6 t s.ys []
  rw[kQ] at h3
  have h3':=congrArg uN h3
  rw[uD] at h3'
  simp only[vN] at h2
  have h4:q5o t l≤q8j t+1:=by
   unfold q5o
   split<;>omega
  have hA:qmt s l t (-1)=true:=by
   simp only[qmt,gnB,gnD]
   exact⟨ht.2,(qc3.1 hv.2).1,by rw[if_pos (by decide)];omega,fun _ h=>absurd h hk,by omega,by decide⟩
  have e1:s.cs.length≤1048576:=by omega
  have e2:s.ys.length≤1048576:=by omega
  simp[e1,e2,hA]
def zfj(s s':So):Prop:=qbw s s'∧s'.cs.length≤s.cs.length+4000
theorem zej{s:So}{l:List Vc}(hq:z1s s t l=true):zfj s (qpu s t l).2.2.2:=by
 unfold qpu
 split
 ·rename_i h
  split
  ·rename_i hr
   have h':=h
   simp only[gnB] at h
   have ht:=h.1
   simp only[jb,gnB,gnD] at ht
   unfold z1s at hq
   rw[h',hr] at hq
   simp only[kJ,uV,gnB] at hq
   have hA:=hq.2.2
   simp only[qmt,gnB,gnD] at hA
   obtain⟨h1,h2,h3,h4⟩:=q32 t (s,l) (-1) hA.1 hA.2.1
   have h5:=qh1 t
   have h6:q5o t l≤q8j t+1:=by
    unfold q5o
    split<;>omega
   rw[if_pos (by decide)] at h1
   refine⟨⟨by rw[h1];exact kP _ _,?_,h3⟩,by rw[h1];show s.cs.length+q5o t l≤_;omega⟩
   rw[h2]
   exact qh4 _ _
  ·exact⟨qbw.refl s,kP _ _⟩
 ·exact⟨qbw.refl s,kP _ _⟩
theorem ztw(l:List At):(apT l).k≠0:=by
 unfold apT
 cases qbm l with
 |nil=>decide
 |cons x m=>exact fun h=>by cases h
def qz5(s:So):Prop:=s.cs.length≤400000∧s.ys.length≤400000∧s.tr.length≤400000∧s.wk.length≤400000
theorem qm8{s:So}(h:qz5 s)(l:List At):apQ s l=true∧zfj s (qu s l).2.2:=by
 have hq:=za2 (l:=vsA l) (t:=apT l) (s:=s) (by have:=h.1;omega) (by have:=h.2.1;omega) (ztw l)
 exact⟨hq,zej hq⟩
theorem qw0(s:So)(a:Int)(c:Ce):(q9r s a c).2.cs.length=s.cs.length∧(q9r s a c).2.ys=s.ys∧s.tr.length≤(q9r s a c).2.tr.length:=by
 unfold q9r
 split
 ·simp[zem]
 ·exact⟨rfl,rfl,uJ _⟩
theorem qkl{s s':So}(h:qz5 s)(hg:zfj s s'):qa4 s'=true:=by
 obtain⟨h1,h2,h3,h4⟩:=h
 obtain⟨⟨g1,g2,g3,g4,g5,g6⟩,g7⟩:=hg
 simp only[qa4,gnB,gnD]
 rw[g4,g5]
 exact⟨by omega,by omega⟩
theorem zua{s:So}(h:qz5 s)(hse: -9223372036854775808≤s.ser)(d:Ce)(l:List At):zhl s d l=true:=by
 obtain⟨hq,hg⟩:=qm8 h l
 have hr:=qkl h hg
 obtain⟨⟨g1,g2,g3,g4,g5,g6⟩,g7⟩:=hg
 have h1:=h.1
 unfold zhl
 simp only[gnB,gnD]
 refine⟨hr,by omega,by omega,?_⟩
 unfold zf1
 simp only[uF,gnB,gnD]
 right
 unfold apC
 split
 ·split
  ·obtain⟨k1,k2,k3⟩:=qw0 (qu s l).2.2 (d.n+2) (qu s l).1
   rw[k1,k2]
   rw[g4] at k3
   exact⟨g1,g2,k3⟩
  ·split
   ·exact⟨g1,g2,by rw[g4];exact uJ _⟩
   ·obtain⟨k1,k2,k3⟩:=qw0 (apN (qu s l).2.2 (qu s l).1) d.n ⟨5,((qu s l).2.2.cs.length:Nat)⟩
    rw[k1,k2]
    have e1:(apN (qu s l).2.2 (qu s l).1).cs.length=(qu s l).2.2.cs.length+3:=by simp[apN]
    have e2:(apN (qu s l).2.2 (qu s l).1).tr=(qu s l).2.2.tr:=rfl
    rw[e2,g4] at k3
    exact⟨by rw[e1];omega,g2,k3⟩
 ·exact⟨g1,g2,by rw[g4];exact uJ _⟩
theorem z8g{s:So}(h:qz5 s):zfh s=true∧qa4 s=true:=by
 obtain⟨h1,h2,h3,h4⟩:=h
 simp only[zfh,qa4,gnB,gnD]
 exact⟨by omega,by omega,by omega⟩
theorem zmy{s:So}(h:qz5 s)(hse: -9223372036854775808≤s.ser)(v:Ce)(nm:ByteArray)(val:Ce):apO s v nm val=true:=by
 obtain⟨h1,h2⟩:=z8g h
 unfold apO
 rw[h1,h2,(qm8 h _).1,zua h hse]
 simp
theorem zu6{s:So}(h:qz5 s)(d:Ce)(l:List At)(hl:l.length≤499):zkr s d l=true:=by
 obtain⟨hq,hg⟩:=qm8 h l
 have hr:=qkl h hg
 obtain⟨⟨g1,g2,g3,g4,g5,g6⟩,g7⟩:=hg
 unfold zkr
 simp only[gnB,gnD]
 refine⟨⟨hl,hq⟩,hr,?_⟩
 unfold zf1
 simp only[uF,gnB,gnD]
 right
 unfold dlC
 split
 ·obtain⟨k1,k2,k3⟩:=qw0 (qu s l).2.2 (d.n+2) (qu s l).1
  rw[k1,k2]
  rw[g4] at k3
  exact⟨g1,g2,k3⟩
 ·exact⟨g1,g2,by rw[g4];exact uJ _⟩
theorem quf(s:So)(d:Ce):(jx s d).length≤s.cs.length:=by
 unfold jx
 split
 ·exact qbi s s.cs.length _ []
 ·simp
theorem zlk{s:So}(h:qz5 s)(h3:s.cs.length≤499)(v:Ce)(nm:ByteArray):dlO s v nm=true:=by
 obtain⟨h1,h2⟩:=z8g h
 have hl:=quf s (zw s v).1
 unfold dlO
 rw[h1,h2]
 by_cases hp:q1s (jx s (zw s v).1) nm<0
 ·simp[hp]
 ·obtain⟨i1,i2⟩:=qh6 hp
  have hm:(dlL (jx s (zw s v).1) nm).length≤499:=by
   unfold dlL
   rw[uD,uQ,uR]
   omega
  rw[zu6 h _ _ hm]
  simp
variable{q:Sv}
theorem qak(hn:z7 t=true)(hs:SV q.2):q.1.cs.length≤(z6 q t a).2.1.cs.length:=by
 have:=(q32 t q a hn hs).1
 omega
theorem qdl{l:List Te}{to:Nat}(hn:jw l=true)(hs:SV q.2):q.1.cs.length≤(je q l to).1.cs.length:=by
 have:=(qdb l q to hn hs).1
 omega
def grow(s:So)(y:Int)(n:Nat):List Ce:=s.cs++(⟨4,y⟩::uO n ⟨0,0⟩)
theorem qm1(s:So)(y:Int)(n:Nat):(grow s y n).length=s.cs.length+1+n:=by simp[grow];omega
mutual
theorem z0o:∀(t:Te)(q:Sv)(a:Int)(i:Nat),z7 t=true→SV q.2→i<q.1.cs.length→(z6 q t a).2.1.cs[i]? =q.1.cs[i]?
 | .mk k n nm l, q, a, i, hn, hs, hi => by
  rw[z7,gnB] at hn
  rcases q1o hn.1 with⟨rfl,rfl,h1,h2⟩|⟨rfl,rfl⟩|⟨rfl,rfl,h1⟩|⟨rfl,h1,h2,h3⟩
  ·rw[q9d]
   split
   ·rfl
   ·split
    ·exact uH hi
    ·rfl
  ·rw[qe0]
  ·rw[qdw]
   exact congrArg (·[i]?) (qgs q.1 nm 0).1
  ·rw[qe4]
   have hg:=qm1 q.1 (jq q.1 nm (l.length:Nat)).1 l.length
   refine(qbq l ({(jq q.1 nm (l.length:Nat)).2 with cs:=grow q.1 (jq q.1 nm (l.length:Nat)).1 l.length},q.2) (q.1.cs.length+1) i hn.2 hs (by show _≤(grow _ _ _).length;omega) (by show i<(grow _ _ _).length;omega) (.inl (by omega))).trans ?_
   exact uH hi
theorem qbq:∀(l:List Te)(q:Sv)(to i:Nat),jw l=true→SV q.2→to+l.length≤q.1.cs.length→i<q.1.cs.length→i<to∨to+l.length≤i→(je q l to).1.cs[i]? =q.1.cs[i]?
 |[],q,to,i,_,_,_,_,_=>by rw[je]
 |t::l,q,to,i,hn,hs,hto,hi,hh=>by
  rw[jw,gnB] at hn
  rw[uK] at hto hh
  rw[je]
  have hm:=qak (a:=(to:Nat)) hn.1 hs
  have h4:=(q32 t q (to:Nat) hn.1 hs).2.2.2
  rw[qbq l (qck (z6 q t (to:Nat)).2.1 to (z6 q t (to:Nat)).1,(z6 q t (to:Nat)).2.2) (to+1) i hn.2 h4 (by rw[q3u];omega) (by rw[q3u];omega) (by omega)]
  show((z6 q t (to:Nat)).2.1.cs.set to _)[i]? =_
  rw[kG (by omega)]
  exact z0o t q _ i hn.1 hs hi
end
theorem zgt(ys:List Sy)(y:Sy):∃m,qcj ys y=ys++m:=by
 unfold qcj
 split
 ·exact⟨[],by simp⟩
 ·exact⟨[y],rfl⟩
mutual
theorem z00:∀(t:Te)(ys:List Sy),∃m,q57 ys t=ys++m
 | .mk k n nm l, ys => by
  rw[q57]
  obtain⟨m,hm⟩:=qe2 l (if k=2∨k=3 then qcj ys ⟨nm,(l.length:Nat)⟩ else ys)
  rw[hm]
  split
  ·obtain⟨m2,h2⟩:=zgt ys ⟨nm,(l.length:Nat)⟩
   exact⟨m2++m,by rw[h2,uZ]⟩
  ·exact⟨m,rfl⟩
theorem qe2:∀(l:List Te)(ys:List Sy),∃m,q0t ys l=ys++m
 |[],ys=>⟨[],by simp[q0t]⟩
 |t::l,ys=>by
  rw[q0t]
  obtain⟨m,hm⟩:=z00 t ys
  obtain⟨m2,h2⟩:=qe2 l (q57 ys t)
  exact⟨m++m2,by rw[h2,hm,uZ]⟩
end
theorem q74{v n:Int}:∀{l:List Vc},ofV l n=none→ofV (qa7 l n c) v=if v=n then some c else ofV l v
 | [], _ => by
  by_cases h:v=n
  ·simp[qa7,ofV,h]
  ·have h':¬n=v:=fun e=>h e.symm
   simp[qa7,ofV,h,h']
 | x :: l, hn => by
  rw[ofV] at hn
  split at hn
  ·cases hn
  rename_i hx
  rw[qa7]
  split
  ·rw[ofV,ofV,q74 hn]
   by_cases h:v=n
   ·subst h
    simp[hx]
   ·simp[h]
  ·by_cases h:v=n
   ·simp[ofV,h]
   ·have h':¬n=v:=fun e=>h e.symm
    rw[ofV,if_neg h',if_neg h]
theorem z6t(n:Int)(c:Ce):∀l,(qa7 l n c).length=l.length+1
 |[]=>rfl
 |x::l=>by
  rw[qa7]
  split
  ·rw[uK,z6t n c l,uK]
  ·simp
mutual
/-- The cells of variables stay. -/
theorem zb2:∀(t:Te)(q:Sv)(a:Int),z7 t=true→∀v c,ofV q.2 v=some c→ofV (z6 q t a).2.2 v=some c
 | .mk k n nm l, q, a, hn, v, c, hv => by
  rw[z7,gnB] at hn
  rcases q1o hn.1 with⟨rfl,rfl,h1,h2⟩|⟨rfl,rfl⟩|⟨rfl,rfl,h1⟩|⟨rfl,h1,h2,h3⟩
  ·rw[q9d]
   cases ho:ofV q.2 n with
   |some c'=>exact hv
   | none =>
    have hne:¬v=n:=fun e=>by rw[e,ho] at hv;cases hv
    by_cases ha:a<0
    ·simp only[if_pos ha]
     rw[q74 ho,if_neg hne,hv]
    ·simp only[if_neg ha]
     rw[q74 ho,if_neg hne,hv]
  ·rw[qe0];exact hv
  ·rw[qdw];exact hv
  ·rw[qe4]
   exact qti l _ _ hn.2 v c hv
theorem qti:∀(l:List Te)(q:Sv)(to:Nat),jw l=true→∀v c,ofV q.2 v=some c→ofV (je q l to).2 v=some c
 |[],q,to,_,v,c,hv=>by rw[je];exact hv
 |t::l,q,to,hn,v,c,hv=>by
  rw[jw,gnB] at hn
  rw[je]
  exact qti l _ _ hn.2 v c (zb2 t q _ hn.1 v c hv)
end
theorem zk5(V:List Int)(k n:Int)(s:ByteArray)(l:List Te):inV V (.mk k n s l)↔(k=0→n∈V)∧qyt V l:=by rw[inV]
mutual
/-- Which variables have cells then, and how many. -/
theorem qn5:∀(t:Te)(q:Sv)(a:Int)(vs:List Int),z7 t=true→(∀v,v∈vs↔(ofV q.2 v).isSome=true)→(∀v,v∈q72 vs t↔(ofV (z6 q t a).2.2 v).isSome=true)∧(z6 q t a).2.2.length+vs.length=q.2.length+(q72 vs t).length
 | .mk k n nm l, q, a, vs, hn, hv => by
  rw[z7,gnB] at hn
  rcases q1o hn.1 with⟨rfl,rfl,h1,h2⟩|⟨rfl,rfl⟩|⟨rfl,rfl,h1⟩|⟨rfl,h1,h2,h3⟩
  ·rw[q9d,qsc]
   simp only[Te.k,Te.n,Te.l,q3y,true_and]
   cases ho:ofV q.2 n with
   |some c'=>
    have:n∈vs:=(hv n).2 (by rw[ho];rfl)
    rw[if_neg (fun h=>h this)]
    exact⟨hv,rfl⟩
   | none =>
    have hnv:n∉vs:=fun h=>by
     have:=(hv n).1 h
     rw[ho] at this
     cases this
    rw[if_pos hnv]
    have key:∀c,(∀v,v∈vs++[n]↔(ofV (qa7 q.2 n c) v).isSome=true)∧(qa7 q.2 n c).length+vs.length=q.2.length+(vs++[n]).length:=fun c=>by
     refine⟨fun v=>?_,by rw[z6t];simp;omega⟩
     rw[q74 ho]
     by_cases h:v=n
     ·simp[h]
     ·simp[h,hv v]
    by_cases ha:a<0
    ·simp only[if_pos ha]
     exact key _
    ·simp only[if_neg ha]
     exact key _
  ·rw[qe0,qsc]
   simp only[Te.k,Te.l,q3y]
   exact⟨hv,rfl⟩
  ·rw[qdw,qsc]
   simp only[Te.k,Te.l,q3y]
   exact⟨hv,rfl⟩
  ·rw[qe4,qsc]
   simp only[Te.k,Te.l]
   exact qwt l ({(jq q.1 nm (l.length:Nat)).2 with cs:=q.1.cs++(⟨4,(jq q.1 nm (l.length:Nat)).1⟩::uO l.length ⟨0,0⟩)},q.2) _ vs hn.2 hv
theorem qwt:∀(l:List Te)(q:Sv)(to:Nat)(vs:List Int),jw l=true→(∀v,v∈vs↔(ofV q.2 v).isSome=true)→(∀v,v∈q3y vs l↔(ofV (je q l to).2 v).isSome=true)∧(je q l to).2.length+vs.length=q.2.length+(q3y vs l).length
 |[],q,to,vs,_,hv=>by rw[je,q3y];exact⟨hv,rfl⟩
 |t::l,q,to,vs,hn,hv=>by
  rw[jw,gnB] at hn
  rw[je,q3y]
  obtain⟨h1,h2⟩:=qn5 t q (to:Nat) vs hn.1 hv
  obtain⟨h3,h4⟩:=qwt l (qck (z6 q t (to:Nat)).2.1 to (z6 q t (to:Nat)).1,(z6 q t (to:Nat)).2.2) (to+1) (q72 vs t) hn.2 h1
  simp only at h4
  exact⟨h3,by omega⟩
end
mutual
/-- A cell represents a term; f: what represents a variable. -/
def Rh(S:So)(f:Int→Ce):Te→Ce→Prop
 |.mk k n nm l,c=>(k=0∧c=f n)∨(k=1∧c=⟨1,n⟩)∨(k=2∧c.t=2∧∃y:Nat,c.n=(y:Int)∧S.ys[y]? =some ⟨nm,0⟩)∨
  (k=3∧c.t=3∧∃p y:Nat,c.n=(p:Int)∧S.cs[p]? =some ⟨4,y⟩∧S.ys[y]? =some ⟨nm,(l.length:Nat)⟩∧Rhs S f l (p+1))
def Rhs(S:So)(f:Int→Ce):List Te→Nat→Prop
 |[],_=>True
 |t::l,p=>(∃c,S.cs[p]? =some c∧Rh S f t c)∧Rhs S f l (p+1)
end
variable{S:So}{f:Int→Ce}{nm:ByteArray}
theorem zwg{n:Int}{l:List Te}:Rh S f (.mk 1 n nm l) ⟨1,n⟩:=by rw[Rh];exact .inr (.inl ⟨rfl,rfl⟩)
theorem zfa{ar:Int}:∀(k:Nat)(l:List Sy),0≤fnd nm ar k l→∃j:Nat,fnd nm ar k l=((k+j:Nat):Int)∧l[j]? =some ⟨nm,ar⟩
 |k,[],h=>by simp[fnd] at h
 | k, y :: l, h => by
  unfold fnd at h⊢
  split
  ·rename_i hy
   obtain⟨rfl,rfl⟩:=hy
   exact⟨0,rfl,rfl⟩
  ·rename_i hy
   rw[if_neg hy] at h
   obtain⟨j,e,hj⟩:=zfa (k+1) l h
   exact⟨j+1,by rw[e];congr 1;omega,by simpa using hj⟩
theorem zbr(s:So)(nm:ByteArray)(ar:Int):∃y:Nat,(jq s nm ar).1=(y:Int)∧(jq s nm ar).2.ys[y]? =some ⟨nm,ar⟩:=by
 unfold jq
 by_cases h:0≤q6e s nm ar
 ·rw[if_pos h]
  obtain⟨j,e,hj⟩:=zfa 0 s.ys h
  exact⟨j,by rw[←kC j];exact e,hj⟩
 ·rw[if_neg h]
  exact⟨s.ys.length,rfl,by simp⟩
variable{ys:List Sy}
theorem zg0{m:List Sy}{i:Nat}{y:Sy}(h:ys[i]? =some y):(ys++m)[i]? =some y:=by
 rw[uH (gnH.1 h).1]
 exact h
def z8h(S:So)(f:Int→Ce)(P:Te→Prop)(i:Nat):Prop:=
 (∃y k:Nat,∃nm,S.cs[i]? =some ⟨4,y⟩∧S.ys[y]? =some ⟨nm,k⟩∧1≤k∧k≤8∧∀j,1≤j→j≤k→∃t c,P t∧S.cs[i+j]? =some c∧Rh S f t c)∨∃t c,P t∧S.cs[i]? =some c∧Rh S f t c
theorem zjl:∀{l:List Te}{p j:Nat},Rhs S f l p→j<l.length→∃c,S.cs[p+j]? =some c∧Rh S f (l.getD j default) c
 |t::l,p,0,h,_=>by rw[Rhs] at h;exact h.1
 |t::l,p,j+1,h,hj=>by
  rw[Rhs] at h
  obtain⟨c,h1,h2⟩:=zjl h.2 (j:=j) (by simpa using hj)
  exact⟨c,by rw[←h1];congr 1;omega,by simpa using h2⟩
variable{P:Te→Prop}
mutual
theorem z64(hP:∀k n nm l,P (.mk k n nm l)→∀t∈l,P t):∀(t:Te)(q:Sv)(a:Int),P t→z7 t=true→SV q.2→(∀i,q.1.cs.length≤i→i<(z6 q t a).2.1.cs.length→S.cs[i]? =(z6 q t a).2.1.cs[i]?)→(∀(i:Nat)y,(z6 q t a).2.1.ys[i]? =some y→S.ys[i]? =some y)→(∀v c,ofV (z6 q t a).2.2 v=some c→f v=q1f c)→
  Rh S f t (z6 q t a).1∧∀i,q.1.cs.length≤i→i<(z6 q t a).2.1.cs.length→z8h S f P i
 | .mk k n nm l, q, a, hp, hn, hs, hc, hy, hf => by
  rw[z7,gnB] at hn
  rcases q1o hn.1 with⟨rfl,rfl,h1,h2⟩|⟨rfl,rfl⟩|⟨rfl,rfl,h1⟩|⟨rfl,h1,h2,h3⟩
  ·rw[q9d] at hc hy hf⊢
   cases ho:ofV q.2 n with
   |some c=>
    simp only[ho] at hc hf⊢
    refine⟨?_,fun i h1 h2=>by omega⟩
    rw[Rh]
    exact .inl ⟨rfl,(hf n c ho).symm⟩
   | none =>
    by_cases ha:a<0
    ·simp only[ho,if_pos ha] at hc hf⊢
     have e:=hf n _ (by rw[q74 ho,if_pos rfl])
     have hr:Rh S f (.mk 0 n nm []) ⟨0,(q.1.cs.length:Nat)⟩:=by
      rw[Rh]
      exact .inl ⟨rfl,by rw[e];rfl⟩
     refine⟨hr,fun i h1 h2=>?_⟩
     have:i=q.1.cs.length:=by simp at h2;omega
     subst this
     exact .inr ⟨_,_,hp,by rw[hc _ h1 h2];simp,hr⟩
    ·simp only[ho,if_neg ha] at hc hf⊢
     have e:=hf n _ (by rw[q74 ho,if_pos rfl])
     refine⟨?_,fun i h1 h2=>by omega⟩
     rw[Rh]
     exact .inl ⟨rfl,by rw[e];rfl⟩
  ·rw[qe0]
   exact⟨zwg,fun i h1 h2=>by simp only at h2;omega⟩
  ·rw[qdw] at hy⊢
   obtain⟨y,e,hy'⟩:=zbr q.1 nm 0
   refine⟨?_,fun i h1 h2=>?_⟩
   ·rw[Rh]
    exact .inr (.inr (.inl ⟨rfl,rfl,y,e,hy _ _ hy'⟩))
   ·have e1:=(qgs q.1 nm 0).1
    simp only[e1] at h2
    omega
  ·rw[qe4] at hc hy hf⊢
   obtain⟨y,e,hy'⟩:=zbr q.1 nm (l.length:Nat)
   have hg:=qm1 q.1 (jq q.1 nm (l.length:Nat)).1 l.length
   have hm:q.1.cs.length+1+l.length≤(je ({(jq q.1 nm (l.length:Nat)).2 with cs:=grow q.1 (jq q.1 nm (l.length:Nat)).1 l.length},q.2) l (q.1.cs.length+1)).1.cs.length:=by
    rw[←hg]
    exact qdl (q:=({(jq q.1 nm (l.length:Nat)).2 with cs:=grow q.1 (jq q.1 nm (l.length:Nat)).1 l.length},q.2)) hn.2 hs
   have hk:=qbq l ({(jq q.1 nm (l.length:Nat)).2 with cs:=grow q.1 (jq q.1 nm (l.length:Nat)).1 l.length},q.2) (q.1.cs.length+1) q.1.cs.length hn.2 hs (by show _≤(grow _ _ _).length;omega) (by show _<(grow _ _ _).length;omega) (.inl (by omega))
   have hys:=(qdb l ({(jq q.1 nm (l.length:Nat)).2 with cs:=grow q.1 (jq q.1 nm (l.length:Nat)).1 l.length},q.2) (q.1.cs.length+1) hn.2 hs).2.1
   have hpl:=hP _ _ _ _ hp
   have ih:=z12 hP l ({(jq q.1 nm (l.length:Nat)).2 with cs:=grow q.1 (jq q.1 nm (l.length:Nat)).1 l.length},q.2) (q.1.cs.length+1) hpl hn.2 hs (by show _≤(grow _ _ _).length;omega) (fun i h1 h2=>hc i (by have h1:(grow _ _ _).length≤i:=h1;omega) h2) (fun i h1 h2=>hc i (by omega) (by
    have:q.1.cs.length+1+l.length≤(je ({(jq q.1 nm (l.length:Nat)).2 with cs:=grow q.1 (jq q.1 nm (l.length:Nat)).1 l.length},q.2) l (q.1.cs.length+1)).1.cs.length:=hm
    exact uL h2 this)) hy hf
   obtain⟨i1,i2,i3⟩:=ih
   obtain⟨m,hpre⟩:=qe2 l (jq q.1 nm (l.length:Nat)).2.ys
   have hhead:S.cs[q.1.cs.length]? =some ⟨4,y⟩:=by
    rw[hc _ (uJ _) (by
     have:q.1.cs.length+1+l.length≤(je ({(jq q.1 nm (l.length:Nat)).2 with cs:=grow q.1 (jq q.1 nm (l.length:Nat)).1 l.length},q.2) l (q.1.cs.length+1)).1.cs.length:=hm
     exact uL (by omega) this)]
    refine Eq.trans hk ?_
    show(grow _ _ _)[q.1.cs.length]? =_
    rw[grow,kR (uJ _),Nat.sub_self,e]
    rfl
   have hsy:S.ys[y]? =some ⟨nm,(l.length:Nat)⟩:=by
    refine hy _ _ ?_
    refine Eq.trans (congrArg (·[y]?) hys) ?_
    show(q0t (jq q.1 nm (l.length:Nat)).2.ys l)[y]? =_
    rw[hpre]
    exact zg0 hy'
   refine⟨?_,fun i h4 h5=>?_⟩
   ·rw[Rh]
    exact .inr (.inr (.inr ⟨rfl,rfl,q.1.cs.length,y,rfl,hhead,hsy,i1⟩))
   ·rcases uP i (q.1.cs.length+1) with h6|h6
    ·have:i=q.1.cs.length:=by omega
     subst this
     refine .inl ⟨y,l.length,nm,hhead,hsy,h2,h3,fun j g1 g2=>?_⟩
     obtain⟨c,g3,g4⟩:=zjl i1 (j:=j - 1) (by omega)
     exact⟨_,c,hpl _ (q5p (by omega)),by rw[←g3];congr 1;omega,g4⟩
    rcases uP i (q.1.cs.length+1+l.length) with h7|h7
    ·exact i3 i h6 h7
    ·exact i2 i (by show(grow _ _ _).length≤i;omega) h5
theorem z12(hP:∀k n nm l,P (.mk k n nm l)→∀t∈l,P t):∀(l:List Te)(q:Sv)(to:Nat),(∀t∈l,P t)→jw l=true→SV q.2→to+l.length≤q.1.cs.length→(∀i,q.1.cs.length≤i→i<(je q l to).1.cs.length→S.cs[i]? =(je q l to).1.cs[i]?)→(∀i,to≤i→i<to+l.length→S.cs[i]? =(je q l to).1.cs[i]?)→(∀(i:Nat)y,(je q l to).1.ys[i]? =some y→S.ys[i]? =some y)→(∀v c,ofV (je q l to).2 v=some c→f v=q1f c)→
  Rhs S f l to∧(∀i,q.1.cs.length≤i→i<(je q l to).1.cs.length→z8h S f P i)∧∀i,to≤i→i<to+l.length→z8h S f P i
 |[],q,to,_,_,_,_,hc,hc2,hy,hf=>by
  rw[je]
  refine⟨?_,fun i h1 h2=>by omega,fun i h1 h2=>?_⟩
  ·rw[Rhs];trivial
  ·simp only[vN] at h2;omega
 | t :: l, q, to, hp, hn, hs, hto, hc, hc2, hy, hf => by
  rw[jw,gnB] at hn
  rw[uK] at hto hc2
  rw[je] at hc hc2 hy hf⊢
  obtain⟨g1,g2,g3,g4⟩:=q32 t q (to:Nat) hn.1 hs
  have hm:=qak (a:=(to:Nat)) hn.1 hs
  have hL:=q3u (z6 q t (to:Nat)).2.1 to (z6 q t (to:Nat)).1
  have hkeep:=fun i h1 h2 h3=>qbq l (qck (z6 q t (to:Nat)).2.1 to (z6 q t (to:Nat)).1,(z6 q t (to:Nat)).2.2) (to+1) i hn.2 g4 h1 h2 h3
  have hys:=(qdb l (qck (z6 q t (to:Nat)).2.1 to (z6 q t (to:Nat)).1,(z6 q t (to:Nat)).2.2) (to+1) hn.2 g4).2.1
  have hm2:=qdl (to:=to+1) (q:=(qck (z6 q t (to:Nat)).2.1 to (z6 q t (to:Nat)).1,(z6 q t (to:Nat)).2.2)) hn.2 g4
  have hof:=qti l (qck (z6 q t (to:Nat)).2.1 to (z6 q t (to:Nat)).1,(z6 q t (to:Nat)).2.2) (to+1) hn.2
  simp only at hm2
  rw[hL] at hm2
  have hset:∀i,i≠to→(qck (z6 q t (to:Nat)).2.1 to (z6 q t (to:Nat)).1).cs[i]? =(z6 q t (to:Nat)).2.1.cs[i]? :=fun i h=>kG (fun e=>h e.symm)
  obtain⟨m,hpre⟩:=qe2 l (z6 q t (to:Nat)).2.1.ys
  obtain⟨r1,r2⟩:=z64 hP t q (to:Nat) (hp t vH) hn.1 hs (fun i h1 h2=>by
   rw[hc i h1 (uL h2 hm2),hkeep i (by rw[hL];omega) (by rw[hL];omega) (.inr (by omega)),hset i (by omega)]) (fun i y h=>by
   refine hy i y ?_
   refine Eq.trans (congrArg (·[i]?) hys) ?_
   show(q0t (z6 q t (to:Nat)).2.1.ys l)[i]? =_
   rw[hpre]
   exact zg0 h) (fun v c h=>hf v c (hof v c h))
  have hat:S.cs[to]? =some (z6 q t (to:Nat)).1:=by
   rw[hc2 to (uJ _) (by omega),hkeep to (by rw[hL];omega) (by rw[hL];omega) (.inl (by omega))]
   show((z6 q t (to:Nat)).2.1.cs.set to _)[to]? =_
   rw[kZ (by omega)]
  obtain⟨s1,s2,s3⟩:=z12 hP l (qck (z6 q t (to:Nat)).2.1 to (z6 q t (to:Nat)).1,(z6 q t (to:Nat)).2.2) (to+1) (fun u hu=>hp u (vD _ hu)) hn.2 g4 (by rw[hL];omega) (fun i h1 h2=>hc i (by rw[hL] at h1;omega) h2) (fun i h1 h2=>hc2 i (by omega) (by omega)) hy hf
  refine⟨?_,fun i h1 h2=>?_,fun i h1 h2=>?_⟩
  ·rw[Rhs]
   exact⟨⟨_,hat,r1⟩,s1⟩
  ·rcases uP i (z6 q t (to:Nat)).2.1.cs.length with h3|h3
   ·exact r2 i h1 h3
   ·exact s2 i (by rw[hL];exact h3) h2
  ·rw[uK] at h2
   rcases uP to i with h3|h3
   ·exact s3 i h3 (by omega)
   ·have:i=to:=by omega
    subst this
    exact .inr ⟨_,_,hp t vH,hat,r1⟩
end
mutual
/-- New variables: their cells hold themselves. -/
theorem z5q:∀(t:Te)(q:Sv)(a:Int),z7 t=true→SV q.2→(∀i,q.1.cs.length≤i→i<(z6 q t a).2.1.cs.length→S.cs[i]? =(z6 q t a).2.1.cs[i]?)→(0≤a→S.cs[a.toNat]? =some (z6 q t a).1)→∀v c,ofV (z6 q t a).2.2 v=some c→ofV q.2 v=some c∨∃p:Nat,c=⟨0,p⟩∧S.cs[p]? =some c∧(q.1.cs.length≤p∨a=p)
 | .mk k n nm l, q, a, hn, hs, hc, ha, v, c, hv => by
  rw[z7,gnB] at hn
  rcases q1o hn.1 with⟨rfl,rfl,h1,h2⟩|⟨rfl,rfl⟩|⟨rfl,rfl,h1⟩|⟨rfl,h1,h2,h3⟩
  ·rw[q9d] at hc ha hv
   cases ho:ofV q.2 n with
   |some c'=>simp only[ho] at hv;exact .inl hv
   | none =>
    by_cases h0:a<0
    ·simp only[ho,if_pos h0] at hc hv
     rw[q74 ho] at hv
     split at hv
     ·cases hv
      refine .inr ⟨_,rfl,?_,.inl (uJ _)⟩
      rw[hc _ (uJ _) (by simp)]
      simp
     ·exact .inl hv
    ·simp only[ho,if_neg h0] at ha hv
     rw[q74 ho] at hv
     split at hv
     ·cases hv
      have e:(a.toNat:Int)=a:=vI (by omega)
      refine .inr ⟨a.toNat,by rw[e],ha (by omega),.inr e.symm⟩
     ·exact .inl hv
  ·rw[qe0] at hv;exact .inl hv
  ·rw[qdw] at hv;exact .inl hv
  ·rw[qe4] at hc hv
   have hg:=qm1 q.1 (jq q.1 nm (l.length:Nat)).1 l.length
   have hm:q.1.cs.length+1+l.length≤(je ({(jq q.1 nm (l.length:Nat)).2 with cs:=grow q.1 (jq q.1 nm (l.length:Nat)).1 l.length},q.2) l (q.1.cs.length+1)).1.cs.length:=by
    rw[←hg]
    exact qdl (q:=({(jq q.1 nm (l.length:Nat)).2 with cs:=grow q.1 (jq q.1 nm (l.length:Nat)).1 l.length},q.2)) hn.2 hs
   rcases z0a l ({(jq q.1 nm (l.length:Nat)).2 with cs:=grow q.1 (jq q.1 nm (l.length:Nat)).1 l.length},q.2) (q.1.cs.length+1) hn.2 hs (by show _≤(grow _ _ _).length;omega) (fun i h1 h2=>hc i (by have h1:(grow _ _ _).length≤i:=h1;omega) h2) (fun i h1 h2=>hc i (by omega) (uL h2 hm)) v c hv with h|⟨p,e1,e2,e3⟩
   ·exact .inl h
   ·refine .inr ⟨p,e1,e2,.inl ?_⟩
    rcases e3 with e3|e3
    ·have e3:(grow _ _ _).length≤p:=e3
     omega
    ·omega
theorem z0a:∀(l:List Te)(q:Sv)(to:Nat),jw l=true→SV q.2→to+l.length≤q.1.cs.length→(∀i,q.1.cs.length≤i→i<(je q l to).1.cs.length→S.cs[i]? =(je q l to).1.cs[i]?)→(∀i,to≤i→i<to+l.length→S.cs[i]? =(je q l to).1.cs[i]?)→∀v c,ofV (je q l to).2 v=some c→ofV q.2 v=some c∨∃p:Nat,c=⟨0,p⟩∧S.cs[p]? =some c∧(q.1.cs.length≤p∨to≤p)
 |[],q,to,_,_,_,_,_,v,c,hv=>by rw[je] at hv;exact .inl hv
 | t :: l, q, to, hn, hs, hto, hc, hc2, v, c, hv => by
  rw[jw,gnB] at hn
  rw[uK] at hto hc2
  rw[je] at hc hc2 hv
  obtain⟨g1,g2,g3,g4⟩:=q32 t q (to:Nat) hn.1 hs
  have hm:=qak (a:=(to:Nat)) hn.1 hs
  have hL:=q3u (z6 q t (to:Nat)).2.1 to (z6 q t (to:Nat)).1
  have hkeep:=fun i h1 h2 h3=>qbq l (qck (z6 q t (to:Nat)).2.1 to (z6 q t (to:Nat)).1,(z6 q t (to:Nat)).2.2) (to+1) i hn.2 g4 h1 h2 h3
  have hm2:=qdl (to:=to+1) (q:=(qck (z6 q t (to:Nat)).2.1 to (z6 q t (to:Nat)).1,(z6 q t (to:Nat)).2.2)) hn.2 g4
  simp only at hm2
  rw[hL] at hm2
  have hset:∀i,i≠to→(qck (z6 q t (to:Nat)).2.1 to (z6 q t (to:Nat)).1).cs[i]? =(z6 q t (to:Nat)).2.1.cs[i]? :=fun i h=>kG (fun e=>h e.symm)
  have hat:S.cs[to]? =some (z6 q t (to:Nat)).1:=by
   rw[hc2 to (uJ _) (by omega),hkeep to (by rw[hL];omega) (by rw[hL];omega) (.inl (by omega))]
   show((z6 q t (to:Nat)).2.1.cs.set to _)[to]? =_
   rw[kZ (by omega)]
  rcases z0a l (qck (z6 q t (to:Nat)).2.1 to (z6 q t (to:Nat)).1,(z6 q t (to:Nat)).2.2) (to+1) hn.2 g4 (by rw[hL];omega) (fun i h1 h2=>hc i (by rw[hL] at h1;omega) h2) (fun i h1 h2=>hc2 i (by omega) (by omega)) v c hv with h|⟨p,e1,e2,e3⟩
  ·rcases z5q t q (to:Nat) hn.1 hs (fun i h1 h2=>by
    rw[hc i h1 (uL h2 hm2),hkeep i (by rw[hL];omega) (by rw[hL];omega) (.inr (by omega)),hset i (by omega)]) (fun _=>by simpa using hat) v c h with h|⟨p,e1,e2,e3⟩
   ·exact .inl h
   ·exact .inr ⟨p,e1,e2,by omega⟩
  ·exact .inr ⟨p,e1,e2,by rw[hL] at e3;omega⟩
end
variable{i:Int}
section
theorem cell_of{p:Nat}(h:S.cs[p]? =some c):inS S p=true∧cellAt S p=c:=by
 have hl:=(gnH.1 h).1
 refine⟨ql.2 ⟨by omega,by omega⟩,?_⟩
 show S.cs.getD ((p:Nat):Int).toNat default=c
 rw[uC,gnG,h]
 rfl
theorem zdm{y:Nat}{k:Int}(h:S.ys[y]? =some ⟨nm,k⟩):arS S y=k∧q90 S y=⟨nm,k⟩:=by
 have hl:=(gnH.1 h).1
 have e:S.ys.getD y default=⟨nm,k⟩:=by
  rw[gnG,h]
  rfl
 have e2:q90 S y=⟨nm,k⟩:=by
  show S.ys.getD ((y:Nat):Int).toNat default=_
  rw[uC,e]
 refine⟨?_,e2⟩
 unfold arS
 rw[if_pos ⟨by omega,by omega⟩,uC,e]
section
variable{S:So}{f:Int→Ce}{g:Int→Te}{V:List Int}
end
structure Ext(s S:So):Prop where
 cs:∀i:Nat,i<s.cs.length→S.cs[i]? =s.cs[i]?
 len:s.cs.length≤S.cs.length
 ys:∀(i:Nat)y,s.ys[i]? =some y→S.ys[i]? =some y
section
variable{s S:So}
theorem Ext.inS(E:Ext s S)(h:inS s i=true):inS S i=true∧cellAt S i=cellAt s i:=by
 have q:=ql.1 h
 have hl:=E.len
 refine⟨ql.2 ⟨q.1,by omega⟩,?_⟩
 unfold cellAt
 rw[gnG,gnG,E.cs _ (by omega)]
theorem Ext.tag(E:Ext s S)(h:i<s.cs.length):q37 S i=q37 s i:=by
 cases hi:Go.Proofs.YtdaadonfbnedaaaGreat.inS s i with
 |true=>rw[q1l hi,q1l (E.inS hi).1,(E.inS hi).2]
 | false =>
  rw[q6w hi,q6w]
  cases h2:Go.Proofs.YtdaadonfbnedaaaGreat.inS S i with
  |false=>rfl
  |true=>
   have q:=ql.1 h2
   rw[ql.2 ⟨q.1,h⟩] at hi
   cases hi
theorem Ext.ar(E:Ext s S){n:Int}(h:0≤arS s n):arS S n=arS s n∧q90 S n=q90 s n:=by
 obtain⟨h0,h1,h2⟩:=z99 h
 have hy:s.ys[n.toNat]? =some (q90 s n):=by
  unfold q90
  rw[gnG,gnK (by omega)]
  rfl
 have hY:=E.ys _ _ hy
 have hn:n=((n.toNat:Nat):Int):=by omega
 generalize hz:q90 s n=z at hY hy
 obtain⟨nm,k⟩:=z
 have a1:=zdm hy
 have a2:=zdm hY
 rw[←hn] at a1 a2
 exact⟨a2.1.trans a1.1.symm,a2.2⟩
theorem Ext.vc(E:Ext s S)(h:vcR s c=true):vcR S c=true:=by
 rcases z3d h with ht|ht|ht|ht|ht
 ·obtain⟨h1,h2⟩:=qb5 h ht
  obtain⟨h3,h4⟩:=E.inS h1
  unfold vcR
  rw[if_pos ht,q1l h3,h3,h4]
  simp[h2]
 ·unfold vcR
  rw[if_neg (by omega),if_pos ht]
 ·unfold vcR at h⊢
  rw[if_neg (by omega),if_neg (by omega),if_pos ht] at h⊢
  have h:=of_decide_eq_true h
  rw[(E.ar (by omega)).1,h]
  rfl
 ·unfold vcR at h⊢
  rw[if_neg (by omega),if_neg (by omega),if_neg (by omega),if_pos ht] at h⊢
  have h:=of_decide_eq_true h
  rw[E.tag (ql.1 (qe6 (by decide) h)).2,h]
  rfl
 ·unfold vcR at h⊢
  rw[if_neg (by omega),if_neg (by omega),if_neg (by omega),if_neg (by omega),if_pos ht] at h⊢
  have h:=of_decide_eq_true h
  rw[E.tag (ql.1 (qe6 (by decide) h)).2,h]
  rfl
theorem Ext.ends(E:Ext s S)(h:qw s=true):∀(k:Nat)(n:Int),Go.Proofs.YtdaadonfbnedaaaGreat.inS s n=true→q3h s k n=true→q3h S k n=true
 |0,n,_,h1=>by cases h1
 | k + 1, n, hi, h1 => by
  have hT:=E.tag (ql.1 hi).2
  have hC:=(E.inS hi).2
  by_cases hn:Ns s n
  ·have hn':Ns S n:=⟨hT.trans hn.1,by rw[hC];exact hn.2⟩
   rw[q4k hn] at h1
   rw[q4k hn',nx,hC]
   exact Ext.ends E h k _ (zpe h hn) h1
  ·exact q92 fun q=>hn ⟨hT.symm.trans q.1,by have:=q.2;rwa [hC] at this⟩
end
end
section
theorem z1g:q91 ys=true↔ys.length≤1048576∧ys.Nodup∧∀y∈ys,okY y=true:=by
 unfold q91
 rw[gnB,gnD,kO]
 refine and_congr Iff.rfl ?_
 constructor
 ·intro h
  have h':∀k,k<ys.length→qep ys k=true:=fun k hk=>h k (kE.2 hk)
  refine⟨kT.2 fun i j hi hj hij e=>?_,fun y hy=>?_⟩
  ·have:=h' j hj
   simp only[qep,gnB,uM,decide_eq_false_iff_not] at this
   refine this.2 ?_
   rw[show ys.getD j default=ys[i] by rw[e];simp[gnG,hj]]
   exact kF.2 ⟨i,by simp;omega,by simp⟩
  ·obtain⟨k,hk,rfl⟩:=kF.1 hy
   have:=h' k hk
   simp only[qep,gnB] at this
   simpa[gnG,hk] using this.1
 ·rintro⟨hn,ho⟩k hk
  have hk:=kE.1 hk
  simp only[qep,gnB,uM,decide_eq_false_iff_not]
  have e:ys.getD k default=ys[k]:=by simp[gnG,hk]
  rw[e]
  refine⟨ho _ (kM hk),fun hm=>?_⟩
  obtain⟨i,hi,he⟩:=kF.1 hm
  have hi2:i<k:=by simp at hi;omega
  rw[List.getElem_take] at he
  exact kT.1 hn i k (by omega) hk hi2 he
def zf7(ys:List Sy):Prop:=ys.Nodup∧∀y∈ys,okY y=true
theorem zch{y:Sy}(h:zf7 ys)(hy:okY y=true):zf7 (qcj ys y):=by
 unfold qcj
 split
 ·exact h
 ·rename_i hm
  refine⟨List.nodup_append.2 ⟨h.1,by simp,fun a ha b hb e=>?_⟩,fun z hz=>?_⟩
  ·rw[vG.1 hb] at e
   exact hm (e▸ha)
  ·rcases vL.1 hz with hz|hz
   ·exact h.2 z hz
   ·rw[vG.1 hz];exact hy
mutual
theorem z56:∀(t:Te)(ys:List Sy),z7 t=true→zf7 ys→zf7 (q57 ys t)
 | .mk k n nm l, ys, hn, h => by
  rw[z7,gnB] at hn
  rw[q57]
  refine qzx l _ hn.2 ?_
  rcases q1o hn.1 with⟨rfl,rfl,h1,h2⟩|⟨rfl,rfl⟩|⟨rfl,rfl,h1⟩|⟨rfl,h1,h2,h3⟩
  ·exact h
  ·exact h
  ·refine zch h ?_
   simp[okY]
   omega
  ·refine zch h ?_
   simp[okY]
   omega
theorem qzx:∀(l:List Te)(ys:List Sy),jw l=true→zf7 ys→zf7 (q0t ys l)
 |[],ys,_,h=>by rw[q0t];exact h
 |t::l,ys,hn,h=>by
  rw[jw,gnB] at hn
  rw[q0t]
  exact qzx l _ hn.2 (z56 t ys hn.1 h)
end
structure Vgood(S:So)(c:Ce):Prop where
 vc:vcR S c=true
 no5:c.t≠5
 ends:c.t=0→q3h S S.cs.length c.n=true
section
variable{s S:So}{f:Int→Ce}{V:List Int}
theorem z38(hf:∀v∈V,Vgood S (f v))(hi:inV V t)(hn:z7 t=true)(h:Rh S f t c):Vgood S c:=by
 obtain⟨k,n,nm,l⟩:=t
 rw[zk5] at hi
 rw[Rh] at h
 rcases h with⟨rfl,rfl⟩|⟨rfl,rfl⟩|⟨rfl,ht,y,hy,hs⟩|⟨rfl,ht,p,y,hp,hc,hs,hl⟩
 ·exact hf n (hi.1 rfl)
 ·exact⟨rfl,fun h=>absurd h (by decide:¬(1:Int)=5),fun h=>absurd h (by decide:¬(1:Int)=0)⟩
 ·obtain⟨q1,q2⟩:=zdm hs
  refine⟨?_,by omega,fun h=>by omega⟩
  unfold vcR
  rw[if_neg (by omega),if_neg (by omega),if_pos ht,hy,q1]
  rfl
 ·obtain⟨q3,q4⟩:=cell_of hc
  refine⟨?_,by omega,fun h=>by omega⟩
  unfold vcR
  rw[if_neg (by omega),if_neg (by omega),if_neg (by omega),if_pos ht,hp,q1l q3,q4]
  rfl
theorem Vgood.no4(h:Vgood S c):c.t≠4:=fun e=>by
 rcases z3d h.vc with q|q|q|q|q<;>omega
theorem z0h(E:Ext s S)(hs:S.ser=s.ser)(h:qcs s i=true):qcs S i=true:=by
 simp only[qcs,gnB,gnD,uM,decide_eq_false_iff_not] at h⊢
 obtain⟨h1,h2,h3,h4,h5,h6⟩:=h
 have i1:=qe6 (by decide) h1
 have i2:=zrp h4
 rw[E.tag (ql.1 i1).2,E.tag (ql.1 i2).2,(E.inS i1).2,hs]
 exact⟨h1,h2,h3,h4,h5,h6⟩
theorem ze9(E:Ext s S)(h:qw s=true)(hs:S.ser=s.ser)(hi:inS s i=true):q5t S i=true:=by
 have hc:=qds h hi
 have he:=qg6 h hi
 have hl:=E.len
 unfold q5t at hc⊢
 rw[(E.inS hi).2]
 split at hc
 ·rename_i ht
  rw[if_pos ht]
  simp only[gnB,gnD,kO,kE,uM,decide_eq_false_iff_not] at hc⊢
  obtain⟨h1,h2,h3⟩:=hc
  rw[(E.ar (by omega)).1]
  have q:=ql.1 h2
  refine⟨h1,(E.inS h2).1,fun j hj=>?_⟩
  rw[E.tag (by omega)]
  exact h3 j hj
 ·rename_i ht
  rw[if_neg ht]
  simp only[gnB,uF,gnD] at hc⊢
  obtain⟨h1,h2,h3⟩:=hc
  refine⟨E.vc h1,?_,h3.imp id fun q=>⟨q.1,z0h E hs q.2⟩⟩
  exact qgh (by omega) (E.ends h _ _ hi he)
theorem zn2(E:Ext s S)(hs:S.ser=s.ser){u:Un}(h:qtr s u=true):qtr S u=true:=by
 simp only[qtr,zs4,gnB] at h⊢
 obtain⟨h1,h2⟩:=h
 have q:=ql.1 h1
 refine⟨(E.inS h1).1,?_⟩
 split at h2
 ·rename_i h3
  rw[if_pos h3];exact h2
 rename_i h3
 rw[if_neg h3]
 split at h2
 ·rename_i h4
  rw[if_pos h4]
  simp only[gnB] at h2⊢
  refine⟨h2.1,z0h E hs h2.2.1,?_⟩
  rw[E.tag (by omega)]
  exact h2.2.2
 rename_i h4
 rw[if_neg h4]
 split at h2
 ·rename_i h5
  rw[if_pos h5];exact E.vc h2
 ·cases h2
theorem zg4(E:Ext s S)(hs:S.ser=s.ser){w:Wk}(h:wkB vcR s w=true):wkB vcR S w=true:=by
 simp only[wkB,gnB] at h⊢
 rw[hs]
 exact⟨h.1,h.2.1,E.vc h.2.2.1,E.vc h.2.2.2⟩
theorem zeg(hf:∀v∈V,Vgood S (f v)){i:Nat}(h:z8h S f (fun t=>z7 t=true∧inV V t) i):q5t S i=true:=by
 have e1:∀k:Nat,(k:Int).toNat=k:=fun k=>uC k
 rcases h with⟨y,k,nm,hc,hy,h1,h2,hj⟩|⟨t,c,⟨hn,hi⟩,hc,hr⟩
 ·obtain⟨q1,q2⟩:=cell_of hc
  obtain⟨q3,q4⟩:=zdm hy
  unfold q5t
  rw[q2,if_pos rfl]
  simp only[q3,e1,gnB,gnD,kO,kE,uM,decide_eq_false_iff_not]
  refine⟨by omega,?_,fun j hjk=>?_⟩
  ·obtain⟨t,c,-,g1,-⟩:=hj k h1 (uJ _)
   exact(cell_of g1).1
  ·obtain⟨t,c,⟨g0,g00⟩,g1,g2⟩:=hj (j+1) (by omega) (by omega)
   obtain⟨g3,g4⟩:=cell_of g1
   have e:((i:Int)+((j:Int)+1))=((i+(j+1):Nat):Int):=by omega
   rw[e,q1l g3,g4]
   exact(z38 hf g00 g0 g2).no4
 ·obtain⟨q1,q2⟩:=cell_of hc
  have hg:=z38 hf hi hn hr
  unfold q5t
  rw[q2,if_neg hg.no4,hg.vc]
  simp only[kI,gnB,uF]
  refine⟨?_,.inl (by simp[hg.no5])⟩
  unfold qoz
  by_cases hN:Ns S i
  ·rw[q4k hN,nx,q2]
   refine hg.ends ?_
   have:=hN.1
   rwa [q1l q1,q2] at this
  ·exact q92 hN
theorem zdz(h:qw s=true)(E:Ext s S)(hm:S.mx=s.mx)(ht:S.tr=s.tr)(hw:S.wk=s.wk)(hs:S.ser=s.ser)(hc:(S.cs.length:Int)≤S.mx)(hy:q91 S.ys=true)(hf:∀v∈V,Vgood S (f v))(hn:∀i,s.cs.length≤i→i<S.cs.length→z8h S f (fun t=>z7 t=true∧inV V t) i):qw S=true:=by
 have hh:=qse h
 have h0:=h
 simp only[qw,qgf,gnB,gnD] at h hh⊢
 obtain⟨-,h2,h3,h4⟩:=h
 rw[hm,hs,ht,hw]
 refine⟨⟨hh.1,hh.2.1,by rw[←hm];exact hc,hh.2.2.2.1,hy⟩,q8t fun i hi=>?_,q8t fun i hi=>zn2 E hs (qul h3 hi),q8t fun i hi=>zg4 E hs (qul h4 hi)⟩
 rcases uP i s.cs.length with h5|h5
 ·exact ze9 E h0 hs (ql.2 ⟨by omega,by omega⟩)
 ·exact zeg hf (hn i h5 hi)
end
end
def Fr(all:List Vc)(n:Nat)(H:Nat→Prop):Prop:=∀v c,ofV all v=some c→∃p:Nat,c=⟨0,p⟩∧p<n∧¬H p
def Inj(all:List Vc):Prop:=∀v w c,ofV all v=some c→ofV all w=some c→v=w
theorem Inj.ins{all:List Vc}{n:Int}(h:Inj all)(ho:ofV all n=none)(hc:∀v,ofV all v≠some c):Inj (qa7 all n c):=fun v w d hv hw=>by
 rw[q74 ho] at hv hw
 split at hv<;>split at hw
 ·rename_i h1 h2;exact h1.trans h2.symm
 ·cases hv;exact absurd hw (hc w)
 ·cases hw;exact absurd hv (hc v)
 ·exact h v w d hv hw
mutual
theorem z86:∀(t:Te)(q:Sv)(a:Int)(H:Nat→Prop),z7 t=true→SV q.2→Fr q.2 q.1.cs.length H→(0≤a→H a.toNat)→(∀p,H p→p<q.1.cs.length)→Inj q.2→Inj (z6 q t a).2.2∧Fr (z6 q t a).2.2 (z6 q t a).2.1.cs.length (fun p=>H p∧(p:Int)≠a)
 | .mk k n nm l, q, a, H, hn, hs, hf, ha, hH, hi => by
  have hm:=qak (a:=a) hn hs
  rw[z7,gnB] at hn
  rcases q1o hn.1 with⟨rfl,rfl,h1,h2⟩|⟨rfl,rfl⟩|⟨rfl,rfl,h1⟩|⟨rfl,h1,h2,h3⟩
  ·rw[q9d] at hm⊢
   cases ho:ofV q.2 n with
   |some c=>
    simp only[ho] at hm⊢
    exact⟨hi,fun v c hv=>(hf v c hv).imp fun p⟨e1,e2,e3⟩=>⟨e1,e2,fun q=>e3 q.1⟩⟩
   | none =>
    by_cases h0:a<0
    ·simp only[ho,if_pos h0] at hm⊢
     refine⟨hi.ins ho fun v hv=>?_,fun v c hv=>?_⟩
     ·obtain⟨p,e1,e2,-⟩:=hf v _ hv
      have:=congrArg Ce.n e1
      simp only at this
      omega
     ·rw[q74 ho] at hv
      split at hv
      ·cases hv
       exact⟨_,rfl,by simp,fun h=>absurd (hH _ h.1) (Nat.lt_irrefl _)⟩
      ·obtain⟨p,e1,e2,e3⟩:=hf v c hv
       exact⟨p,e1,by omega,fun q=>e3 q.1⟩
    ·simp only[ho,if_neg h0] at hm⊢
     have e:(a.toNat:Int)=a:=vI (by omega)
     have haH:=ha (by omega)
     refine⟨hi.ins ho fun v hv=>?_,fun v c hv=>?_⟩
     ·obtain⟨p,e1,e2,e3⟩:=hf v _ hv
      have:=congrArg Ce.n e1
      simp only at this
      have:p=a.toNat:=by omega
      subst this
      exact e3 haH
     ·rw[q74 ho] at hv
      split at hv
      ·cases hv
       exact⟨a.toNat,by rw[e],hH _ haH,fun h=>h.2 e⟩
      ·obtain⟨p,e1,e2,e3⟩:=hf v c hv
       exact⟨p,e1,by omega,fun q=>e3 q.1⟩
  ·rw[qe0]
   exact⟨hi,fun v c hv=>(hf v c hv).imp fun p⟨e1,e2,e3⟩=>⟨e1,e2,fun q=>e3 q.1⟩⟩
  ·rw[qdw] at hm⊢
   exact⟨hi,fun v c hv=>(hf v c hv).imp fun p⟨e1,e2,e3⟩=>⟨e1,by have hm:=hm;simp only at hm⊢;omega,fun q=>e3 q.1⟩⟩
  ·rw[qe4] at hm⊢
   have hg:=qm1 q.1 (jq q.1 nm (l.length:Nat)).1 l.length
   have ih:=z0l l ({(jq q.1 nm (l.length:Nat)).2 with cs:=grow q.1 (jq q.1 nm (l.length:Nat)).1 l.length},q.2) (q.1.cs.length+1) (fun p=>H p∨q.1.cs.length+1≤p∧p<q.1.cs.length+1+l.length) hn.2 hs (fun v c hv=>by
    obtain⟨p,e1,e2,e3⟩:=hf v c hv
    refine⟨p,e1,?_,?_⟩
    ·show p<(grow _ _ _).length
     omega
    ·rintro(h|h)
     ·exact e3 h
     ·omega) (fun p hp=>by
    show p<(grow _ _ _).length
    rcases hp with h|h
    ·have:=hH p h
     omega
    ·omega) (fun i g1 g2=>.inr ⟨g1,g2⟩) hi
   obtain⟨i1,i2⟩:=ih
   refine⟨i1,fun v c hv=>?_⟩
   obtain⟨p,e1,e2,e3⟩:=i2 v c hv
   refine⟨p,e1,e2,fun h=>e3 ⟨.inl h.1,fun r=>?_⟩⟩
   have:=hH p h.1
   omega
theorem z0l:∀(l:List Te)(q:Sv)(to:Nat)(H:Nat→Prop),jw l=true→SV q.2→Fr q.2 q.1.cs.length H→(∀p,H p→p<q.1.cs.length)→(∀i,to≤i→i<to+l.length→H i)→Inj q.2→Inj (je q l to).2∧Fr (je q l to).2 (je q l to).1.cs.length (fun p=>H p∧¬(to≤p∧p<to+l.length))
 |[],q,to,H,_,_,hf,_,_,hi=>by
  rw[je]
  exact⟨hi,fun v c hv=>(hf v c hv).imp fun p⟨e1,e2,e3⟩=>⟨e1,e2,fun q=>e3 q.1⟩⟩
 | t :: l, q, to, H, hn, hs, hf, hH, hr, hi => by
  rw[jw,gnB] at hn
  rw[uK] at hr
  rw[je]
  have h4:=(q32 t q (to:Nat) hn.1 hs).2.2.2
  have hm:=qak (a:=(to:Nat)) hn.1 hs
  obtain⟨i1,i2⟩:=z86 t q (to:Nat) H hn.1 hs hf (fun _=>by rw[uC];exact hr to (uJ _) (by omega)) hH hi
  have hL:=q3u (z6 q t (to:Nat)).2.1 to (z6 q t (to:Nat)).1
  obtain⟨j1,j2⟩:=z0l l (qck (z6 q t (to:Nat)).2.1 to (z6 q t (to:Nat)).1,(z6 q t (to:Nat)).2.2) (to+1) (fun p=>H p∧(p:Int)≠(to:Nat)) hn.2 h4 (by rw[hL];exact i2) (fun p hp=>by
   rw[hL]
   have:=hH p hp.1
   omega) (fun i g1 g2=>⟨hr i (by omega) (by omega),by omega⟩) i1
  refine⟨j1,fun v c hv=>?_⟩
  obtain⟨p,e1,e2,e3⟩:=j2 v c hv
  refine⟨p,e1,e2,fun h=>e3 ⟨⟨h.1,fun r=>?_⟩,fun r=>?_⟩⟩
  ·have h2:=h.2
   rw[uK] at h2
   omega
  ·have h2:=h.2
   rw[uK] at h2
   omega
end
theorem zjq{l:List Vc}(h:SV l){x:Vc}(hx:x∈l):ofV l x.v=some x.c:=by
 have h1:=h.1
 clear h
 induction l with
 |nil=>cases hx
 | cons y l ih =>
  rw[List.pairwise_cons] at h1
  rw[ofV]
  rcases kA.1 hx with rfl|hx
  ·rw[if_pos rfl]
  ·have:=h1.1 x hx
   rw[if_neg (by omega)]
   exact ih hx h1.2
def fOf(all:List Vc)(v:Int):Ce:=q1f ((ofV all v).getD default)
theorem z5d{all:List Vc}{v:Int}(h:ofV all v=some c):fOf all v=q1f c:=by rw[fOf,h];rfl
structure PutOk(s:So)(t:Te)(l:List Vc)(c:Ce)(all:List Vc)(S:So):Prop where
 ext:Ext s S
 rst:Rst s S
 valid:qw S=true
 rep:Rh S (fOf all) t c
 sv:SV all
 of:∀v d,ofV l v=some d→ofV all v=some d
 new:∀v d,ofV all v=some d→ofV l v=some d∨∃p:Nat,d=⟨0,p⟩∧S.cs[p]? =some d
 vc:vcR S c=true
 vv:vvP S all=true
 len:S.cs.length=s.cs.length+q5o t l
 ys:∃m,S.ys=s.ys++m
 vars:∀v,v∈q72 (l.map Vc.v) t↔(ofV all v).isSome=true
 varsG:∀vs:List Int,(∀v,v∈vs↔(ofV l v).isSome=true)→(∀v,v∈q72 vs t↔(ofV all v).isSome=true)∧all.length+vs.length=l.length+(q72 vs t).length
 cnt:all.length=(q72 (l.map Vc.v) t).length
 inj:∀H:Inj l,(∀v d,ofV l v=some d→∃p:Nat,d=⟨0,p⟩∧p<s.cs.length)→Inj all∧∀v d,ofV all v=some d→∃p:Nat,d=⟨0,p⟩∧p<S.cs.length
theorem mem_of{l:List Vc}(v:Int):v∈l.map Vc.v↔(ofV l v).isSome=true:=by
 induction l with
 |nil=>simp[ofV]
 | cons x l ih =>
  rw[uT,kA,ih,ofV]
  by_cases h:x.v=v
  ·simp[h]
  ·have h':¬v=x.v:=fun e=>h e.symm
   simp[h,h']
theorem zes{s:So}(h:qw s=true)(E:Ext s S)(hl:0<S.cs.length)(hc:vcR s c=true):Vgood S (q1f c):=by
 have hL:=E.len
 unfold q1f
 split
 ·rename_i h5
  have ht:q37 s c.n=5:=by
   unfold vcR at hc
   rw[if_neg (by omega),if_neg (by omega),if_neg (by omega),if_neg (by omega),if_pos h5] at hc
   exact of_decide_eq_true hc
  have hi:=qe6 (by decide) ht
  have hT:=E.tag (ql.1 hi).2
  have hI:=(E.inS hi).1
  refine⟨?_,fun h=>absurd h (by decide:¬(0:Int)=5),fun _=>?_⟩
  ·unfold vcR
   rw[if_pos rfl]
   simp only[hI,hT,ht]
   rfl
  ·obtain⟨k,hk⟩:∃k,S.cs.length=k+1:=⟨S.cs.length - 1,by omega⟩
   rw[hk]
   exact q92 fun q=>by have:=q.1;simp only[hT,ht] at this;omega
 ·rename_i h5
  refine⟨E.vc hc,h5,fun h0=>?_⟩
  have:=(qb5 hc h0).1
  exact qgh hL (E.ends h _ _ this (qg6 h this))
theorem qzz{p:Nat}(h:S.cs[p]? =some ⟨0,p⟩):Vgood S ⟨0,p⟩:=by
 obtain⟨h1,h2⟩:=cell_of h
 have hl:=(gnH.1 h).1
 refine⟨?_,fun h=>absurd h (by decide:¬(0:Int)=5),fun _=>?_⟩
 ·unfold vcR
  rw[if_pos rfl]
  simp only[h1,q1l h1,h2]
  rfl
 ·obtain⟨k,hk⟩:∃k,S.cs.length=k+1:=⟨S.cs.length - 1,by omega⟩
  rw[hk]
  refine q92 fun q=>q.2 ?_
  show(cellAt S (p:Nat)).n=_
  rw[h2]
theorem zqz{s:So}{l:List Vc}(hs:qw s=true)(ht:jb t=true)(hl:vvP s l=true)(hr:qfd s t l=true):PutOk s t l (z6 (s,l) t (-1)).1 (z6 (s,l) t (-1)).2.2 (z6 (s,l) t (-1)).2.1:=by
 have hA:=quz hs ht hl hr
 simp only[qmt,gnB,gnD] at hA
 obtain⟨hn,hsv,-,-,hys,-⟩:=hA
 have hcs:(s.cs.length:Int)+((q5o t l:Nat):Int)≤s.mx:=by
  simp only[qfd,gnB,gnD] at hr
  omega
 obtain⟨g1,g2,⟨r1,r2,r3,r4⟩,g4⟩:=q32 t (s,l) (-1) hn hsv
 have hk:=fun i h=>z0o t (s,l) (-1) i hn hsv h
 have hof:=zb2 t (s,l) (-1) hn
 obtain⟨v1,v2⟩:=qn5 t (s,l) (-1) (l.map Vc.v) hn (fun v=>mem_of v)
 have hvg:=fun vs h=>qn5 t (s,l) (-1) vs hn h
 have hnew:=z5q (S:=(z6 (s,l) t (-1)).2.1) t (s,l) (-1) hn hsv (fun i _ _=>rfl) (fun h=>absurd h (by decide))
 have hinj:=fun H h1 h2 h3 h4=>z86 t (s,l) (-1) H hn hsv h1 h2 h3 h4
 have hm:=qak (a:= -1) (q:=(s,l)) hn hsv
 rw[if_pos (by decide)] at g1
 obtain⟨hd1,hd2,hd3,hd4⟩:=qvx hs
 obtain⟨m,hpre⟩:=z00 t s.ys
 have hrep:=z64 (S:=(z6 (s,l) t (-1)).2.1) (f:=fOf (z6 (s,l) t (-1)).2.2) (P:=fun u=>z7 u=true∧inV (q72 (l.map Vc.v) t) u) (fun k n nm l' hp u hu=>by
  rw[z7,gnB,zk5] at hp
  exact⟨q8x.1 hp.1.2 u hu,z8c.1 hp.2.2 u hu⟩) t (s,l) (-1) ⟨hn,qw7 t _⟩ hn hsv (fun i _ _=>rfl) (fun i y h=>h) (fun v c h=>z5d h)
 have hcz:=qh1 t
 simp only[jb,gnB,gnD] at ht
 generalize z6 (s,l) t (-1)=R at *
 obtain⟨rep,news⟩:=hrep
 have E:Ext s R.2.1:=⟨fun i h=>hk i h,hm,fun i y h=>by rw[g2];show(q57 s.ys t)[i]? =_;rw[hpre];exact zg0 h⟩
 have hvs:=qal hs
 have hlv:=(qc3.1 hl).2
 have hvP:∀c,vcP s c=vcR s c:=hvs.vc
 have hsome:∀v d,ofV R.2.2 v=some d→Vgood R.2.1 (q1f d):=fun v d hv=>by
  rcases hnew v d hv with h|⟨p,e,h,-⟩
  ·have hmem:=z2d h
   have hvd:vcR s d=true:=by rw[←hvP];exact hlv _ hmem
   have hpos:0<R.2.1.cs.length∨d.t≠0∧d.t≠5:=by
    rcases Nat.eq_zero_or_pos R.2.1.cs.length with h0|h0
    ·right
     have hs0:s.cs.length=0:=by have:s.cs.length≤R.2.1.cs.length:=hm;omega
     refine⟨fun q=>?_,fun q=>?_⟩
     ·have:=ql.1 (qb5 hvd q).1
      omega
     ·unfold vcR at hvd
      rw[if_neg (by omega),if_neg (by omega),if_neg (by omega),if_neg (by omega),if_pos q] at hvd
      have:=ql.1 (qe6 (by decide) (of_decide_eq_true hvd))
      omega
    ·exact .inl h0
   rcases hpos with h0|h0
   ·exact zes hs E h0 hvd
   ·have:q1f d=d:=if_neg h0.2
    rw[this]
    exact⟨E.vc hvd,h0.2,fun q=>absurd q h0.1⟩
  ·subst e
   exact qzz h
 have hgood:∀v∈q72 (l.map Vc.v) t,Vgood R.2.1 (fOf R.2.2 v):=fun v hv=>by
  have:=(v1 v).1 hv
  cases ho:ofV R.2.2 v with
  |none=>rw[ho] at this;cases this
  |some d=>rw[z5d ho];exact hsome v d ho
 have hsy:q91 R.2.1.ys=true:=by
  have h0:=z1g.1 (z3k hs)
  refine z1g.2 ⟨by rw[g2];exact hys,?_⟩
  rw[g2]
  exact z56 t s.ys hn ⟨h0.2.1,h0.2.2⟩
 have hval:qw R.2.1=true:=zdz (V:=q72 (l.map Vc.v) t) (f:=fOf R.2.2) hs E r1 r2 r3 r4 (by rw[g1,r1];show((s.cs.length+q5o t l:Nat):Int)≤s.mx;have hcs:(s.cs.length:Int)+((q5o t l:Nat):Int)≤s.mx:=hcs;omega) hsy hgood news
 have hvP2:∀c,vcP R.2.1 c=vcR R.2.1 c:=(qal hval).vc
 refine⟨E,⟨r1,r2,r3,r4⟩,hval,rep,g4,hof,fun v d hv=>(hnew v d hv).imp id fun⟨p,e,h,_⟩=>⟨p,e,h⟩,(z38 hgood (qw7 t _) hn rep).vc,qc3.2 ⟨g4,fun x hx=>?_⟩,g1,⟨m,by rw[g2];exact hpre⟩,v1,hvg,?_,fun H hb=>?_⟩
 ·rw[hvP2]
  rcases hnew _ _ (zjq g4 hx) with h|⟨p,e,h,-⟩
  ·exact E.vc (by rw[←hvP];exact hlv _ (z2d h))
  ·rw[e] at h⊢
   exact(qzz h).vc
 ·rw[uE] at v2
  have v2:R.2.2.length+l.length=l.length+(q72 (l.map Vc.v) t).length:=v2
  omega
 ·obtain⟨i1,i2⟩:=hinj (fun _=>False) (fun v c hv=>(hb v c hv).imp fun p⟨e1,e2⟩=>⟨e1,e2,id⟩) (fun h=>absurd h (by decide)) (fun p h=>h.elim) H
  exact⟨i1,fun v d hv=>(i2 v d hv).imp fun p⟨e1,e2,_⟩=>⟨e1,e2⟩⟩
theorem z71{s:So}{l:List At}(hv:qw s=true)(he:(qu s l).2.1=0):∃all,PutOk s (apT l) (vsA l) (qu s l).1 all (qu s l).2.2:=by
 unfold qu at he⊢
 simp only[z50 hv] at he⊢
 unfold qqb at he⊢
 split at he
 ·rename_i h
  split at he
  ·rename_i hr
   have h':=h
   simp only[gnB] at h
   simp only[if_pos h',if_pos hr]
   exact⟨_,zqz hv h.1 h.2 hr⟩
  ·exact absurd (show(13:Int)=0 from he) (by decide)
 ·exact absurd (show(1:Int)=0 from he) (by decide)
theorem zvi(h:Rh S f t c)(hk:t.k=2∨t.k=3):c.t=2∨c.t=3:=by
 obtain⟨k,n,nm,l⟩:=t
 rw[Rh] at h
 simp only[Te.k] at hk
 rcases h with⟨h,-⟩|⟨h,-⟩|⟨-,q,-⟩|⟨-,q,-⟩
 ·omega
 ·omega
 ·exact .inl q
 ·exact .inr q
theorem zrj(l:List At):(apT l).k=2∨(apT l).k=3:=by
 unfold apT
 cases qbm l with
 |nil=>exact .inl rfl
 |cons x m=>exact .inr rfl
theorem z88(h:¬c.t=0):∀k,q9f S a k c=false
 |0=>rfl
 |k+1=>by
  unfold q9f
  rw[if_neg fun q=>h q.1]
theorem zdg{s:So}{l:List At}(hv:qw s=true)(he:(qu s l).2.1=0){d:Ce}(hd:vcR s d=true)(h5:d.t=5)(hst:qb0 s d.n=true):q1q vcP q42 (qu s l).2.2 (d.n+2) (qu s l).1=true:=by
 obtain⟨all,P⟩:=z71 hv he
 obtain⟨a1,a2,a3,-⟩:=q7s hv hd h5
 have hc:=zvi P.rep (zrj l)
 obtain⟨b1,b2⟩:=P.ext.inS a1
 obtain⟨b3,b4⟩:=P.ext.inS a3
 have hv2:=P.valid
 have hvc:=P.vc
 generalize (qu s l).2.2=S at *
 generalize (qu s l).1=c at *
 have hn:=(ql.1 a1).1
 have hb:behind S (d.n+2)=true:=by
  have e:d.n+2 - 2=d.n:=by omega
  simp only[behind,e,b2,a2,h5,gnB,gnD]
  exact⟨by omega,trivial⟩
 have hs:q42 S (d.n+2)=true:=by
  unfold q42
  rw[b4]
  unfold qb0 at hst
  simp only[uF,gnD] at hst
  rcases hst with h|h|h|h
  ·rw[if_neg (by omega),if_neg (by omega),if_pos (.inl h)]
   exact hb
  ·rw[if_neg (by omega),if_neg (by omega),if_pos (.inr (.inl h))]
   exact hb
  ·rw[if_neg (by omega),if_neg (by omega),if_pos (.inr (.inr h))]
   exact hb
  ·rw[h]
   simp
 have hk:q1f c=c:=by
  unfold q1f
  rw[if_neg (by omega)]
 unfold q1q qcq
 rw[b3,ziw hv2,hvc,hs,hk,z88 (by omega)]
 rfl
theorem zjm(S:So)(c:Ce):cellAt (apN S c) (S.cs.length:Nat)=⟨5,(S.cs.length:Nat)⟩∧inS (apN S c) (S.cs.length:Nat)=true:=by
 refine⟨?_,ql.2 ⟨by omega,by simp[apN];omega⟩⟩
 simp[cellAt,apN,gnG]
theorem zjy(c:Ce)(h:inS S i=true):inS (apN S c) i=true∧cellAt (apN S c) i=cellAt S i:=by
 obtain⟨h1,h2⟩:=ql.1 h
 refine⟨ql.2 ⟨h1,by simp[apN];omega⟩,?_⟩
 simp only[cellAt,apN,gnG]
 rw[uH (by omega)]
theorem zks{s:So}{l:List At}(hv:qw s=true)(he:(qu s l).2.1=0){d:Ce}(hi:inS s d.n=true)(hd:cellAt s d.n=d)(h0:d.t=0):
  q1q vcP q42 (apN (qu s l).2.2 (qu s l).1) d.n ⟨5,((qu s l).2.2.cs.length:Nat)⟩=true∧q1q vcR q40 (apN (qu s l).2.2 (qu s l).1) d.n ⟨5,((qu s l).2.2.cs.length:Nat)⟩=true:=by
 obtain⟨all,P⟩:=z71 hv he
 obtain⟨b1,b2⟩:=P.ext.inS hi
 generalize (qu s l).2.2=S at *
 generalize (qu s l).1=c at *
 obtain⟨c1,c2⟩:=zjy c b1
 obtain⟨n1,n2⟩:=zjm S c
 have hlt:=(ql.1 b1).2
 have ht:q37 (apN S c) (S.cs.length:Nat)=5:=by
  unfold q37
  rw[if_pos n2,n1]
 have hp:vcP (apN S c) ⟨5,(S.cs.length:Nat)⟩=true:=by simp[vcP,ht]
 have hr:vcR (apN S c) ⟨5,(S.cs.length:Nat)⟩=true:=by simp[vcR,ht]
 have hsp:q42 (apN S c) d.n=true:=by
  unfold q42
  rw[c2,b2,hd,if_pos h0]
  simp
 have hsr:q40 (apN S c) d.n=true:=by
  unfold q40
  rw[c2,b2,hd,if_pos (.inl h0)]
  simp
 have hcm:qcq (apN S c) (q1f ⟨5,(S.cs.length:Nat)⟩) d.n=false:=by
  have hk:q1f ⟨5,(S.cs.length:Nat)⟩=⟨0,(S.cs.length:Nat)⟩:=rfl
  unfold qcq
  rw[hk]
  unfold q9f
  rw[if_pos ⟨rfl,n2⟩,if_neg (by show ¬((S.cs.length:Nat):Int)=d.n;omega),n1]
  exact z88 (show ¬(5:Int)=0 by decide) _
 unfold q1q
 rw[c1,hp,hr,hsp,hsr,hcm]
 exact⟨rfl,rfl⟩
def z2c(s:So)(a:Int)(c:Ce):Int×So:=if q1q vcR q40 s a c then(0,zem s a c) else(1,s)
def rpC(s:So)(d:Ce)(l:List At):Int×So:=
 if(qu s l).2.1=0 then(if d.t=5 then(0,(z2c (qu s l).2.2 (d.n+2) (qu s l).1).2) else
  if(qu s l).2.2.mx<(qu s l).2.2.cs.length+3∨1099511627776≤(qu s l).2.2.ser then(13,s) else(0,(z2c (apN (qu s l).2.2 (qu s l).1) d.n ⟨5,((qu s l).2.2.cs.length:Nat)⟩).2))
 else((qu s l).2.1,s)
theorem z8i{α:Type}{l m:List α}(h:∀i:Nat,i<l.length→m[i]? =l[i]?):m.take l.length=l:=by
 apply List.ext_getElem?
 intro i
 rw[List.getElem?_take]
 split
 ·rename_i hi
  exact h i hi
 ·rename_i hi
  rw[List.getElem?_eq_none (by omega)]
theorem zdr{s:So}(E:Ext s S)(R:Rst s S){e:Int}(he:¬e=0):qod e S s=s:=by
 obtain⟨r1,r2,r3,r4⟩:=R
 have e1:=z8i E.cs
 have e2:S.ys.take s.ys.length=s.ys:=z8i fun i hi=>by
  rw[gnK hi]
  exact E.ys i _ (gnK hi)
 unfold qod
 rw[if_neg he,e1,e2,r2,List.take_length]
 obtain⟨cs,ys,tr,wk,ser,mx⟩:=s
 obtain⟨cs',ys',tr',wk',ser',mx'⟩:=S
 simp only at r1 r3
 simp only[r1,r3]
theorem z15(s:So)(e:Int):qod e s s=s:=by
 unfold qod
 split
 ·rfl
 ·simp
theorem z6q{s:So}{l:List At}(hv:qw s=true)(he:¬(qu s l).2.1=0):(qu s l).2.2=s:=by
 unfold qu at he⊢
 simp only[z50 hv] at he⊢
 unfold qqb at he⊢
 split at he
 ·rename_i h
  split at he
  ·exact absurd rfl he
  ·rename_i hr
   simp only[if_pos h,if_neg hr]
 ·rename_i h
  simp only[if_neg h]
theorem ztx{s:So}{v:Ce}{l:List At}(hv:qw s=true)(hok:(zw s v).2=true)(hst:(zw s v).1.t=5→qb0 s (zw s v).1.n=true):((apC s (zw s v).1 l).1,qod (apC s (zw s v).1 l).1 (apC s (zw s v).1 l).2 s)=rpC s (zw s v).1 l:=by
 rw[varz hv] at hok hst⊢
 by_cases hc:(vcR s v&&(decide ((jt s v).t=0)||decide ((jt s v).t=5)))=true
 ·rw[if_pos hc] at hst⊢
  simp only[gnB,uF,gnD] at hc
  obtain⟨hvc,ht⟩:=hc
  have hd:=qa5 hv hvc
  simp only at hst⊢
  unfold apC rpC
  by_cases he:(qu s l).2.1=0
  ·rw[if_pos he,if_pos he]
   by_cases h5:(jt s v).t=5
   ·rw[if_pos h5,if_pos h5]
    have h1:=zdg (l:=l) hv he hd h5 (hst h5)
    obtain⟨all,P⟩:=z71 hv he
    have h2:q1q vcR q40 (qu s l).2.2 ((jt s v).n+2) (qu s l).1=true:=by rw[zbl P.valid];exact h1
    unfold q9r z2c
    rw[if_pos h1,if_pos h2]
    rfl
   ·rw[if_neg h5,if_neg h5]
    have h0:(jt s v).t=0:=by omega
    obtain⟨all,P⟩:=z71 hv he
    have hr:=zj6 P.valid
    obtain⟨m1,m2,m3,m4⟩:=qvx P.valid
    have ew:IntKind.wrap .i64 ((qu s l).2.2.mx - 3)=(qu s l).2.2.mx - 3:=qcd (by simp[yw];omega)
    rw[ew]
    by_cases hf:(qu s l).2.2.mx<(qu s l).2.2.cs.length+3∨1099511627776≤(qu s l).2.2.ser
    ·rw[if_pos hf,if_pos (by omega)]
     show(13,qod 13 _ s)=(13,s)
     rw[zdr P.ext P.rst (by decide)]
    ·rw[if_neg hf,if_neg (by omega)]
     obtain⟨h1,h2⟩:=zks (l:=l) hv he (qb5 hd h0).1 (zj4 hv hvc h0) h0
     unfold q9r z2c
     rw[if_pos h1,if_pos h2]
     rfl
  ·rw[if_neg he,if_neg he]
   simp only
   rw[z6q hv he,z15]
 ·rw[if_neg hc] at hok
  cases hok
def z9:Ct:=⟨122,[.ref (.st 26) true,.val (.str),.val (.int .i64)],[(.int .i64,false)],[],none,[1],[]⟩
theorem qiw:EnZ z9:=fun _ _=>by kernel_rfl
def q5v:Ct:=⟨130,[.val (.st 26),.val (.str),.val (.int .i64)],[(.int .i64,false)],[],none,[],[]⟩
theorem qmx:EnZ q5v:=fun _ _=>by kernel_rfl
def qx1:Ann:=⟨[0,1,2,3,6,7,12,32],[(2,⟨[(6,.int .i64,false),(7,.int .i64,false)],[],[8,9,10,11,12,15,16,17,18,19,20,21,22,23,24,25,26,27,28,29,30,31,32,33,13,14],[]⟩)]⟩
def q9s:Tree:=(.loop 2 3 [(.lit (.i 0)),(.lit (.i 0))] (.br (.lt (.tok 4) (.len (.fld (.tok 0) 1))) (.need [(.le (.lit (.i 0)) (.tok 4)),(.lt (.tok 4) (.len (.fld (.tok 0) 1))),(.imp (.eq (.fld (.get (.fld (.tok 0) 1) (.tok 4)) 0) (.tok 1)) (.le (.lit (.i 0)) (.tok 4))),(.imp (.eq (.fld (.get (.fld (.tok 0) 1) (.tok 4)) 0) (.tok 1)) (.lt (.tok 4) (.len (.fld (.tok 0) 1))))] (.br (.and (.eq (.fld (.get (.fld (.tok 0) 1) (.tok 4)) 0) (.tok 1)) (.eq (.fld (.get (.fld (.tok 0) 1) (.tok 4)) 1) (.tok 2))) (.leaf [(.tok 4)]) (.need [(.rng .i64 (.add (.tok 4) (.lit (.i 1))))] (.back 2 [(.tok 3),(.add (.tok 4) (.lit (.i 1)))])))) (.leaf [(.lit (.i (-1)))])))
theorem qqz:CdZ [] qx1 q5v Tryz.f130 q9s:=fun cd h=>by injection h with h;subst h;kernel_rfl
variable{g:GfZ}
theorem qx3(h:HgZ q9s q5v [] g):FOk q5v g:=yd (qqz) .nil rfl rfl qmx (by decide) h
def jp:Ct:=⟨108,[.val (.st 26),.val (.row 102)],[(.bool,false)],[],none,[],[]⟩
theorem qeq:EnZ jp:=fun _ _=>by kernel_rfl
def qhi:Ann:=⟨[0,1,2,4,5,9,53],[(2,⟨[(4,.bool,false),(5,.int .i64,false)],[],[6,7,8,9,12,13,14,15,16,17,18,19,20,21,22,23,24,25,26,27,28,29,30,31,32,33,34,35,36,37,38,39,40,41,42,43,44,45,46,47,48,49,50,51,52,53,10,11],[]⟩)]⟩
def q4i:Tree:=
 let c:X:=.sub (.tok 3) (.lit (.i 1))
 let d:X:=.lt (.tok 3) (.len (.tok 1))
 let g:X:=.get (.tok 1) (.tok 3)
 let h:X:=.lit (.i 0)
 let j:X:=.add (.tok 3) (.lit (.i 1))
 let a:X:=.and (.not (.or (.lt (.fld g 0) h) (.lt (.lit (.i 1099511627776)) (.fld g 0)))) (.lt h (.tok 3))
 let b:X:=.or (.or (.lt (.fld g 0) h) (.lt (.lit (.i 1099511627776)) (.fld g 0))) (.and (.lt h (.tok 3)) (.le (.fld g 0) (.fld (.get (.tok 1) c) 0)))
 let e:X:=.le h (.tok 3)
 let f:X:=.rng .i64 c
 let i:X:=.lt c (.len (.tok 1))
 let k:X:=.not (.lt (.fld g 0) h)
 (.loop 2 2 [(.lit (.b .false)),h] (.br d (.need [(.imp (.not b) (.ok 0 [(.tok 0),(.fld g 1)])),(.imp (.not b) e),(.imp (.not b) d),(.imp a e),(.imp a d),(.imp a (.le h c)),(.imp a i),(.imp a f),(.imp a e),(.imp a d),(.imp a (.le h c)),(.imp a i),(.imp a f),(.imp a f),(.imp a e),(.imp a d),(.imp a e),(.imp a d),(.imp a (.le h c)),(.imp a i),(.imp a f),(.imp a f),(.imp a f),(.imp a e),(.imp a d),(.imp a f),(.imp k e),(.imp k d),e,d] (.br (.or b (.not (.call 0 0 [(.tok 0),(.fld g 1)]))) (.leaf [(.lit (.b .false))]) (.need [(.rng .i64 j)] (.back 2 [(.tok 2),j])))) (.leaf [(.lit (.b .true))])))
theorem qg5(g0:GfZ):CdZ [(qg,g0)] qhi jp Tryz.f108 q4i:=fun cd h=>by injection h with h;subst h;kernel_rfl
theorem qhx{g0:GfZ}(h0:FOk qg g0)(h:HgZ q4i jp [(qg,g0)] g):FOk jp g:=yd (qg5 g0) (.cons h0 .nil) rfl rfl qeq (by decide) h
def q3j:Ct:=⟨123,[.val (.row 102),.val (.int .i64)],[(.int .i64,false)],[],none,[],[]⟩
theorem qte:EnZ q3j:=fun _ _=>by kernel_rfl
def z33:Ann:=⟨[0,1,4,5,9,18],[(2,⟨[(4,.int .i64,false),(5,.int .i64,false)],[],[6,7,8,9,12,13,14,15,16,17,18,19,10,11],[]⟩)]⟩
def qcn:Tree:=(.loop 2 2 [(.lit (.i 0)),(.lit (.i 0))] (.br (.lt (.tok 3) (.len (.tok 0))) (.need [(.le (.lit (.i 0)) (.tok 3)),(.lt (.tok 3) (.len (.tok 0)))] (.br (.eq (.fld (.get (.tok 0) (.tok 3)) 0) (.tok 1)) (.leaf [(.tok 3)]) (.need [(.rng .i64 (.add (.tok 3) (.lit (.i 1))))] (.back 2 [(.tok 2),(.add (.tok 3) (.lit (.i 1)))])))) (.leaf [(.lit (.i (-1)))])))
theorem qzb:CdZ [] z33 q3j Tryz.f123 qcn:=fun cd h=>by injection h with h;subst h;kernel_rfl
theorem z3a(h:HgZ qcn q3j [] g):FOk q3j g:=yd (qzb) .nil rfl rfl qte (by decide) h
def q28:Ct:=⟨124,[.val (.row 102),.val (.int .i64),.val (.st 28)],[(.row 102,true)],[],none,[],[]⟩
theorem qmb:EnZ q28:=fun _ _=>by kernel_rfl
def qtn:Ann:=⟨[0,1,2,5,6,7,8,9,22],[(3,⟨[(7,.row 102,false),(8,.int .i64,false)],[],[10,11,12,13,14,15,16,17,18,19,20,21,22,25,26,27,28,29,30,31,23,24],[]⟩)]⟩
def q9u:Tree:=(.loop 3 3 [(.lit (.r [])),(.lit (.i 0))] (.need [(.imp (.lt (.tok 4) (.len (.tok 0))) (.le (.lit (.i 0)) (.tok 4))),(.imp (.lt (.tok 4) (.len (.tok 0))) (.lt (.tok 4) (.len (.tok 0))))] (.br (.and (.lt (.tok 4) (.len (.tok 0))) (.lt (.fld (.get (.tok 0) (.tok 4)) 0) (.tok 1))) (.need [(.le (.lit (.i 0)) (.tok 4)),(.lt (.tok 4) (.len (.tok 0))),(.le (.add (.len (.tok 3)) (.lit (.i 1))) (.lit (.i 5864062014634)))] (.need [(.rng .i64 (.add (.tok 4) (.lit (.i 1))))] (.back 3 [(.app (.tok 3) (.row [(.get (.tok 0) (.tok 4))])),(.add (.tok 4) (.lit (.i 1)))]))) (.need [(.le (.add (.len (.tok 3)) (.lit (.i 1))) (.lit (.i 5864062014634)))] (.need [(.le (.lit (.i 0)) (.len (.tok 3))),(.le (.len (.tok 3)) (.len (.tok 0))),(.le (.add (.len (.app (.tok 3) (.row [(.mk [(.tok 1),(.tok 2)])]))) (.len (.cut (.tok 0) (.len (.tok 3)) (.len (.tok 0))))) (.lit (.i 5864062014634)))] (.leaf [(.app (.app (.tok 3) (.row [(.mk [(.tok 1),(.tok 2)])])) (.cut (.tok 0) (.len (.tok 3)) (.len (.tok 0))))]))))))
theorem qrj:CdZ [] qtn q28 Tryz.f124 q9u:=fun cd h=>by injection h with h;subst h;kernel_rfl
theorem qvc(h:HgZ q9u q28 [] g):FOk q28 g:=yd (qrj) .nil rfl rfl qmb (by decide) h
def q0m:Ct:=⟨109,[.ref (.st 26) true,.val (.st 53),.val (.row 102)],[(.st 28,false),(.row 102,false)],[],none,[],[]⟩
theorem qea:EnZ q0m:=fun _ _=>by kernel_rfl
def qxj:Ann:=⟨[0,1,2,4,6,7,8,9,10,11,12,13,14,16,17,23,31,38,105,128],[(17,⟨[(2,.row 102,false),(11,.int .i64,false)],[0],[101,102,103,104,105,108,109,110,111,12,112,113,114,115,116,13,117,118,14,119,120,121,122,123,124,125,126,127,128,129,130,131,132,133,135,136,137,138,134,139,140,141,142,143,144,145,146,147,106,107],[]⟩)]⟩
def q2q:Tree:=
 let d:X:=.lit (.i 0)
 let h:X:=.lit (.i 1)
 let i:X:=.tok 1
 let j:X:=.tok 0
 let k:X:=.tok 3
 let l:X:=.tok 2
 let m:X:=.tok 5
 let n:X:=.lit (.i 8796093021952)
 let c:X:=.get (.fld i 3) (.tok 4)
 let e:X:=.len (.fld i 3)
 let g:X:=.len (.fld j 0)
 let o:X:=.add (.tok 4) h
 let p:X:=.fld i 2
 let t:X:=.fld i 1
 let a:X:=.add (.add g h) (.tok 4)
 let f:X:=.call 1 0 [l,t]
 let q:X:=.call 4 2 [m,c,k]
 let r:X:=.mk [d,g]
 let s:X:=.fld (.call 0 1 [j,p,e]) 0
 let u:X:=.fld c 1
 let b:X:=.set (.call 0 1 [j,p,e]) 0 (.app s (.row [(.mk [(.lit (.i 4)),(.call 0 0 [j,p,e])])]))
 let v:X:=.mk [d,a]
 (.br (.eq (.fld i 0) h) (.leaf [(.mk [h,t]),l,j]) (.br (.eq (.fld i 0) (.lit (.i 2))) (.need [(.ok 0 [j,p,d])] (.leaf [(.mk [(.lit (.i 2)),(.call 0 0 [j,p,d])]),l,(.call 0 1 [j,p,d])])) (.br (.eq (.fld i 0) d) (.need [(.ok 1 [l,t])] (.br (.le d f) (.need [(.le d f),(.lt f (.len l)),(.ok 2 [(.fld (.get l f) 1)])] (.leaf [(.call 2 0 [(.fld (.get l f) 1)]),l,j])) (.need [(.le (.add g h) n)] (.need [(.ok 3 [l,t,r])] (.leaf [r,(.call 3 0 [l,t,r]),(.set j 0 (.app (.fld j 0) (.row [r])))]))))) (.need [(.le (.add (.len s) h) n),(.ok 0 [j,p,e]),(.eq s (.fld j 0))] (.need [(.le d e),(.le e (.lit (.i 16777216))),(.le (.add (.len (.fld b 0)) e) n)] (.loop 17 3 [l,d,(.set b 0 (.app (.fld b 0) (.rep e (.lit (.a [(.i 0),(.i 0)])))))] (.br (.lt (.tok 4) e) (.need [(.rng .i64 (.add g h)),(.rng .i64 a)] (.need [(.le d (.tok 4)),(.lt (.tok 4) e)] (.need [(.imp (.eq (.fld c 0) d) (.ok 1 [k,u]))] (.br (.and (.eq (.fld c 0) d) (.lt (.call 1 0 [k,u]) d)) (.need [(.ok 3 [k,u,v])] (.need [(.le d a),(.lt a (.len (.fld m 0)))] (.need [(.rng .i64 o)] (.back 17 [(.call 3 0 [k,u,v]),o,(.set m 0 (.put (.fld m 0) a v))])))) (.need [(.ok 4 [m,c,k])] (.need [(.le d a),(.lt a (.len (.fld q 0)))] (.need [(.rng .i64 o)] (.back 17 [(.call 4 1 [m,c,k]),o,(.set q 0 (.put (.fld q 0) a (.call 4 0 [m,c,k])))])))))))) (.leaf [(.mk [(.lit (.i 3)),g]),k,m]))))))))
theorem qve(g0 g1 g2 g3 g4:GfZ):CdZ [(z9,g0),(q3j,g1),(j9,g2),(q28,g3),(q0m,g4)] qxj q0m Tryz.f109 q2q:=fun cd h=>by injection h with h;subst h;kernel_rfl
theorem qyk{g0 g1 g2 g3 g4:GfZ}(h0:FOk z9 g0)(h1:FOk q3j g1)(h2:FOk j9 g2)(h3:FOk q28 g3)(h4:FOk q0m g4)(h:HgZ q2q q0m [(z9,g0),(q3j,g1),(j9,g2),(q28,g3),(q0m,g4)] g):FOk q0m g:=yd (qve g0 g1 g2 g3 g4) (.cons h0 (.cons h1 (.cons h2 (.cons h3 (.cons h4 .nil))))) rfl rfl qea (by decide) h
def q2w:Ct:=⟨66,[.ref (.st 26) true,.val (.st 53),.val (.row 102)],[(.st 28,false),(.row 102,false),(.int .i64,false)],[],none,[],[]⟩
theorem qpy:EnZ q2w:=fun _ _=>by kernel_rfl
def qyr:Ann:=⟨[0,1,2,4,6,7,8,9,10,11,26,50],[]⟩
def qb1:Tree:=(.need [(.ok 0 [(.tok 1)]),(.imp (.not (.not (.call 0 0 [(.tok 1)]))) (.ok 1 [(.tok 0),(.tok 2)]))] (.br (.or (.not (.call 0 0 [(.tok 1)])) (.not (.call 1 0 [(.tok 0),(.tok 2)]))) (.leaf [(.lit (.a [(.i 0),(.i 0)])),(.lit (.r [])),(.lit (.i 1)),(.tok 0)]) (.need [(.ok 2 [(.tok 0)])] (.need [(.ok 3 [(.call 2 0 [(.tok 0)]),(.tok 1),(.app (.lit (.r [])) (.tok 2))]),(.le (.len (.tok 2)) (.lit (.i 5864062014634))),(.le (.len (.tok 2)) (.lit (.i 5864062014634)))] (.br (.or (.lt (.lit (.i 1048576)) (.len (.fld (.call 3 2 [(.call 2 0 [(.tok 0)]),(.tok 1),(.app (.lit (.r [])) (.tok 2))]) 1))) (.lt (.fld (.call 3 2 [(.call 2 0 [(.tok 0)]),(.tok 1),(.app (.lit (.r [])) (.tok 2))]) 5) (.len (.fld (.call 3 2 [(.call 2 0 [(.tok 0)]),(.tok 1),(.app (.lit (.r [])) (.tok 2))]) 0)))) (.leaf [(.lit (.a [(.i 0),(.i 0)])),(.lit (.r [])),(.lit (.i 13)),(.tok 0)]) (.leaf [(.call 3 0 [(.call 2 0 [(.tok 0)]),(.tok 1),(.app (.lit (.r [])) (.tok 2))]),(.call 3 1 [(.call 2 0 [(.tok 0)]),(.tok 1),(.app (.lit (.r [])) (.tok 2))]),(.lit (.i 0)),(.call 3 2 [(.call 2 0 [(.tok 0)]),(.tok 1),(.app (.lit (.r [])) (.tok 2))])]))))))
theorem qvy(g0 g1 g2 g3:GfZ):CdZ [(j5,g0),(jp,g1),(zt,g2),(q0m,g3)] qyr q2w Tryz.f66 qb1:=fun cd h=>by injection h with h;subst h;kernel_rfl
theorem qxd{g0 g1 g2 g3:GfZ}(h0:FOk j5 g0)(h1:FOk jp g1)(h2:FOk zt g2)(h3:FOk q0m g3)(h:HgZ qb1 q2w [(j5,g0),(jp,g1),(zt,g2),(q0m,g3)] g):FOk q2w g:=yd (qvy g0 g1 g2 g3) (.cons h0 (.cons h1 (.cons h2 (.cons h3 .nil)))) rfl rfl qpy (by decide) h
section
open Go.RowKit Go.Shelf
attribute [local go_sem] Oper.semAt_some
theorem qjw(w:World){ops:Array Oper}{rest:List Oper}{o:Oper}{a:Act}{Q:Exit→Act→World→Prop}(hgd:o.guard=none)(s x:Operand)(t t':TypeId)
  (ho:o.op=.call {callee:=.builtin .append,args:= #[s,x],argTypes:= #[t,t']})(v u:Value)(hs:a.eval s=v)(hx:a.eval x=u){v':Value}{w':World}
  (hr:(uU #[t,t'] o.type #[v,u]).run uG w=.ok v' w')(h:wpList uG ops Q rest (a.put o.dst v') w'):wpList uG ops Q (o::rest) a w:=
 wpList_plain hgd fun _ hK=>by
  unfold Oper.wp execOp
  simp only[ho,resolve,invoke,builtin,Sem.run_bind,Sem.run_pure,Result.andThen_ok,List.map_toArray,uT,kY,hs,hx,hr]
  exact hK _ _ h
theorem zhp{w:World}{k:Nat}{a b c d e f:Value}(h:w.heap[k]? =some (.cells #[a,b,c,d,e,f] T (0,0))):
  w.cell? ⟨k,0,none⟩=some a∧w.cell? ⟨k,1,none⟩=some b∧w.cell? ⟨k,2,none⟩=some c∧w.cell? ⟨k,3,none⟩=some d∧w.cell? ⟨k,4,none⟩=some e∧w.cell? ⟨k,5,none⟩=some f:=
 ⟨cell_of_row _ _ 0 _ _ _ h,cell_of_row _ _ 1 _ _ _ h,cell_of_row _ _ 2 _ _ _ h,cell_of_row _ _ 3 _ _ _ h,cell_of_row _ _ 4 _ _ _ h,cell_of_row _ _ 5 _ _ _ h⟩
set_option maxHeartbeats 4000000 in
theorem znh(w:World)(gv:Nat)(v0 v2 v3 n4 n5:Value)(TS:TypeId)(A1:Option Addr)(l c:Nat)(hl:l≤9223372036854775807)(hgv:w.heap[gv]? =some (.cells #[v0,.slice A1 l c,v2,v3,n4,n5] TS (0,0)))(nm:ByteArray)(ar n:Int)
  (hfind:Calls uG 130 #[.agg #[v0,.slice A1 l c,v2,v3,n4,n5],.string nm,.int .i64 ar] w fun e w'=>e=.returned (.int .i64 n)∧But Nil w w'){K:Value→World→Prop}
  (happ:n<0→∀w1 ty,But Nil w w1→w1.heap[w1.heap.size - 1]? =some (.cells #[.string nm,.int .i64 ar] 87 (0,0))→w.heap.size≤w1.heap.size - 1→∃A2 l2 c2 w2,(uU #[23,23] ty #[.slice A1 l c,.slice (some ⟨w1.heap.size - 1,0,none⟩) 1 1]).run uG w1=.ok (.slice A2 l2 c2) w2∧K (.slice A2 l2 c2) w2∧w2.heap[gv]? =w.heap[gv]?):
  Calls uG 122 #[.pointer (some ⟨gv,0,none⟩),.string nm,.int .i64 ar] w fun e w'=>(0≤n∧e=.returned (.int .i64 n)∧But Nil w w')∨(n<0∧e=.returned (.int .i64 l)∧∃v' w2,K v' w2∧w'=w2.setCell ⟨gv,1,none⟩ v'):=by
 obtain⟨c0,c1,c2,c3,c4,c5⟩:=zhp hgv
 go_enter Tryz.func122,Tryz.ntmps122
 go_wp2_with fail
 refine hfind.mono ?_
 rintro e w1⟨rfl,hb1⟩
 have hgv1:=(hb1.block gv (qr hgv) id).trans hgv
 obtain⟨d0,d1,d2,d3,d4,d5⟩:=zhp hgv1
 by_cases hn:n<0
 ·obtain⟨A2,l2,c2,w2,hr,hk,hg2⟩:=happ hn (w1.alloc (.cells #[.string nm,.int .i64 ar] 87)) 23 (hb1.alloc _) (by rw[hsize,kK];exact q04 rfl) (by rw[hsize,kK];exact hb1.size)
  rw[hsize,kK] at hr
  have hgv2:=hg2.trans hgv
  obtain⟨e0,e1,e2,e3,e4,e5⟩:=zhp hgv2
  have hfz:=frz hgv2 1
  go_wp2_with (at_builtin;refine qjw _ rfl _ _ _ _ rfl _ _ rfl rfl hr ?_)
  go_ret
  exact .inr ⟨hn,rfl,_,_,hk,rfl⟩
 ·go_wp2_with fail
  go_ret
  exact .inl ⟨by omega,rfl,hb1⟩
end
section
abbrev nS:TypeId:=match qb with
 |.st S=>S
 |_=>0
theorem zox:flds nS=some [.row 29,.row 87,.row 71,.row 73,.int .i64,.int .i64]:=by kernel_rfl
theorem zpf:qq 0 qb=[(0,1),(1,2),(2,3),(3,4)]:=by kernel_rfl
theorem znx:qk 87=some ye:=by kernel_rfl
theorem zv5:qk 23=some (.row 87):=by kernel_rfl
abbrev nY:TypeId:=match ye with
 |.st S=>S
 |_=>0
theorem zw3:flds nY=some [.str,.int .i64]:=by kernel_rfl
theorem wSy:ye.w=2:=by kernel_rfl
theorem ztd:LM ye=5864062014634:=by kernel_rfl
section
variable{A:Nat→Prop}{F:Flr}{p:qi}{w:World}{dep:List Nat}
theorem z27{E:Nat}{te:Ty}(hte:qk E=some te){l:List D}(h:Fl A p w dep (some pin) (.r l) (.row E) cs):∃v,cs=[v]∧q1g A p w dep pin E te l v:=by
 rcases h with⟨E',te',l',v,e,hte',e2,rfl,hv⟩|⟨K,V,kt,vt,l',g,es,clock,e,-⟩
 ·injection e with e
  subst e
  injection e2 with e2
  subst e2
  obtain rfl:=gnI (hte.symm.trans hte')
  exact⟨v,rfl,hv⟩
 ·cases e
theorem zia{n:Int}(h:Fl A p w dep none (.i n) (.int .i64) cs):cs=[.int .i64 n]∧yw .i64 n=true:=by
 obtain⟨k,e,h1,h2⟩:=h
 injection e with e
 subst e
 exact⟨h1,h2⟩
theorem ze7{s:So}{tC tU tW:Ty}(hC:qk 29=some tC)(hU:qk 71=some tU)(hW:qk 73=some tW)(h:Con A p w (eS s) qb (qq 0 qb) [] cs):
  ∃v0 v1 v2 v3,cs=[v0,v1,v2,v3,.int .i64 s.ser,.int .i64 s.mx]∧q1g A p w [] 1 29 tC (s.cs.map eC) v0∧q1g A p w [] 2 87 ye (s.ys.map eY) v1∧q1g A p w [] 3 71 tU (s.tr.map eU) v2∧q1g A p w [] 4 73 tW (s.wk.map eW) v3∧yw .i64 s.ser=true∧yw .i64 s.mx=true:=by
 rw[zpf] at h
 obtain⟨fs,ds,hf,e,t0,ts0,c0,r0,e0,q0,h0,t1,ts1,c1,r1,e1,q1,h1,t2,ts2,c2,r2,e2,q2,h2,t3,ts3,c3,r3,e3,q3,h3,t4,ts4,c4,r4,e4,q4,h4,t5,ts5,c5,r5,e5,q5,h5,hn⟩:∃fs ds,flds nS=some fs∧eS s=.a ds∧∃t0 ts0 c0 r0,fs=t0::ts0∧cs=c0++r0∧Fl A p w [] (some 1) (.r (s.cs.map eC)) t0 c0∧∃t1 ts1 c1 r1,ts0=t1::ts1∧r0=c1++r1∧Fl A p w [] (some 2) (.r (s.ys.map eY)) t1 c1∧∃t2 ts2 c2 r2,ts1=t2::ts2∧r1=c2++r2∧Fl A p w [] (some 3) (.r (s.tr.map eU)) t2 c2∧∃t3 ts3 c3 r3,ts2=t3::ts3∧r2=c3++r3∧Fl A p w [] (some 4) (.r (s.wk.map eW)) t3 c3∧∃t4 ts4 c4 r4,ts3=t4::ts4∧r3=c4++r4∧Fl A p w [] none (.i s.ser) t4 c4∧∃t5 ts5 c5 r5,ts4=t5::ts5∧r4=c5++r5∧Fl A p w [] none (.i s.mx) t5 c5∧ts5=[]∧r5=[]:=by
  obtain⟨fs,ds,hf,e,h⟩:=h
  have e':=e
  unfold eS at e'
  injection e' with e'
  subst e'
  exact⟨fs,_,hf,e,h⟩
 rw[zox] at hf
 obtain rfl:=gnI hf
 obtain⟨rfl,rfl⟩:=uA e0
 obtain⟨rfl,rfl⟩:=uA e1
 obtain⟨rfl,rfl⟩:=uA e2
 obtain⟨rfl,rfl⟩:=uA e3
 obtain⟨rfl,rfl⟩:=uA e4
 obtain⟨rfl,rfl⟩:=uA e5
 obtain⟨v0,rfl,g0⟩:=z27 hC h0
 obtain⟨v1,rfl,g1⟩:=z27 znx h1
 obtain⟨v2,rfl,g2⟩:=z27 hU h2
 obtain⟨v3,rfl,g3⟩:=z27 hW h3
 obtain⟨rfl,g4⟩:=zia h4
 obtain⟨rfl,g5⟩:=zia h5
 obtain⟨-,rfl⟩:=hn
 refine⟨v0,v1,v2,v3,?_,g0,g1,g2,g3,g4,g5⟩
 rw[q0,q1,q2,q3,q4,q5]
 rfl
theorem zrw{s:So}{tC tU tW:Ty}(hC:qk 29=some tC)(hU:qk 71=some tU)(hW:qk 73=some tW){v0 v1 v2 v3:Value}(h0:q1g A p w [] 1 29 tC (s.cs.map eC) v0)(h1:q1g A p w [] 2 87 ye (s.ys.map eY) v1)(h2:q1g A p w [] 3 71 tU (s.tr.map eU) v2)(h3:q1g A p w [] 4 73 tW (s.wk.map eW) v3)(h4:yw .i64 s.ser=true)(h5:yw .i64 s.mx=true):
  Con A p w (eS s) qb (qq 0 qb) [] [v0,v1,v2,v3,.int .i64 s.ser,.int .i64 s.mx]:=by
 rw[zpf]
 refine⟨_,_,zox,rfl,.row 29,_,[v0],[v1,v2,v3,.int .i64 s.ser,.int .i64 s.mx],rfl,rfl,.inl ⟨_,tC,_,v0,rfl,hC,rfl,rfl,h0⟩,.row 87,_,[v1],[v2,v3,.int .i64 s.ser,.int .i64 s.mx],rfl,rfl,.inl ⟨_,_,_,v1,rfl,znx,rfl,rfl,h1⟩,.row 71,_,[v2],[v3,.int .i64 s.ser,.int .i64 s.mx],rfl,rfl,.inl ⟨_,tU,_,v2,rfl,hU,rfl,rfl,h2⟩,.row 73,_,[v3],[.int .i64 s.ser,.int .i64 s.mx],rfl,rfl,.inl ⟨_,tW,_,v3,rfl,hW,rfl,rfl,h3⟩,.int .i64,_,[.int .i64 s.ser],[.int .i64 s.mx],rfl,rfl,⟨.i64,rfl,rfl,h4⟩,.int .i64,[],[.int .i64 s.mx],[],rfl,rfl,⟨.i64,rfl,rfl,h5⟩,rfl,rfl⟩
end
theorem qwb:FOk q5v zfl:=qx3 fun ds outs hw hg=>by
 obtain⟨d,r,rfl,hd,e,r',rfl,he,f,r2,rfl,hf',rfl⟩:=hw
 obtain⟨s,rfl,hs⟩:=wfS hd
 obtain⟨nm,rfl,hn⟩:=he.str
 obtain⟨ar,rfl,ha⟩:=wfI hf'
 simp only[zfl,qy,q1z,yh,uI] at hg
 subst hg
 have hl:=hs.ys.1
 rw[q9s,j3]
 refine⟨fun st=>∃k:Nat,k≤s.ys.length∧st=[.i 0,.i k]∧fnd nm ar k (s.ys.drop k)=q6e s nm ar,fun st=>s.ys.length - (st.getD 1 .u).int.toNat,⟨0,uW _,rfl,rfl⟩,?_⟩
 rintro st - ⟨k,hk,rfl,hf⟩
 simp only[gnZ]
 refine⟨fun hlt=>?_,fun hlt=>?_⟩
 ·have hkn:k<s.ys.length:=by omega
  rw[z7n hkn] at hf
  simp only[q3k eY hkn,zek,zaw,zi2,qim]
  generalize s.ys.getD k default=z at hf
  refine⟨⟨by omega,by omega,by simp,by simp;omega⟩,fun he=>?_,fun he=>⟨⟨by omega,by omega⟩,?_⟩⟩
  ·have he':z.name=nm∧z.ar=ar:=by simpa using he
   rw[if_pos he'] at hf
   rw[←hf]
  ·have he':¬(z.name=nm∧z.ar=ar):=by simpa using he
   rw[if_neg he'] at hf
   rw[q2r,if_pos rfl]
   refine⟨⟨k+1,hkn,by simp,hf⟩,?_⟩
   simp[D.int]
   omega
 ·have:k=s.ys.length:=by omega
  subst this
  rw[kN] at hf
  rw[←hf]
  rfl
def qt2:List D→Option (List D)
 |[s,nm,ar]=>if(dS s).ys.length<5864062014634 then some [.i (jq (dS s) nm.str ar.int).1,eS (jq (dS s) nm.str ar.int).2] else none
 |_=>none
theorem z85(A:Nat→Prop)(F:Flr)(p:qi)(w:World)(vs us:List Value)(ds outs:List D)(hg:qt2 ds=some outs)(hfl0:qgn z9 F ds)(hfo:Flo F w w)(hpre:Pre z9.ar.length A F p w)(hvl:vs.length=z9.ar.length)(hargs:j6 (vs++us) A p w z9.all (vs++us) ds):
  Calls uG z9.f vs.toArray w fun e w'=>∃rs p',e=.returned (qi5 rs)∧Bs A F w (pinned p) p' w'∧qav A p' w' z9.rs z9.ar.length rs (outs.take z9.rs.length)∧q45 A p p' w' z9.all (outs.drop z9.rs.length)∧Kpt z9.kp p p' w w':=by
 have h0:∀te,F.mx te=0:=fun te=>hfl0.zero rfl te
 have hF:∀{w1 w2:World},Flo F w1 w2:=fun{w1 w2}=>Flo.of0 h0 hfo
 obtain⟨hwf,-,-⟩:=hargs.wf
 rw[all_map] at hwf
 obtain⟨d,r,rfl,hd,e,r',rfl,he,f,r2,rfl,hf',rfl⟩:=hwf
 obtain⟨s,rfl,hs⟩:=wfS hd
 obtain⟨nm,rfl,hn⟩:=he.str
 obtain⟨ar,rfl,ha⟩:=wfI hf'
 simp only[qt2,qy,q1z,yh,uB,uI] at hg
 obtain⟨hlen,rfl⟩:=hg
 obtain⟨x0,r0,d0,ds0,e0,e00,⟨gv,cs,TS,hp0,rfl,hgv,hty,hcon⟩,x1,r1,d1,ds1,e1,e11,⟨cs1,hpk1,hc1⟩,x2,r2,d2,ds2,e2',e22,⟨cs2,hpk2,hc2⟩,hr⟩:=hargs
 obtain rfl:r2=[]:=hr.1
 subst e1 e2'
 obtain⟨rfl,rfl⟩:=uA e00
 obtain⟨rfl,rfl⟩:=uA e11
 obtain⟨rfl,-⟩:=uA e22
 clear e00 e11 e22 hr
 obtain⟨rfl,rfl⟩:vs=[.pointer (some ⟨gv,0,none⟩),x1,x2]∧us=[]:=by
  have hl3:vs.length=3:=hvl
  have hus:us.length=0:=by
   have:=congrArg uN e0
   simp at this
   omega
  obtain rfl:=kW.1 hus
  exact⟨by simpa using e0,rfl⟩
 clear e0
 obtain⟨-,rfl,hnm⟩:D.str (.s nm)=nm∧cs1=[.string nm]∧nm.size≤LIM:=⟨rfl,hc1.2.1,hc1.2.2⟩
 obtain rfl:Value.string nm=x1:=(uA hpk1).1
 obtain⟨k2,ek2,rfl,hra⟩:=hc2
 injection ek2 with ek2
 subst ek2
 obtain rfl:Value.int .i64 ar=x2:=(uA hpk2).1
 obtain⟨tC,hC⟩:∃t,qk 29=some t:=⟨qm,by kernel_rfl⟩
 obtain⟨tU,hU⟩:∃t,qk 71=some t:=⟨q2n,by kernel_rfl⟩
 obtain⟨tW,hW⟩:∃t,qk 73=some t:=⟨yq,by kernel_rfl⟩
 have hcon:Con A p w (eS s) qb (qq 0 qb) [] cs.toList:=hcon
 obtain⟨v0,v1,v2,v3,hcs,o0,o1,o2,o3,i4,i5⟩:=ze7 hC hU hW hcon
 have hp0:p 0=some gv:=hp0
 obtain rfl:cs= #[v0,v1,v2,v3,.int .i64 s.ser,.int .i64 s.mx]:=by
  apply Array.ext'
  exact hcs
 obtain⟨A1,l1,c1,rfl,hl1⟩:∃A1 l1 c1,v1=.slice A1 l1 c1∧l1=s.ys.length:=by
  rcases o1 with⟨rfl,h⟩|⟨g,cap,cur,rfl,-⟩
  ·exact⟨_,_,_,rfl,by have:=congrArg uN h;simp at this;simp[this]⟩
  ·exact⟨_,_,_,rfl,by simp⟩
 have hflat:zz 8 ye=true:=by kernel_rfl
 have hy:∀(W:World)(F:Nat→Prop),Rd W F (eY ⟨nm,ar⟩) ye [.string nm,.int .i64 ar]:=fun W F=>⟨nY,_,rfl,zw3,.str,_,[.string nm],[.int .i64 ar],rfl,rfl,⟨rfl,rfl,hnm⟩,.int .i64,[],[.int .i64 ar],[],rfl,rfl,⟨.i64,rfl,rfl,hra⟩,rfl,rfl⟩
 have hrd:Rd w (FFD A (fun _=>none) []) (eS s) qb [v0,.slice A1 l1 c1,v2,v3,.int .i64 s.ser,.int .i64 s.mx]:=
  Rd.mono (fun b _ hb=>by
   rcases hb with⟨h,-⟩|⟨x,-,h⟩
   ·exact .inl ⟨h,fun x hx=>by cases hx⟩
   ·exact .inl ⟨hpre.pa x b h,fun x hx=>by cases hx⟩) (hcon.rd (dep':=(qq 0 qb).map (·.2)) (fun _ h=>by cases h) (fun _ h=>h))
 have hfind:Calls uG 130 #[.agg #[v0,.slice A1 l1 c1,v2,v3,.int .i64 s.ser,.int .i64 s.mx],.string nm,.int .i64 ar] w fun e w'=>e=.returned (.int .i64 (q6e s nm ar))∧But Nil w w':=by
  refine(qwb.call A F (fun _=>none) w [.agg #[v0,.slice A1 l1 c1,v2,v3,.int .i64 s.ser,.int .i64 s.mx],.string nm,.int .i64 ar] [] [eS s,.s nm,.i ar] _ rfl (qgn.of0 h0) hfo ⟨by simp,by simp,by simp,by simp,hpre.new,by simp⟩ rfl
   ⟨_,_,_,_,rfl,rfl,⟨_,rfl,hrd⟩,_,_,_,_,rfl,rfl,⟨[.string nm],rfl,rfl,rfl,hnm⟩,_,_,_,_,rfl,rfl,⟨[.int .i64 ar],rfl,.i64,rfl,rfl,hra⟩,rfl,rfl⟩).mono ?_
  rintro e w'(⟨T,hT,-⟩|⟨rs,p',rfl,hb,⟨v,r,d,ds',rfl,hd',⟨cs',hpk,hcn⟩,hr0⟩,-⟩)
  ·cases hT
  ·obtain rfl:r=[]:=hr0
   obtain⟨rfl,-⟩:=uA hd'
   obtain⟨k,ek,rfl,-⟩:=hcn
   injection ek with ek
   subst ek
   obtain rfl:Value.int .i64 (q6e (dS (eS s)) (D.s nm).str (D.i ar).int)=v:=(uA hpk).1
   exact⟨by rw[qy];rfl,hb.but.mono fun i⟨x,hx⟩_=>by cases hx⟩
 have hst1:∀{w1:World},But Nil w w1→Stab A no no p w p w1:=fun{w1}hb1=>⟨hb1.size,fun b hlt _ hf=>⟨hb1.block b hlt id,hf⟩,fun _ _ _ h=>h,fun x b _ hx=>hb1.block b (hpre.bd x b hx) id⟩
 have hbs1:∀{w1:World},But Nil w w1→Bs A F w (pinned p) p w1:=fun{w1}hb1=>⟨hpre.inj,fun x b hx=>uL (hpre.bd x b hx) hb1.size,hb1.of_nil,fun x b hx=>.inl ⟨x,hx⟩,hpre.new,hpre.pa,fun x b hx=>(hpre.obj x b hx).same (hb1.block b (hpre.bd x b hx) id),hF⟩
 refine(znh w gv v0 v2 v3 (.int .i64 s.ser) (.int .i64 s.mx) TS A1 l1 c1 (by omega) hgv nm ar (q6e s nm ar) hfind (K:=fun v' w2=>∃w1 p',But Nil w w1∧AppOut A F w (pinned p) p w1 (some 2) 2 87 ye (s.ys.map eY).length [.string nm,.int .i64 ar] [eY ⟨nm,ar⟩].length v' p' w2) fun hneg w1 ty hb1 hcell hge=>?_).mono ?_
 ·have o1':=o1.kept (hst1 hb1) (fun x hx=>by cases hx) ⟨rfl,rfl⟩
  obtain⟨v',p',w2,hr,hap⟩:=z42 (T:=23) zv5 znx (pin:=some 2) (P':=2) (hbs1 hb1) (fun _ _=>rfl) (fun x _=>by rw[h0];exact uW _) (n:=(s.ys.map eY).length) (m:=[eY ⟨nm,ar⟩].length) (cb:=1) (va:=.slice A1 l1 c1) (by
    rcases o1' with⟨h1,h2⟩|⟨g,cap,cur,h1,h2,h3,h4,h5,h6,h7,-⟩
    ·exact .inl ⟨h1,by rw[h2];rfl⟩
    ·exact .inr ⟨2,g,cap,cur,rfl,h1,h2,h3,h4,h5,h6⟩) (Ab:=some ⟨w1.heap.size - 1,0,none⟩) (news:=[.string nm,.int .i64 ar]) (by rw[wSy];rfl) (fun ad h j u hj=>by
    injection h with h
    subst h
    rw[Addr.add_lit,kC,cell_of_row w1 _ j _ _ (0,0) hcell]
    simpa using hj) (fun h=>by cases h) (fun c hc=>by simp at hc;rcases hc with rfl|rfl<;>rfl) (by rw[ztd,uE];simp;omega) ty
  obtain⟨A2,l2,c2,rfl⟩:∃A2 l2 c2,v'=.slice A2 l2 c2:=by
   rcases hap.res with⟨rfl,-⟩|⟨g',cap',cur',rfl,-⟩<;>exact⟨_,_,_,rfl⟩
  exact⟨A2,l2,c2,w2,hr,⟨w1,p',hb1,hap⟩,(hap.stab.con 0 gv rfl hp0).trans (hb1.block gv (qr hgv) id)⟩
 ·rintro e w'(⟨h0,rfl,hb⟩|⟨h0,rfl,v',w2,⟨w1,p',hb1,hap⟩,rfl⟩)
  ·have hN:jq s nm ar=(q6e s nm ar,s):=by unfold jq;rw[if_pos h0]
   rw[hN]
   have hrn:yw .i64 (q6e s nm ar)=true:=by
    rcases zcd (nm:=nm) (ar:=ar) 0 s.ys with h|⟨h1,h2⟩
    ·exact absurd (show 0≤fnd nm ar 0 s.ys from h0) (by omega)
    ·show yw .i64 (fnd nm ar 0 s.ys)=true
     simp[yw]
     omega
   refine⟨[.int .i64 (q6e s nm ar)],p,rfl,hbs1 hb,⟨_,_,_,_,rfl,rfl,⟨[.int .i64 (q6e s nm ar)],rfl,.i64,rfl,rfl,hrn⟩,rfl⟩,⟨_,_,rfl,⟨gv,_,TS,hp0,hp0,(hb.block gv (qr hgv) id).trans hgv,hty,hcon.kept (hst1 hb) (fun x hx=>by cases hx) fun _ _=>⟨rfl,rfl⟩⟩,rfl⟩,fun q hq b hb'=>⟨hb',hb.block b (hpre.bd q b hb') id⟩⟩
  ·have hN:jq s nm ar=(((s.ys.length:Nat):Int),({s with ys:=s.ys++[⟨nm,ar⟩]}:So)):=by unfold jq;rw[if_neg (by omega)]
   rw[hN]
   have hg2:w2.heap[gv]? =some (.cells #[v0,.slice A1 l1 c1,v2,v3,.int .i64 s.ser,.int .i64 s.mx] TS (0,0)):=((hap.stab.con 0 gv rfl hp0).trans (hb1.block gv (qr hgv) id)).trans hgv
   have hp0':p' 0=some gv:=hap.stab.loc 0 gv rfl hp0
   have hg3:(w2.setCell ⟨gv,1,none⟩ v').heap[gv]? =some (.cells #[v0,v',v2,v3,.int .i64 s.ser,.int .i64 s.mx] TS (0,0)):=by
    have:=qk0 (i:=1) hg2 v'
    simpa using this
   have hne:∀{k:Nat},k≠gv→(w2.setCell ⟨gv,1,none⟩ v').heap[k]? =w2.heap[k]? :=fun{k}hk=>Below.heap_setCell _ _ _ _ hk
   have hsz:(w2.setCell ⟨gv,1,none⟩ v').heap.size=w2.heap.size:=by simp[World.setCell]
   have hst:Stab A (fun x=>kD x 0||kD x 2) (fun x=>kD x 2) p w p' (w2.setCell ⟨gv,1,none⟩ v'):=by
    refine⟨by rw[hsz];exact vB hb1.size hap.stab.size,fun b hlt ha' hf=>?_,fun x b hl hx=>hap.stab.loc x b (by show(kD x 2||kD x 2)=false;rw[show kD x 2=false from hl];rfl) hx,fun x b hz hx=>?_⟩
    ·obtain⟨q1,q2⟩:=hap.stab.free b (uL hlt hb1.size) ha' hf
     exact⟨((hne (fun e:b=gv=>hf 0 (by rw[e];exact hp0))).trans q1).trans (hb1.block b hlt id),q2⟩
    ·simp only[kH] at hz
     have hb0:b≠gv:=fun e=>by
      subst e
      have:=hpre.inj x 0 b hx hp0
      subst this
      simp at hz
     exact((hne hb0).trans (hap.stab.con x b (by show(kD x 2||kD x 2)=false;rw[hz.2];rfl) hx)).trans (hb1.block b (hpre.bd x b hx) id)
   have hst2:Stab A (fun x=>kD x 0) no p' w2 p' (w2.setCell ⟨gv,1,none⟩ v'):=by
    refine⟨by rw[hsz];exact uJ _,fun b hlt ha' hf=>⟨hne (fun e:b=gv=>hf 0 (by rw[e];exact hp0')),hf⟩,fun x b _ hx=>hx,fun x b hz hx=>hne fun e=>?_⟩
    subst e
    have:=hap.bs.inj x 0 b hx hp0'
    subst this
    simp at hz
   have hown:=AppOut.own (c:=cxA [] z9 A F p [] [] []) znx (la:=s.ys.map eY) (lb:=[eY ⟨nm,ar⟩]) hap (dep:=[]) (by rw[ztd,uE];simp;omega) (by rw[wSy];rfl) (fun j hj=>by
     have hj0:j=0:=by simpa using hj
     subst hj0
     rw[wSy]
     exact hy _ _) (fun x g hx hg j hj=>by
     injection hx with hx
     subst hx
     rcases o1.kept (hst1 hb1) (fun x hx=>by cases hx) ⟨rfl,rfl⟩ with⟨-,h⟩|⟨g',cap,cur,-,h2,-,-,-,-,-,h5⟩
     ·rw[h] at hj
      cases hj
     ·obtain rfl:=gnI (hg.symm.trans h2)
      obtain⟨vs,q1,q2⟩:=h5 j hj
      exact⟨vs,q1,Rd.flat 8 _ hflat q2⟩)
   have hown':=hown.kept hst2 (fun x hx=>by cases hx) ⟨rfl,rfl⟩
   have hbs:Bs A F w (pinned p) p' (w2.setCell ⟨gv,1,none⟩ v'):=⟨hap.bs.inj,fun x b hx=>by rw[hsz];exact hap.bs.bd x b hx,hap.bs.but.setCell (.inl ⟨0,hp0⟩) _,hap.bs.pin,hap.bs.new,hap.bs.pa,fun x b hx=>by
    by_cases e:b=gv
    ·subst e
     exact .inl ⟨_,_,hg3⟩
    ·exact(hap.bs.obj x b hx).same (hne e),hF⟩
   refine⟨[.int .i64 l1],p',rfl,hbs,⟨_,_,_,_,rfl,rfl,⟨[.int .i64 l1],rfl,.i64,rfl,by rw[hl1],by simp[yw];omega⟩,rfl⟩,⟨_,_,rfl,⟨gv,_,TS,hp0,hp0',hg3,hty,?_⟩,rfl⟩,fun q hq b hb'=>?_⟩
   ·refine zrw (s:={s with ys:=s.ys++[⟨nm,ar⟩]}) hC hU hW (o0.kept hst (fun x hx=>by cases hx) ⟨rfl,rfl⟩) ?_ (o2.kept hst (fun x hx=>by cases hx) ⟨rfl,rfl⟩) (o3.kept hst (fun x hx=>by cases hx) ⟨rfl,rfl⟩) i4 i5
    show q1g _ _ _ _ _ _ _ ((s.ys++[(⟨nm,ar⟩:Sy)]).map eY) _
    rw[vM]
    exact hown'
   ·obtain rfl:q=1:=by simpa[z9] using hq
    exact⟨hst.loc 1 b rfl hb',hst.con 1 b rfl hb'⟩
theorem qpf:FOk z9 qt2:=
 ⟨qiw,fun A F p w vs us ds outs hg hfl hfo hpre hvl hargs=>(z85 A F p w vs us ds outs hg hfl hfo hpre hvl hargs).mono fun e w'⟨rs,p',h1,h2,h3,h4,_⟩=>.inr ⟨rs,p',h1,h2,h3,h4⟩,
  fun _ A F p w vs us ds outs hg hfl hfo hpre hvl hargs=>(z85 A F p w vs us ds outs hg hfl hfo hpre hvl hargs).mono fun e w' h=>.inr h⟩
end
def qhw(v:Int):Nat→List Vc→Int
 |_,[]=> -1
 |k,x::l=>if x.v=v then(k:Int) else qhw v (k+1) l
theorem zeq{v:Int}{l:List Vc}{k:Nat}(h:k<l.length):qhw v k (l.drop k)=if(l.getD k default).v=v then(k:Int) else qhw v (k+1) (l.drop (k+1)):=by
 rw[qhd h]
 rfl
theorem zg8{v:Int}:∀(k:Nat)(l:List Vc),qhw v k l= -1∨((k:Int)≤qhw v k l∧qhw v k l<k+l.length)
 |k,[]=>.inl rfl
 | k, y :: l => by
  unfold qhw
  split
  ·exact .inr ⟨Int.le_refl _,by simp;omega⟩
  ·rcases zg8 (v:=v) (k+1) l with h|⟨h1,h2⟩
   ·exact .inl h
   ·exact .inr ⟨by omega,by simp;omega⟩
theorem qsa{v:Int}:∀(k:Nat)(l:List Vc),(qhw v k l= -1∧ofV l v=none)∨∃j:Nat,j<l.length∧qhw v k l=((k+j:Nat):Int)∧ofV l v=some (l.getD j default).c
 |k,[]=>.inl ⟨rfl,rfl⟩
 | k, y :: l => by
  unfold qhw ofV
  split
  ·exact .inr ⟨0,by simp,by simp,rfl⟩
  ·rcases qsa (v:=v) (k+1) l with h|⟨j,h1,h2,h3⟩
   ·exact .inl h
   ·exact .inr ⟨j+1,by simpa using h1,by rw[h2];omega,by rw[h3];rfl⟩
def zh7:List D→Option (List D)
 |[l,v]=>some [.i (qhw v.int 0 (dVs l))]
 |_=>none
theorem z7x:FOk q3j zh7:=z3a fun ds outs hw hg=>by
 obtain⟨d,r,rfl,hd,e,r',rfl,he,rfl⟩:=hw
 obtain⟨l,rfl,hl,hok⟩:=qxh hd
 obtain⟨v,rfl,hv⟩:=wfI he
 simp only[zh7,q0a,yh,uI] at hg
 subst hg
 rw[qcn,j3]
 refine⟨fun st=>∃k:Nat,k≤l.length∧st=[.i 0,.i k]∧qhw v k (l.drop k)=qhw v 0 l,fun st=>l.length - (st.getD 1 .u).int.toNat,⟨0,uW _,rfl,rfl⟩,?_⟩
 rintro st - ⟨k,hk,rfl,hf⟩
 simp only[gnZ,gnT]
 refine⟨fun hlt=>?_,fun hlt=>?_⟩
 ·have hkn:k<l.length:=by omega
  rw[zeq hkn] at hf
  simp only[q3k eV hkn,z5x,qim]
  generalize l.getD k default=z at hf
  refine⟨⟨by omega,by omega⟩,fun he=>?_,fun he=>⟨⟨by omega,by omega⟩,?_⟩⟩
  ·rw[if_pos (by simpa using he)] at hf
   rw[←hf]
  ·rw[if_neg (by simpa using he)] at hf
   rw[q2r,if_pos rfl]
   refine⟨⟨k+1,hkn,by simp,hf⟩,?_⟩
   simp[D.int]
   omega
 ·have:k=l.length:=by omega
  subst this
  rw[kN] at hf
  rw[←hf]
  rfl
def z46:List D→Option (List D)
 |[l,v,c]=>if(dVs l).length<5864062014634 then some [.r ((qa7 (dVs l) v.int (dC c)).map eV)] else none
 |_=>none
theorem qzk:FOk q28 z46:=qvc fun ds outs hw hg=>by
 obtain⟨d,r,rfl,hd,e,r',rfl,he,f,r2,rfl,hf,rfl⟩:=hw
 obtain⟨l,rfl,hl,hok⟩:=qxh hd
 obtain⟨v,rfl,hv⟩:=wfI he
 obtain⟨c,rfl,hc⟩:=wfC hf
 simp only[z46,q0a,yh,yt,uB,uI] at hg
 obtain⟨hll,rfl⟩:=hg
 rw[q9u,j3]
 refine⟨fun st=>∃k:Nat,k≤loV l v∧st=[.r ((l.take k).map eV),.i k],fun st=>l.length - (st.getD 1 .u).int.toNat,⟨0,uW _,rfl⟩,?_⟩
 rintro st - ⟨k,hk,rfl⟩
 have hlo:=z23 v l
 have hkl:k≤l.length:=by omega
 have htl:((l.take k).map eV).length=k:=by rw[uE,uQ];omega
 by_cases hkn:k<l.length
 ·have e0:decide ((k:Int)<(l.length:Int))=true:=by simp;omega
  have e1:decide (0≤(k:Int))=true:=by simp
  by_cases hv':(l.getD k default).v<v
  ·have hk2:k<loV l v:=by
    rcases uP k (loV l v) with h|h
    ·exact h
    ·have:k=loV l v:=by omega
     have h2:=qt6 (v:=v) (l:=l) (by omega)
     rw[←this] at h2
     omega
   have htk:(l.take k).map eV++[eV (l.getD k default)]=(l.take (k+1)).map eV:=by rw[qah hkn,vM];rfl
   simp only[gnZ,gnT,q3k eV hkn,z5x,e0,e1,htl,hv',kJ,uV,vV,vU,forall_const]
   refine⟨⟨by omega,⟨by omega,by omega⟩,?_⟩,fun h=>(by cases h)⟩
   rw[q2r,if_pos rfl,htk]
   refine⟨⟨k+1,hk2,by simp⟩,?_⟩
   simp[D.int]
   omega
  ·have hk2:k=loV l v:=by
    rcases uP k (loV l v) with h|h
    ·exact absurd (zar h) hv'
    ·omega
   simp only[gnZ,gnT,q3k eV hkn,z5x,e0,e1,htl,hv',kJ,uV,vV,vS,forall_const]
   refine⟨fun h=>(by cases h),⟨by omega,⟨by omega,?_⟩,?_⟩⟩
   ·simp
    omega
   ·rw[ql7,←hk2]
    simp[eV,kV,vT,kB]
 ·have hk1:k=l.length:=by omega
  have hk2:k=loV l v:=by omega
  have e0:decide ((k:Int)<(l.length:Int))=false:=by simp;omega
  simp only[gnZ,gnT,e0,htl,vQ,vY,vR,forall_const]
  refine⟨fun h=>(by cases h),by omega,⟨by omega,by omega,?_⟩,?_⟩
  ·simp
   omega
  ·rw[ql7,←hk2]
   simp[eV,kV,vT,kB]
theorem zqq{a:Te}(h:z7 a=true)(h0:a.k=0):0≤a.n∧a.n≤1099511627776:=by
 obtain⟨k,n,nm,l⟩:=a
 have h0:k=0:=h0
 subst h0
 rcases q1o ((q6n _).1 h).1 with⟨-,-,h1,h2⟩|⟨h1,-⟩|⟨h1,-⟩|⟨h1,-⟩
 ·exact⟨h1,h2⟩
 all_goals cases h1
def z1d(s:So)(all:List Vc)(t:Te):Bool:=z7 t&&(decide (SV all)&&(decide (s.cs.length+q5o t all≤9000000)&&decide ((q57 s.ys t).length≤9000000)))
def z1f:List D→Option (List D)
 |[s,t,all]=>if z1d (dS s) (dVs all) (dT t) then some [eC (z6 (dS s,dVs all) (dT t) (-1)).1,.r ((z6 (dS s,dVs all) (dT t) (-1)).2.2.map eV),eS (z6 (dS s,dVs all) (dT t) (-1)).2.1] else none
 |_=>none
theorem zjs(h:¬(t.k=0∧ofV q.2 t.n=none))(a b:Int):z6 q t a=z6 q t b:=by
 obtain⟨k,n,nm,l⟩:=t
 by_cases h0:k=0
 ·subst h0
  rw[q9d,q9d]
  cases ho:ofV q.2 n with
  |none=>exact absurd ⟨rfl,ho⟩ h
  |some c=>rfl
 ·unfold z6
  simp only[if_neg h0]
theorem zfq(h:t.k=0∧ofV q.2 t.n=none)(ha:0≤a):z6 q t a=(⟨0,a⟩,q.1,qa7 q.2 t.n ⟨0,a⟩):=by
 obtain⟨k,n,nm,l⟩:=t
 obtain⟨h0,ho⟩:=h
 have h0:k=0:=h0
 subst h0
 rw[q9d,show ofV q.2 n=none from ho]
 show(if a<0 then _ else _)=_
 rw[if_neg (by omega)]
 rfl
theorem zqv(s:So)(c:Ce):D.a ((eS s).fs.set 0 (.r (s.cs.map eC++[eC c])))=eS {s with cs:=s.cs++[c]}:=qs0 s [c]
def zli(ds:List D):Nat:=szT (dT (ds.getD 1 .u))
theorem z51:FOk q0m z1f:=qc2 (m:=zli) qea fun N ih=>qyk qpf z7x qch qzk ih fun ds outs hw hg=>by
 obtain⟨q,r3,rfl,hq,d,r,rfl,hd,f,r2,rfl,hf,rfl⟩:=hw
 obtain⟨t,rfl,ht⟩:=wfT hd
 obtain⟨all,rfl,hal,hok⟩:=qxh hf
 obtain⟨s,rfl,hs⟩:=wfS hq
 simp only[q69,zli,z1f,uX,uY,ju,qy,q0a,uB,uI] at hg
 obtain⟨hsz,hA,rfl⟩:=hg
 simp only[z1d,gnB,gnD] at hA
 obtain⟨hnd,hsv,hcs,hys⟩:=hA
 have hnl:=(q6n t).1 hnd
 obtain⟨k,n,nm,l⟩:=t
 have hlen:=SV.len hsv
 rcases q1o hnl.1 with⟨rfl,rfl,h1,h2⟩|⟨rfl,rfl⟩|⟨rfl,rfl,h1⟩|⟨rfl,h1,h2,h3⟩
 ·rw[q9d]
  rcases qsa (v:=n) 0 all with⟨e1,e2⟩|⟨j,hj,e1,e2⟩
  ·have hn:q5o (.mk 0 n nm []) all=1:=by rw[q5o,qn1 (by decide),if_pos ⟨rfl,e2⟩]
   rw[hn] at hcs
   simp only[q2q,gnZ,gnT,Te.k,Te.n,Te.s,Te.l,q3t,zh7,z46,q0a,e1,e2,yt]
   have hall:all.length<5864062014634:=by omega
   simp[hall]
   exact⟨by omega,zqv s _⟩
  ·rw[kC] at e1
   simp only[q2q,gnZ,gnT,Te.k,Te.n,Te.s,Te.l,q3t,zh7,q5m,q0a,e1,e2,q3k eV hj,ze1,yt]
   simp
   omega
 ·rw[qe0]
  simp[q2q,gnZ,gnT,Te.k,Te.n,Te.s,Te.l,q3t]
 ·rw[z8r] at hys
  have hyl:s.ys.length≤(qcj s.ys ⟨nm,0⟩).length:=qub _ _
  have hS:qt2 [eS s,.s nm,.i 0]=some [.i (jq s nm 0).1,eS (jq s nm 0).2]:=by simp only[qt2,qy,q1z,yh];rw[if_pos (by omega)]
  rw[qdw]
  simp[q2q,gnZ,gnT,Te.k,Te.n,Te.s,Te.l,q3t,hS]
 ·rw[zaj] at hys
  have hys0:(qcj s.ys ⟨nm,(l.length:Nat)⟩).length≤9000000:=vB (q8k l _) hys
  have hyl:s.ys.length≤(qcj s.ys ⟨nm,(l.length:Nat)⟩).length:=qub _ _
  obtain⟨y1,y2,y3,y4,y5,y6⟩:=qgs s nm (l.length:Nat)
  have hS:qt2 [eS s,.s nm,.i (l.length:Nat)]=some [.i (jq s nm (l.length:Nat)).1,eS (jq s nm (l.length:Nat)).2]:=by simp only[qt2,qy,q1z,yh];rw[if_pos (by omega)]
  rw[qsw (by decide),zht] at hcs
  rw[qe4]
  rw[←y3] at hys
  have hcl:s.cs.length=(jq s nm (l.length:Nat)).2.cs.length:=by rw[y1]
  rw[←y1]
  generalize jq s nm (l.length:Nat)=S at hS hys hcl y1 y2⊢
  have hz:uO l.length (eC ⟨0,0⟩)=(uO l.length (⟨0,0⟩:Ce)).map eC:=by rw[List.map_replicate]
  have hz0:D.a [.i 0,.i 0]=eC ⟨0,0⟩:=rfl
  have hz1:∀n:Int,D.a [.i 0,.i n]=eC ⟨0,n⟩:=fun n=>rfl
  have hz4:∀n:Int,D.a [.i 4,.i n]=eC ⟨4,n⟩:=fun n=>rfl
  simp only[q2q,gnZ,gnT,Te.k,Te.n,Te.s,Te.l,q3t,hS,zqv,qs0,hz,uC]
  refine⟨fun h=>absurd h (by decide),fun _=>⟨fun h=>absurd h (by decide),fun _=>⟨fun h=>absurd h (by decide),fun _=>?_⟩⟩⟩
  refine⟨⟨by omega,by rw[y1]⟩,⟨by omega,by omega,by simp;omega⟩,?_⟩
  rw[j3]
  refine⟨fun st=>∃(k:Nat)(al:List Vc)(s':So),k≤l.length∧st=[.r (al.map eV),.i k,eS s']∧SV al∧s'.cs.length+q2l (l.drop k)≤9000000∧S.2.cs.length+1+l.length≤s'.cs.length∧(q0t s'.ys (l.drop k)).length≤9000000∧je (s',al) (l.drop k) (S.2.cs.length+1+k)=je ({S.2 with cs:=S.2.cs++(⟨4,S.1⟩::uO l.length ⟨0,0⟩)},all) l (S.2.cs.length+1),fun st=>l.length - (st.getD 1 .u).int.toNat,⟨0,all,{S.2 with cs:=S.2.cs++(⟨4,S.1⟩::uO l.length ⟨0,0⟩)},uW _,?_,hsv,?_,?_,hys,rfl⟩,?_⟩
  ·simp only[X.evs,gnZ,gnT,Te.k,Te.n,Te.s,Te.l,hS,zqv,qs0,hz,uC]
   simp[eS,D.fs,D.fld,D.rs,eC]
  ·simp
   omega
  ·simp
   omega
  rintro st - ⟨k,al,s',hk,rfl,hsv',hc',hb',hy',hP⟩
  rw[zd]
  refine⟨fun hlt=>?_,fun hlt=>?_⟩
  ·simp only[gnZ,gnT,Te.k,Te.n,Te.s,Te.l] at hlt
   have hkl:k<l.length:=by omega
   have ha:=qfz (t:=.mk 3 n nm l) hkl
   simp only[Te.l] at ha
   have hto:((S.2.cs.length:Int)+1+(k:Int))=((S.2.cs.length+1+k:Nat):Int):=by omega
   have hdr:=qhd hkl
   rw[hdr,q2l] at hc'
   rw[hdr,q0t] at hy'
   rw[hdr,je] at hP
   have hsy:=vB (q8k (l.drop (k+1)) (q57 s'.ys (l.getD k default))) hy'
   have hnk:=hnl.2 k hkl
   simp only[Te.l] at hnk
   have hlal:=SV.len hsv'
   simp only[gnZ,gnT,q3k eT hkl,zh7,q0a,hcl,hto,q3t]
   rw[show(Te.mk 3 n nm l).l=l from rfl,q3k eT hkl]
   generalize l.getD k default=a at ha hc' hy' hP hsy hnk⊢
   obtain⟨ak,an,anm,als⟩:=a
   simp only[gnZ,gnT,Te.k,Te.n,Te.s,Te.l]
   by_cases hva:ak=0∧ofV al an=none
   ·have hq:=zfq (q:=(s',al)) (t:=.mk ak an anm als) hva (a:=((S.2.cs.length+1+k:Nat):Int)) (by omega)
    rw[hq] at hP
    have hi:qhw an 0 al= -1:=by
     rcases qsa (v:=an) 0 al with⟨e1,-⟩|⟨j,-,-,e2⟩
     ·exact e1
     ·rw[hva.2] at e2
      cases e2
    have hall:al.length<5864062014634:=by omega
    have hpr:=zqq hnk hva.1
    have h2:=(q32 (.mk ak an anm als) (s',al) ((S.2.cs.length+1+k:Nat):Int) hnk hsv').2.1
    rw[hq] at h2
    rw[←h2] at hy'
    simp only[hva.1,hi,z46,q0a,yt,yh,hall,if_true,zag]
    refine⟨⟨⟨by omega,by omega⟩,by omega,by omega⟩,⟨by omega,by omega⟩,fun _=>⟨rfl,⟨by omega,by omega⟩,⟨by omega,by omega⟩,?_⟩,fun h=>(by simp at h)⟩
    rw[q2r,if_pos rfl]
    refine⟨⟨k+1,qa7 al an ⟨0,((S.2.cs.length+1+k:Nat):Int)⟩,qck s' (S.2.cs.length+1+k) ⟨0,((S.2.cs.length+1+k:Nat):Int)⟩,by omega,by rw[uC];simp,z2e hpr.1 hpr.2 hsv' hva.2,?_,?_,hy',hP⟩,?_⟩
    ·rw[q3u]
     omega
    ·rw[q3u]
     omega
    ·simp[D.int]
     omega
   ·have hcond:(decide (ak=0)&&decide (qhw an 0 al<0))=false:=by
     by_cases h0:ak=0
     ·rcases qsa (v:=an) 0 al with⟨-,e1⟩|⟨j,-,e2,-⟩
      ·exact absurd ⟨h0,e1⟩ hva
      ·have:¬qhw an 0 al<0:=by omega
       simp[this]
     ·simp[h0]
    have hned:q5o (.mk ak an anm als) al=q8j (.mk ak an anm als):=by
     unfold q5o
     rw[if_neg (show ¬((Te.mk ak an anm als).k=0∧ofV al (Te.mk ak an anm als).n=none) from hva)]
     rfl
    have hQ:z1d s' al (.mk ak an anm als)=true:=by
     simp only[z1d,gnB,gnD,hned]
     exact⟨hnk,hsv',by omega,hsy⟩
    have hG:q69 zli N z1f [eS s',eT (.mk ak an anm als),.r (al.map eV)]=some [eC (z6 (s',al) (.mk ak an anm als) (-1)).1,.r ((z6 (s',al) (.mk ak an anm als) (-1)).2.2.map eV),eS (z6 (s',al) (.mk ak an anm als) (-1)).2.1]:=by
     simp only[q69,zli,z1f,uX,uY,ju,qy,q0a]
     rw[if_pos (by omega),if_pos hQ]
    rw[zjs (q:=(s',al)) (t:=.mk ak an anm als) hva _ (-1)] at hP
    obtain⟨g1,g2,g3,g4⟩:=q32 (.mk ak an anm als) (s',al) (-1) hnk hsv'
    rw[if_pos (by decide),hned] at g1
    simp only[hcond,hG]
    generalize z6 (s',al) (.mk ak an anm als) (-1)=R at g1 g2 g3 g4 hP⊢
    simp only at g1
    simp only[gnZ,gnT,zag,uC]
    refine⟨⟨⟨by omega,by omega⟩,by omega,by omega⟩,⟨by omega,by omega⟩,fun h=>(by cases h),fun _=>⟨⟨by omega,by omega⟩,⟨by omega,by omega⟩,?_⟩⟩
    rw[q2r,if_pos rfl]
    refine⟨⟨k+1,R.2.2,qck R.2.1 (S.2.cs.length+1+k) R.1,by omega,by simp,g4,?_,?_,?_,hP⟩,?_⟩
    ·rw[q3u,g1]
     omega
    ·rw[q3u,g1]
     omega
    ·show(q0t R.2.1.ys _).length≤_
     rw[g2]
     exact hy'
    ·simp[D.int]
     omega
  ·simp only[gnZ,gnT,Te.k,Te.n,Te.s,Te.l] at hlt
   have:k=l.length:=by omega
   subst this
   rw[kN,je] at hP
   simp only[gnZ,gnT,Te.k,Te.n,Te.s,Te.l,hcl,←hP,q3t]
def qq8(s:So)(l:List Vc)(k:Nat):Bool:=decide (0≤(l.getD k default).v)&&(decide ((l.getD k default).v≤1099511627776)&&(decide (k=0∨(l.getD (k - 1) default).v<(l.getD k default).v)&&vcR s (l.getD k default).c))
def vvR(s:So)(l:List Vc):Bool:=(List.range l.length).all (qq8 s l)
theorem zv6{s:So}(h:qw s=true)(l:List Vc):vvR s l=vvP s l:=by
 have:qq8 s l=vAt s l:=by
  funext k
  simp only[qq8,vAt,(qal h).vc]
 unfold vvR vvP
 rw[this]
theorem qis:FOk jp (gVV vvR):=qhx ji fun ds outs hw hg=>by
  obtain⟨d,r,rfl,hd,e,r',rfl,he,rfl⟩:=hw
  obtain⟨s,rfl,hs⟩:=wfS hd
  obtain⟨l,rfl,hl,hok⟩:=qxh he
  simp only[gVV,qy,q0a,uI] at hg
  subst hg
  rw[q4i,j3]
  refine⟨fun st=>∃k:Nat,k≤l.length∧st=[.b false,.i k]∧∀j,j<k→qq8 s l j=true,fun st=>l.length - (st.getD 1 .u).int.toNat,⟨0,uW _,rfl,fun j hj=>absurd hj (Nat.not_lt_zero _)⟩,?_⟩
  rintro st - ⟨k,hk,rfl,hP⟩
  rw[zd]
  refine⟨fun hlt=>?_,fun hlt=>?_⟩
  · simp only[gnZ,gnT] at hlt
    have hkl:k<l.length:=by omega
    have hvb:=(hok _ (q5p hkl)).1
    by_cases h0:k=0
    · subst h0
      have e1:decide ((0:Int)<((0:Nat):Int))=false:=by decide
      simp only[gnZ,gnT,q3k eV hkl,z5x,ze1,q65,e1,vS,vR,vQ,vY,Bool.or_false,true_and,and_self]
      refine⟨(by first|(simp;done)|(simp;omega)|(trace_state;omega)),fun hb=>?_,fun hb=>⟨⟨by omega,by omega⟩,?_⟩⟩
      · have hv:qq8 s l 0=false:=by
          simp only[qq8,true_or,decide_true,kI]
          generalize l.getD 0 default=z at hb⊢
          cases hvc:vcR s z.c
          · simp
          · simp[hvc] at hb⊢
            omega
        rw[vvR,qaa hkl hv]
      · have hv:qq8 s l 0=true:=by
          simp only[qq8,true_or,decide_true,kI]
          generalize l.getD 0 default=z at hb⊢
          cases hvc:vcR s z.c
          · simp[hvc] at hb
          · simp[hvc] at hb⊢
            omega
        rw[q2r,if_pos rfl]
        exact⟨⟨1,by omega,by simp,q2u hP hv⟩,by simp[D.int];omega⟩
    · have hk1:((k:Int) - 1)=((k - 1:Nat):Int):=by omega
      have hkp:k - 1<l.length:=by omega
      have hp:(0:Int)<k:=by omega
      have hr1:yw .i64 ((k - 1:Nat):Int)=true:=by simp[yw];omega
      have hr2:(0:Int)≤((k - 1:Nat):Int):=by omega
      have hr3:((k - 1:Nat):Int)<l.length:=by omega
      simp only[gnZ,gnT,hk1,hp,hr1,hr2,hr3,q3k eV hkl,q3k eV hkp,z5x,ze1,q65,vU,kI]
      refine⟨(by first|(simp;done)|(simp;omega)|(trace_state;omega)),fun hb=>?_,fun hb=>⟨⟨by omega,by omega⟩,?_⟩⟩
      · have hv:qq8 s l k=false:=by
          simp only[qq8,h0,false_or]
          generalize l.getD k default=z at hb⊢
          cases hvc:vcR s z.c
          · simp
          · simp[hvc] at hb⊢
            omega
        rw[vvR,qaa hkl hv]
      · have hv:qq8 s l k=true:=by
          simp only[qq8,h0,false_or]
          generalize l.getD k default=z at hb⊢
          cases hvc:vcR s z.c
          · simp[hvc] at hb
          · simp[hvc] at hb⊢
            omega
        rw[q2r,if_pos rfl]
        exact⟨⟨k+1,by omega,by simp,q2u hP hv⟩,by simp[D.int];omega⟩
  · simp only[gnZ,gnT] at hlt⊢
    have:k=l.length:=by omega
    subst this
    simp only[vvR,q8t hP]
theorem z1o:FOk q2w qsz:=qxd qvv qis q6t z51 fun ds outs hw hg=>by
 obtain⟨d,r,rfl,hd,e,r',rfl,he,f,r2,rfl,hf,rfl⟩:=hw
 obtain⟨s,rfl,hs⟩:=wfS hd
 obtain⟨t,rfl,ht⟩:=wfT he
 obtain⟨l,rfl,hl,hok⟩:=qxh hf
 simp only[qsz,qy,ju,q0a,uB,uI] at hg
 obtain⟨hv,rfl⟩:=hg
 obtain⟨h1,h2,h3,h4⟩:=qvx hv
 have hz:D.a [.i 0,.i 0]=eC ⟨0,0⟩:=rfl
 have hc:qcm [eS s]=some [eS s]:=by simp only[qcm,qy,z3r hs,if_true]
 have hR:∀(a:Bool),a=(decide ((1048576:Int)<(((z6 (s,l) t (-1)).2.1.ys.length:Nat):Int))||decide (s.mx<(((z6 (s,l) t (-1)).2.1.cs.length:Nat):Int)))→jb t=true→vvP s l=true→a= !qfd s t l:=fun a ha hvt hvl=>by
  simp only[jb,gnB,gnD] at hvt
  obtain⟨g1,g2,g3,g4⟩:=q32 t (s,l) (-1) hvt.2 (qc3.1 hvl).1
  rw[if_pos (by decide)] at g1
  simp only at g1 g2
  rw[ha,g1,g2]
  have hm:=congrArg uN (qx6 t s.ys [])
  rw[kQ,uD] at hm
  unfold qfd
  rw[←hm]
  by_cases q1:((q5o t l:Nat):Int)≤s.mx - s.cs.length<;>by_cases q2:((qdh s.ys [] t).length:Int)≤1048576 - s.ys.length
  all_goals simp[q1,q2]
  all_goals omega
 have hQ:jb t=true→vvP s l=true→z1d s l t=true:=fun hvt hvl=>by
  simp only[jb,gnB,gnD] at hvt
  simp only[z1d,gnB,gnD]
  have hm:=congrArg uN (qx6 t s.ys [])
  rw[kQ,uD] at hm
  have hv:=qk8 t s.ys []
  have hc:=qh1 t
  have hn:q5o t l≤q8j t+1:=by unfold q5o;split<;>omega
  simp at hv
  exact⟨hvt.2,(qc3.1 hvl).1,by omega,by omega⟩
 simp only[qb1,gnZ,gnT,gTb,gVV,hz,q0a,qqb,zv6 hv,hc,uC,kS]
 cases hvt:jb t
 ·simp
 cases hvl:vvP s l
 ·simp
 have hq:=hQ hvt hvl
 have hr:=hR _ rfl hvt hvl
 have hmx:(z6 (s,l) t (-1)).2.1.mx=s.mx:=by
  simp only[jb,gnB,gnD] at hvt
  exact(q32 t (s,l) (-1) hvt.2 (qc3.1 hvl).1).2.2.1.1
 have hg:z1f [eS s,eT t,.r (l.map eV)]=some [eC (z6 (s,l) t (-1)).1,.r ((z6 (s,l) t (-1)).2.2.map eV),eS (z6 (s,l) t (-1)).2.1]:=by
  simp only[z1f,qy,ju,q0a,hq,if_true]
 simp only[hg]
 generalize z6 (s,l) t (-1)=R at hr hmx
 simp only[gnZ,gnT,hmx]
 rw[hr]
 cases qfd s t l
 ·simp
  omega
 ·simp
  omega
def jm:Ct:=⟨50,[.ref (.st 26) true,.val (.row 9),.val (.row 29)],[(.st 28,false),(.int .i64,false)],[],none,[],[]⟩
theorem qke:EnZ jm:=fun _ _=>by kernel_rfl
def qqt:Ann:=⟨[0,1,2,6,7,8,9,10,11,12,13,14,16,22,42],[(4,⟨[(10,.int .i64,false)],[8],[21,22,25,26,11,27,28,29,30,31,32,33,34,12,35,36,37,38,23,24,1000008],[]⟩),
 (10,⟨[(9,.row 102,false),(13,.int .i64,false)],[],[39,40,41,42,45,46,47,48,49,50,51,52,53,43,44],[]⟩)]⟩
def q8l:Tree:=
 let a:X:=.lit (.a [(.i 0),(.i 0),(.s ⟨#[]⟩),(.r [])])
 let b:X:=.lit (.i 1)
 let c:X:=.lit (.i 0)
 let d:X:=.tok 3
 let e:X:=.tok 6
 let f:X:=.tok 5
 let g:X:=.len (.tok 1)
 let h:X:=.tok 4
 let i:X:=.set a 0 (.lit (.i 2))
 let j:X:=.set a 0 (.lit (.i 3))
 let k:X:=.lt e (.len (.tok 2))
 (.need [(.rng .i64 (.sub g b))] (.loop 4 3 [(.sub g b),(.set i 2 (.lit (.s ⟨#[91,93]⟩)))] (.br (.le c d) (.need [(.le c d),(.lt d g)] (.need [(.rng .i64 (.sub d b))] (.back 4 [(.sub d b),(.set (.set j 2 (.lit (.s ⟨#[46]⟩))) 3 (.row [(.set (.set j 2 (.lit (.s ⟨#[45]⟩))) 3 (.row [(.set i 2 (.get (.tok 1) d)),(.set (.set a 0 c) 1 d)])),h]))]))) (.loop 10 5 [(.lit (.r [])),c] (.br k (.need [(.le c e),k,(.le (.add (.len f) b) (.lit (.i 5864062014634)))] (.need [(.rng .i64 (.add e b))] (.back 10 [(.app f (.row [(.mk [e,(.get (.tok 2) e)])])),(.add e b)]))) (.need [(.ok 0 [(.tok 0),h,f])] (.leaf [(.call 0 0 [(.tok 0),h,f]),(.call 0 2 [(.tok 0),h,f]),(.call 0 3 [(.tok 0),h,f])])))))))
theorem qmc(g0:GfZ):CdZ [(q2w,g0)] qqt jm Tryz.f50 q8l:=fun cd h=>by injection h with h;subst h;kernel_rfl
theorem qqs{g0:GfZ}(h0:FOk q2w g0)(h:HgZ q8l jm [(q2w,g0)] g):FOk jm g:=yd (qmc g0) (.cons h0 .nil) rfl rfl qke (by decide) h
def zA(ns vs:D):List At:=kX At.mk (ns.rs.map D.str) (vs.rs.map dC)
def z7t:List D→Option (List D)
 |[s,ns,vs]=>if ns.rs.length=vs.rs.length∧ns.rs.length≤499∧∀a∈zA ns vs,a.name.size≤100 then(qsz [s,eT (apT (zA ns vs)),.r ((vsA (zA ns vs)).map eV)]).map fun r=>[r.getD 0 .u,r.getD 2 .u,r.getD 3 .u] else none
 |_=>none
theorem zf6(h:nm.size≤100):q54 nm=.mk 2 0 nm []:=by
 unfold q54
 split
 ·rfl
 ·omega
theorem zmp{n:Nat}(h:n≤499):vaT n=.mk 0 n ⟨#[]⟩ []:=by
 unfold vaT
 rw[if_pos ⟨by omega,by omega⟩]
theorem qg2:FOk jm z7t:=qqs z1o fun ds outs hw hg=>by
 obtain⟨d,r,rfl,hd,e,r',rfl,he,f,r2,rfl,hf,rfl⟩:=hw
 obtain⟨s,rfl,hs⟩:=wfS hd
 obtain⟨l,rfl,hl⟩:=zte he
 obtain⟨m,rfl,hm,-⟩:=zt5 hf
 have ez:zA (.r (l.map D.s)) (.r (m.map eC))=kX At.mk l m:=by
  simp only[zA,q35,qft,map_id' yt]
 simp only[z7t,q35,uE,ez,uB,kU] at hg
 obtain⟨⟨hlm,hlen,hnm⟩,r,hr,rfl⟩:=hg
 generalize hL:kX At.mk l m=L at *
 have hLl:L.length=l.length:=by rw[←hL,List.length_zipWith];omega
 have hLk:∀k,k<l.length→L.getD k default=⟨l.getD k default,m.getD k default⟩:=fun k hk=>by
  have hk2:k<m.length:=by omega
  rw[←hL]
  rw[gnG,gnG,gnG,List.getElem?_zipWith,gnK hk,gnK hk2]
  rfl
 have hiL:(qbm L).length=l.length:=by simp[qbm,hLl]
 rw[q8l,qj]
 refine⟨by simp only[gnZ,gnT];omega,?_⟩
 rw[j3]
 refine⟨fun st=>∃j:Nat,j≤l.length∧st=[.i ((j:Int) - 1),eT (liT ((qbm L).drop j) z58)],fun st=>((st.getD 0 .u).int+1).toNat,⟨l.length,uJ _,?_⟩,?_⟩
 ·rw[vA (by omega),liT,z58,qbz]
  simp only[X.evs,gnZ,gnT]
  rfl
 rintro st - ⟨j,hj,rfl⟩
 rw[zd]
 refine⟨fun hlt=>?_,fun hlt=>?_⟩
 ·simp only[gnZ,gnT] at hlt
  obtain⟨k,rfl⟩:∃k,j=k+1:=⟨j - 1,by omega⟩
  have hkl:k<l.length:=by omega
  have ek:((k+1:Nat):Int) - 1=(k:Int):=by omega
  rw[ek]
  simp only[gnZ,gnT,q3k D.s hkl]
  refine⟨⟨by omega,by omega⟩,⟨by omega,by omega⟩,?_⟩
  rw[q2r,if_pos rfl]
  refine⟨⟨k,by omega,?_⟩,by simp[D.int]⟩
  have hd:(qbm L).drop k=itA k (L.getD k default)::(qbm L).drop (k+1):=by
   rw[List.drop_eq_getElem_cons (by omega)]
   congr 1
   simp[qbm,gnG,gnK,hLl,hkl]
  have hsz:(l.getD k default).size≤100:=by
   have:=hnm (L.getD k default) (by
    rw[gnG,gnK (by omega)]
    exact kM _)
   rw[hLk k hkl] at this
   exact this
  rw[hd,hLk k hkl,liT,zfe,zf6 hsz,zmp (by omega),qbz,uT,uT,kY,qbz,uT,uT,kY,qbz,qbz]
  rfl
 ·simp only[gnZ,gnT] at hlt
  obtain rfl:j=0:=by omega
  rw[kS,j3]
  refine⟨fun st=>∃k:Nat,k≤l.length∧st=[.r (((vsA L).take k).map eV),.i k],fun st=>l.length - (st.getD 1 .u).int.toNat,⟨0,uW _,rfl⟩,?_⟩
  rintro st - ⟨k,hk,rfl⟩
  rw[zd]
  refine⟨fun hlt2=>?_,fun hlt2=>?_⟩
  ·simp only[gnZ,gnT,←hlm] at hlt2
   have hkl:k<l.length:=by omega
   simp only[gnZ,gnT,q3k eC (show k<m.length by omega),uQ,←hlm]
   refine⟨⟨by omega,by omega,by omega⟩,⟨by omega,by omega⟩,?_⟩
   rw[q2r,if_pos rfl]
   refine⟨⟨k+1,by omega,?_⟩,by simp[D.int];omega⟩
   rw[vsA,qts _ (by omega),hLk k hkl]
   simp
   rfl
  ·simp only[gnZ,gnT,←hlm] at hlt2
   obtain rfl:k=l.length:=by omega
   have e2:(vsA L).take l.length=vsA L:=kB (by simp[vsA,hLl])
   have hr':qsz [eS s,eT (liT (qbm L) z58),.r ((vsA L).map eV)]=some r:=hr
   simp only[e2,gnZ,gnT,hr']
end Go.Proofs.YtdaadonfbnedaaaGreat
