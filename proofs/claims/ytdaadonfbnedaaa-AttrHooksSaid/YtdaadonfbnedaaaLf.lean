/-
 Lemmas of the walk and plain laws, put together. No condition.
-/
import Derived.Deep.RegionLaw
import Derived.Lib.AppendZerosOnto
import Derived.RangeFuncSeq
import Derived.Shelf.Spec.SlicesInsert
import Derived.StillTailTactics
import Derived.TacticsInMore
import Derived.Test.YtdaadonfbnedaaaLe
namespace Go.Proofs.Ytdaadonfbnedaaa
open Go.RowKit
set_option linter.unusedVariables false
set_option linter.unusedSimpArgs false
set_option maxRecDepth 100000
open _root_.Go.Proofs.Try renaming prog→uA,f72→vB,ntmps85→jC,ntmps63→jD,func85→jE,func63→jF
open _root_.Array renaming getElem?_eq_some_iff→uB,replicate→uT,getElem?_append_left→kD,getElem?_setIfInBounds_self_of_lt→kM,getElem?_setIfInBounds_ne→kT,getD_eq_getD_getElem?→kX,replicate_zero→vD,replicate_succ→vE,length_toList→vI
open _root_.Option.some renaming injEq→uC
open _root_.Option renaming ite_none_right_eq_some→uD,getD_some→uK,isSome_some→uL,map_eq_some_iff→kH
open _root_.List renaming getElem?_append_left→uE,length_map→uF,getD_cons_zero→uH,getElem?_append_right→uI,getD_cons_succ→uJ,all_eq_true→uN,length_append→uO,append_assoc→uP,drop_eq_getElem_cons→uQ,take_append_drop→uX,length_drop→uY,pairwise_iff_getElem→kE,size_toArray→kF,length→kG,cons_append→kI,drop_eq_nil_of_le→kK,nil_append→kL,replicate→kN,mem_cons→kP,length_take→kU,drop_append→kV,take_left→kY,mem_of_mem_take→vF,mem_of_mem_drop→vG,mem_iff_getElem→vH,append_toArray→vJ,push_toArray→vM,getElem_take→vN,take_length→vO,not_mem_nil→vP,length_cons→vQ,length_nil→vR,mem_range→vT,drop_drop→vU,map_map→vZ
open World renaming putObj_heap_other→uG,putObj_heap_same→kJ,frozen?→vS,shape?→vV
open _root_.Nat renaming zero_le→uM,not_lt_zero→uU,zero_add→uV,le_refl→kB,le_trans→kC,min_def→kW,lt_or_eq_of_le→vL,reduceSub→vX,reduceAdd→vY,zero_mul→jA,beq→jB
open Builtin renaming copy_→uR,zeroCells→kQ,firstCells→vC
open _root_.Int renaming toNat_natCast→uW,le_refl→vK,not_lt→jG,ofNat→jH
open _root_.List.cons renaming inj→uZ
open _root_.Bool renaming not_true→kA,not_false→kO,true_and→kR,true_eq_false→kS,false_or→kZ,and_self→vA
variable{cs:List Value}{T:TypeId}
section
namespace Ins
open Go.RowKit Go.Shelf Go.Lib
attribute [local go_sem] Oper.semAt_some
abbrev E3:=Int×Int×Int
def fl3(x:E3):List Value:=[.int .i64 x.1,.int .i64 x.2.1,.int .i64 x.2.2]
def fls(l:List E3):List Value:=l.flatMap fl3
theorem qbr(l:List E3):(fls l).length=l.length * 3:=by
 induction l with
 |nil=>rfl
 |cons x l ih=>simp[fls,fl3] at *;omega
theorem qrc(l m:List E3):fls (l++m)=fls l++fls m:=List.flatMap_append
theorem qrb{l:List E3}:∀v∈fls l,v.oneCell'=true:=fun v hv=>by
 obtain⟨x,-,hx⟩:=List.mem_flatMap.1 hv;simp only[fl3,kP,vP,or_false] at hx;rcases hx with rfl|rfl|rfl<;>rfl
theorem qku(x:E3)(l:List E3):fls (x::l)=fl3 x++fls l:=rfl
theorem z1v:uA.underlying 94=some (.slice 98):=by kernel_rfl
theorem zmz:uA.underlying 3=some (.int .i64):=by kernel_rfl
theorem zbq:(uA.info? 98).map (fun i=>(i.size,i.bytes))=some (3,24):=by kernel_rfl
theorem zr6:(uA.info? 98).map (fun i=>i.zero)=some (some (.agg #[.int .i64 0,.int .i64 0,.int .i64 0])):=by kernel_rfl
theorem zlr(w:World):(Go.sizeOf 98).run uA w=.ok 3 w:=by kernel_rfl
theorem qh7(w:World)(ty:TypeId)(g o dLen dCap:Nat)(a:Addr)(sLen sCap:Nat)(cur:Array Value)(t:TypeId)(cs:List Value)
  (hg:w.heap[g]? =some (.cells cur t (0,0))){n:Nat}(hn:n=Nat.min sLen dLen)(hl:cs.length=n * 3)
  (hsrc:∀j v,cs[j]? =some v→w.cell? (a.add j)=some v)(hfit:o+cs.length≤cur.size)(h1:∀v∈cs,v.oneCell'=true):
  (uR #[94,94] ty #[.slice (some ⟨g,o,none⟩) dLen dCap,.slice (some a) sLen sCap]).run uA w=
   .ok (goInt n) (w.setRow g (cur.toList.take o++cs++cur.toList.drop (o+cs.length)).toArray):=by
 have hld:=run_loadCells_list (P:=uA) w a cs hsrc;have hst:=run_storeCells_at uA g o t cs 0 cur w hg (by simpa using hfit) h1;obtain⟨i,hi,e⟩:=kH.1 zbq;simp only[Prod.mk.injEq] at e;rw[hl] at hld;simp[uR,run_underlying z1v,Builtin.lenOf,vC,sizeOf,typeInfo,hi,e.1,←hn,hld,hst]
theorem qd0{w:World}{b k:Nat}(h:w.heap[b]? =some (.cells cs.toArray T (0,0))){v:Value}(hv:cs[k]? =some v):w.cell? ⟨b,k,none⟩=some v:=by
 rw[cell_of_row w b k _ T (0,0) h];simpa using hv
theorem zh5(w:World)(b cap vb vc i n:Nat)(L0:List E3)(x:E3)(post vpost:List Value)(E Ev:TypeId)(hL:L0.length=n)(hi:i<n)(hcap:n+1≤cap)(hc63:cap≤9223372036854775807)(hne:vb≠b)(hp3:3≤post.length)
  (hb:w.heap[b]? =some (.cells (fls L0++post).toArray E (0,0)))(hv:w.heap[vb]? =some (.cells (fl3 x++vpost).toArray Ev (0,0))):
  Calls uA 85 #[.slice (some ⟨b,0,none⟩) n cap,.int .i64 i,.slice (some ⟨vb,0,none⟩) 1 vc] w fun e w'=>
   e=.returned (.slice (some ⟨b,0,none⟩) (n+1) cap)∧But (fun k=>k=b) w w'∧w'.heap[b]? =some (.cells (fls (L0.take i++x::L0.drop i)++post.drop 3).toArray E (0,0)):=by
 have hlL:=qbr L0;have hlt:=qbr (L0.take i);have hld:=qbr (L0.drop i);have hsplit:fls L0=fls (L0.take i)++fls (L0.drop i):=by rw[←qrc,uX]
 have htl:(L0.take i).length=i:=by rw[kU];omega
 have hdl:(L0.drop i).length=n - i:=by rw[uY,hL]
 have hov:∀lb cb,(callFunc 96 #[.slice (some ⟨vb,0,none⟩) 1 vc,.slice (some ⟨b,(i+1) * 3,none⟩) lb cb]).run uA w=.ok (.value (.bool false)) w:=fun lb cb=>by
  rw[run_callFunc_extern Try.func96 (by kernel_rfl) (by kernel_rfl) (by kernel_rfl) (e:=Extern.SlicesOverlaps.overlaps #[94,94] #[4]) (by kernel_rfl),
   Lib.run_overlaps_apart w 94 4 98 z1v 3 zlr ⟨vb,0,none⟩ ⟨b,(i+1) * 3,none⟩ 1 vc lb cb hne Ev E (fl3 x++vpost).toArray.size (fls L0++post).toArray.size (by simp[vV,hv]) (by simp[vV,hb]) (by rw[kF,uO];omega) (by simp[vS,hv]) (by simp[vS,hv])]
  rfl
 have hcp1:∀ty dc sc,(uR #[94,94] ty #[.slice (some ⟨b,(i+1) * 3,none⟩) (n - i) dc,.slice (some ⟨b,i * 3,none⟩) (n+1 - i) sc]).run uA w.drew=.ok (goInt (n - i:Nat)) (w.drew.setRow b ((fls L0++post).toArray.toList.take ((i+1) * 3)++fls (L0.drop i)++(fls L0++post).toArray.toList.drop ((i+1) * 3+(fls (L0.drop i)).length)).toArray):=fun ty dc sc=>
  qh7 w.drew ty b ((i+1) * 3) (n - i) dc ⟨b,i * 3,none⟩ (n+1 - i) sc (fls L0++post).toArray E (fls (L0.drop i)) hb (by simp only[kW];split<;>omega) (by rw[hld,hdl])
   (fun j v hj=>by
    rw[Addr.add_lit];refine qd0 (w:=w.drew) (T:=E) hb ?_;rw[hsplit,uP,uI (by omega),show i * 3+j - (fls (L0.take i)).length=j by omega];exact uE (by have:=(gnH.1 hj).1;omega)▸hj)
   (by simp;omega) qrb
 obtain⟨J,hJ,hcur⟩:∃J:List Value,J.length=3∧((fls L0++post).toArray.toList.take ((i+1) * 3)++fls (L0.drop i)++(fls L0++post).toArray.toList.drop ((i+1) * 3+(fls (L0.drop i)).length))=fls (L0.take i)++(J++(fls (L0.drop i)++post.drop 3)):=by
  refine⟨(fls (L0.drop i)).take 3,by rw[kU];omega,?_⟩;have e1:(fls L0++post).take ((i+1) * 3)=fls (L0.take i)++(fls (L0.drop i)).take 3:=by
   rw[hsplit,uP,List.take_append,List.take_of_length_le (by omega),show(i+1) * 3 - (fls (L0.take i)).length=3 by omega,List.take_append_of_le_length (by omega)]
  have e2:(fls L0++post).drop ((i+1) * 3+(fls (L0.drop i)).length)=post.drop 3:=by
   rw[kV,kK (by omega),kL]
   congr 1
   omega
  show(fls L0++post).take _++_++(fls L0++post).drop _=_
  rw[e1,e2];simp
 rw[hcur] at hcp1;have hb1:(w.drew.setRow b (fls (L0.take i)++(J++(fls (L0.drop i)++post.drop 3))).toArray).heap[b]? =some (.cells (fls (L0.take i)++(J++(fls (L0.drop i)++post.drop 3))).toArray E (0,0)):=setRow_heap w.drew b _ _ E _ hb;have hv1:(w.drew.setRow b (fls (L0.take i)++(J++(fls (L0.drop i)++post.drop 3))).toArray).heap[vb]? =some (.cells (fl3 x++vpost).toArray Ev (0,0)):=by
  rw[setRow_other w.drew b vb _ hne];exact hv
 obtain⟨W1,hW1⟩:∃W1,W1=w.drew.setRow b (fls (L0.take i)++(J++(fls (L0.drop i)++post.drop 3))).toArray:=⟨_,rfl⟩;rw[←hW1] at hcp1 hb1 hv1
 have hcp2:∀(W:World),W.heap=W1.heap→∀ty dc,(uR #[94,94] ty #[.slice (some ⟨b,i * 3,none⟩) (n+1 - i) dc,.slice (some ⟨vb,0,none⟩) 1 vc]).run uA W=.ok (goInt (1:Nat)) (W.setRow b ((fls (L0.take i)++(J++(fls (L0.drop i)++post.drop 3))).toArray.toList.take (i * 3)++fl3 x++(fls (L0.take i)++(J++(fls (L0.drop i)++post.drop 3))).toArray.toList.drop (i * 3+(fl3 x).length)).toArray):=fun W hW ty dc=>
  qh7 W ty b (i * 3) (n+1 - i) dc ⟨vb,0,none⟩ 1 vc _ E (fl3 x) (hW▸hb1) (by simp only[kW];split<;>omega) rfl
   (fun j v hj=>by
    rw[Addr.add_lit,uV];refine qd0 (w:=W) (T:=Ev) (hW▸hv1) ?_;exact uE (by have:=(gnH.1 hj).1;omega)▸hj)
   (by simp[fl3];omega) (fun v hv=>qrb (l:=[x]) v (by simpa[fls] using hv))
 have hcur2:((fls (L0.take i)++(J++(fls (L0.drop i)++post.drop 3))).toArray.toList.take (i * 3)++fl3 x++(fls (L0.take i)++(J++(fls (L0.drop i)++post.drop 3))).toArray.toList.drop (i * 3+(fl3 x).length))=fls (L0.take i++x::L0.drop i)++post.drop 3:=by
  show(fls (L0.take i)++(J++(fls (L0.drop i)++post.drop 3))).take _++_++(fls (L0.take i)++(J++(fls (L0.drop i)++post.drop 3))).drop _=_
  rw[show i * 3=(fls (L0.take i)).length by omega,kY,show(fls (L0.take i)).length+(fl3 x).length=(fls (L0.take i)++J).length by rw[uO,hJ];rfl,←uP (fls (L0.take i)) J,List.drop_left,qrc,qku];simp
 rw[hcur2] at hcp2;have hw1:IntKind.i64.wrap ((i:Int)+1)=(i:Int)+1:=by rw[IntKind.wrap_i64];omega
 have hz2:¬((i:Int)=(n:Int)):=by omega
 have h0i:(0:Int)≤(i:Int)+1:=by omega
 have hin:i≤n:=by omega
 have htn:((i:Int)+1).toNat=i+1:=by omega
 have hb2:¬(cap=i+1):=by omega
 have hb3:(i:Int)≤(n:Int)+1:=by omega
 have hb4:¬(cap=i):=by omega
 go_enter jE,jC
 go_wp2_with (simp only[hov])
 go_region_law (refine step_copy_runI rfl _ _ 94 94 rfl _ _ (by simp[Act.eval,Act.put]) (by simp[Act.eval,Act.put]) (hcp1 _ _ _) ?_)
 go_wp2_with (at_builtin;refine wpList_copy_runI _ rfl _ _ 94 94 rfl _ _ rfl rfl (hcp2 _ rfl _ _) ?_)
 go_ret
 exact⟨rfl,q7s (S:=fun k=>k=b) (q7s (S:=fun k=>k=b) (But.refl _ w).drew (.inl rfl) _) (.inl rfl) _,setRow_heap _ _ _ _ _ _ (by rw[←hW1];exact hb1)⟩
theorem zjt(a c:List Value)(k:Nat):(a++c).drop (a.length+k)=c.drop k:=by rw[kV,kK (Nat.le_add_right _ _),Nat.add_sub_cancel_left,kL]
theorem zki(w:World)(b vb vc i n:Nat)(L0:List E3)(x:E3)(post vpost:List Value)(E Ev:TypeId)(hL:L0.length=n)(hi:i<n)(hbig:(n+1) * 24≤140737488355328)(hne:vb≠b)
  (hb:w.heap[b]? =some (.cells (fls L0++post).toArray E (0,0)))(hv:w.heap[vb]? =some (.cells (fl3 x++vpost).toArray Ev (0,0))):
  Calls uA 85 #[.slice (some ⟨b,0,none⟩) n n,.int .i64 i,.slice (some ⟨vb,0,none⟩) 1 vc] w fun e w'=>
   ∃(G:Nat)(rest:List Value),e=.returned (.slice (some ⟨w.heap.size,0,none⟩) (n+1) G)∧But Nil w w'∧n+1≤G∧G≤maxLen∧rest.length=(G - (n+1)) * 3∧w'.heap[w.heap.size]? =some (.cells (fls (L0.take i++x::L0.drop i)++rest).toArray 98 (0,0)):=by
 have hlL:=qbr L0;have hlt:=qbr (L0.take i);have hld:=qbr (L0.drop i);have hsplit:fls L0=fls (L0.take i)++fls (L0.drop i):=by rw[←qrc,uX]
 have htl:(L0.take i).length=i:=by rw[kU];omega
 have hdl:(L0.drop i).length=n - i:=by rw[uY,hL]
 have hbw:=qt hb;have hvw:=qt hv;obtain⟨i0,hi0,e0⟩:=kH.1 zbq;obtain⟨i1,hi1,ez⟩:=kH.1 zr6;obtain rfl:=gnI (hi0.symm.trans hi1);simp only[Prod.mk.injEq] at e0;have hold:(vC i0.size i (.slice (some ⟨b,0,none⟩) i n)).run uA w.drew=.ok (fls (L0.take i)).toArray w.drew:=by
  rw[e0.1];exact run_firstCells_some w.drew 3 i ⟨b,0,none⟩ i n (fls (L0.take i)) (by omega) (fun j v hj=>by
   rw[Addr.add_lit,uV];refine qd0 (w:=w.drew) (T:=E) hb ?_;rw[hsplit,uP];exact uE (by have:=(gnH.1 hj).1;omega)▸hj)
 obtain⟨G,hG⟩:∃G,G=grownCap w (n+1) n 98:=⟨_,rfl⟩;have hGn:n+1≤G:=by rw[hG];exact grownCap_ge w _ _ _
 have hGm:G≤maxLen:=by rw[hG];exact grownCap_le_maxLen w _ _ _ (by unfold maxLen;omega)
 have hik:i+(n+1 - i)=n+1:=by omega
 have hkk:(n:Int)+1 - (i:Int)=((n+1 - i:Nat):Int):=by omega
 obtain⟨Z,hZ,hrz⟩:∃Z:List Value,Z.length=(n+1 - i) * 3+(G - (n+1)) * 3∧∀ty,(Builtin.append_ #[94,3] ty #[.slice (some ⟨b,0,none⟩) i n,.int .i64 ((n:Int)+1 - (i:Int))]).run uA w=
   .ok (.slice (some ⟨w.heap.size,0,none⟩) (n+1) G) (w.drew.alloc (.cells (fls (L0.take i)++Z).toArray 98)):=by
  refine⟨(kQ (Value.agg #[.int .i64 0,.int .i64 0,.int .i64 0]).cells (n+1 - i)).toList++(kQ (Value.agg #[.int .i64 0,.int .i64 0,.int .i64 0]).cells (G - (n+1))).toList,by simp[kQ,Value.cells],fun ty=>?_⟩;have h:=Lib.run_append_grow_zeros w 94 3 ty 98 i0 _ .i64 .i64 z1v zmz hi0 ez (some ⟨b,0,none⟩) i n (fls (L0.take i)) hold (n+1 - i) (by omega) (by omega) (by omega) (by omega) (by rw[e0.2];omega) (by rw[e0.2,hik];exact growslice_fits (by omega) hbig);rw[hik,←hG] at h;rw[hkk,h]
  congr 3
  simp
 have hb1:(w.drew.alloc (.cells (fls (L0.take i)++Z).toArray 98)).heap[b]? =some (.cells (fls L0++post).toArray E (0,0)):=q2t (w:=w.drew) hb;have hv1:(w.drew.alloc (.cells (fls (L0.take i)++Z).toArray 98)).heap[vb]? =some (.cells (fl3 x++vpost).toArray Ev (0,0)):=q2t (w:=w.drew) hv;have hn1:(w.drew.alloc (.cells (fls (L0.take i)++Z).toArray 98)).heap[w.heap.size]? =some (.cells (fls (L0.take i)++Z).toArray 98 (0,0)):=q0h (w:=w.drew) rfl;obtain⟨W1,hW1⟩:∃W1,W1=w.drew.alloc (.cells (fls (L0.take i)++Z).toArray 98):=⟨_,rfl⟩
 have hcpA:∀(W:World),W.heap=W1.heap→∀ty dc,(uR #[94,94] ty #[.slice (some ⟨w.heap.size,i * 3,none⟩) (n+1 - i) dc,.slice (some ⟨vb,0,none⟩) 1 vc]).run uA W=.ok (goInt (1:Nat)) (W.setRow w.heap.size ((fls (L0.take i)++Z).toArray.toList.take (i * 3)++fl3 x++(fls (L0.take i)++Z).toArray.toList.drop (i * 3+(fl3 x).length)).toArray):=fun W hW ty dc=>
  qh7 W ty w.heap.size (i * 3) (n+1 - i) dc ⟨vb,0,none⟩ 1 vc _ 98 (fl3 x) (by rw[hW,hW1];exact hn1) (by simp only[kW];split<;>omega) rfl
   (fun j v hj=>by
    rw[Addr.add_lit,uV];refine qd0 (w:=W) (T:=Ev) (by rw[hW,hW1];exact hv1) ?_;exact uE (by have:=(gnH.1 hj).1;omega)▸hj)
   (by simp[fl3];omega) (fun v hv=>qrb (l:=[x]) v (by simpa[fls] using hv))
 have hcurA:((fls (L0.take i)++Z).toArray.toList.take (i * 3)++fl3 x++(fls (L0.take i)++Z).toArray.toList.drop (i * 3+(fl3 x).length))=fls (L0.take i)++(fl3 x++Z.drop 3):=by
  show(fls (L0.take i)++Z).take _++_++(fls (L0.take i)++Z).drop _=_
  rw[show i * 3=(fls (L0.take i)).length by omega,kY,kV,kK (by omega),show(fls (L0.take i)).length+(fl3 x).length - (fls (L0.take i)).length=3 by simp[fl3]];simp
 rw[hcurA] at hcpA;obtain⟨W2,hW2⟩:∃W2,W2=W1.setRow w.heap.size (fls (L0.take i)++(fl3 x++Z.drop 3)).toArray:=⟨_,rfl⟩;have hn2:W2.heap[w.heap.size]? =some (.cells (fls (L0.take i)++(fl3 x++Z.drop 3)).toArray 98 (0,0)):=by rw[hW2];exact setRow_heap W1 _ _ _ _ _ (by rw[hW1];exact hn1)
 have hb2:W2.heap[b]? =some (.cells (fls L0++post).toArray E (0,0)):=by rw[hW2,setRow_other W1 _ b _ (by omega),hW1];exact hb1
 have hcpB:∀(W:World),W.heap=W2.heap→∀ty dc sc,(uR #[94,94] ty #[.slice (some ⟨w.heap.size,(i+1) * 3,none⟩) (n - i) dc,.slice (some ⟨b,i * 3,none⟩) (n - i) sc]).run uA W=.ok (goInt (n - i:Nat)) (W.setRow w.heap.size ((fls (L0.take i)++(fl3 x++Z.drop 3)).toArray.toList.take ((i+1) * 3)++fls (L0.drop i)++(fls (L0.take i)++(fl3 x++Z.drop 3)).toArray.toList.drop ((i+1) * 3+(fls (L0.drop i)).length)).toArray):=fun W hW ty dc sc=>
  qh7 W ty w.heap.size ((i+1) * 3) (n - i) dc ⟨b,i * 3,none⟩ (n - i) sc _ 98 (fls (L0.drop i)) (by rw[hW];exact hn2) (by simp only[kW];split<;>omega) (by rw[hld,hdl])
   (fun j v hj=>by
    rw[Addr.add_lit];refine qd0 (w:=W) (T:=E) (by rw[hW];exact hb2) ?_;rw[hsplit,uP,uI (by omega),show i * 3+j - (fls (L0.take i)).length=j by omega];exact uE (by have:=(gnH.1 hj).1;omega)▸hj)
   (by simp[fl3];omega) qrb
 have hcurB:((fls (L0.take i)++(fl3 x++Z.drop 3)).toArray.toList.take ((i+1) * 3)++fls (L0.drop i)++(fls (L0.take i)++(fl3 x++Z.drop 3)).toArray.toList.drop ((i+1) * 3+(fls (L0.drop i)).length))=fls (L0.take i++x::L0.drop i)++(Z.drop 3).drop ((n - i) * 3):=by
  show(fls (L0.take i)++(fl3 x++Z.drop 3)).take _++_++(fls (L0.take i)++(fl3 x++Z.drop 3)).drop _=_
  have e3:(fls (L0.take i)++fl3 x).length=(i+1) * 3:=by rw[uO];simp[fl3];omega
  rw[←uP,←e3,kY,zjt,hld,hdl,qrc,qku];simp
 rw[hcurB] at hcpB;have hrest:((Z.drop 3).drop ((n - i) * 3)).length=(G - (n+1)) * 3:=by simp;omega
 generalize (Z.drop 3).drop ((n - i) * 3)=rest at *;have hw1:IntKind.i64.wrap ((i:Int)+1)=(i:Int)+1:=by rw[IntKind.wrap_i64];omega
 have hz2:¬((i:Int)=(n:Int)):=by omega
 have h0i:(0:Int)≤(i:Int)+1:=by omega
 have hin:i≤n:=by omega
 have htn:((i:Int)+1).toNat=i+1:=by omega
 have hgi:¬(G=i):=by omega
 have hgi1:¬(G=i+1):=by omega
 have hni:¬(n=i):=by omega
 have hlt1:(n:Int)<(n:Int)+1:=by omega
 have hii:(i:Int)≤(n:Int):=by omega
 clear hcurA hcurB hkk hik hold hG
 go_enter jE,jC
 go_wp2_with (first
  |(at_builtin;refine Lib.wpList_append_run _ rfl _ _ _ _ rfl _ _ rfl rfl _ _ (hrz _) ?_)
  |(at_builtin;refine wpList_copy_runI _ rfl _ _ 94 94 rfl _ _ rfl rfl (hcpA _ (by rw[hW1]) _ _) ?_))
 have hcpC:∀ty dc sc,(uR #[94,94] ty #[.slice (some ⟨w.heap.size,(i+1) * 3,none⟩) (n - i) dc,.slice (some ⟨b,i * 3,none⟩) (n - i) sc]).run uA ((w.alloc (.cells (fls (L0.take i)++Z).toArray 98)).drew.setRow w.heap.size (fls (L0.take i)++(fl3 x++Z.drop 3)).toArray).drew=_:=fun ty dc sc=>hcpB _ (by subst hW2 hW1;rfl) ty dc sc
 go_region_law (refine step_copy_runI rfl _ _ 94 94 rfl (.slice (some ⟨w.heap.size,(i+1) * 3,none⟩) (n - i) (G - (i+1))) (.slice (some ⟨b,i * 3,none⟩) (n - i) (n - i)) (by simp[Act.eval,Act.put]) (by simp[Act.eval,Act.put]) (hcpC _ _ _) ?_)
 go_wp2_with fail
 go_ret
 exact⟨G,rest,rfl,q7s (S:=Nil) (q7s (S:=Nil) ((But.refl Nil w).alloc _).drew (.inr (kB _)) _).drew (.inr (kB _)) _,hGn,hGm,hrest,setRow_heap _ _ _ _ _ _ (by subst hW2 hW1;exact hn2)⟩
end Ins
end
variable{A F:Nat→Prop}{d:D}{ts:List Ty}{cur:Array Value}{p:qj}{dep:List Nat}{pin:Nat}
section
namespace Ins
def zvu(T:TypeId):TypeId:=match qm T with
 |some (.st S)=>S
 |_=>0
abbrev uS:TypeId:=zvu 98
abbrev cS:TypeId:=zvu 33
theorem tyU:qm 98=some (.st uS):=by kernel_rfl
theorem flU:flds uS=some [.int .i64,.st cS]:=by kernel_rfl
theorem flC:flds cS=some [.int .i64,.int .i64]:=by kernel_rfl
theorem wU:(Ty.st uS).w=3:=by kernel_rfl
theorem lmU:LM (.st uS)=5864062014634:=by kernel_rfl
def dE(x:E3):D:=.a [.i x.1,.a [.i x.2.1,.i x.2.2]]
def z8a(x:E3):Prop:=ji .i64 x.1=true∧ji .i64 x.2.1=true∧ji .i64 x.2.2=true
theorem zv5{x:E3}(h:z8a x)(w:World)(F:Nat→Prop):Rd w F (dE x) (.st uS) (fl3 x):=
 ⟨_,_,rfl,flU,.int .i64,[.st cS],[.int .i64 x.1],[.int .i64 x.2.1,.int .i64 x.2.2],rfl,rfl,⟨.i64,rfl,rfl,h.1⟩,.st cS,[],[.int .i64 x.2.1,.int .i64 x.2.2],[],rfl,rfl,
  ⟨_,_,rfl,flC,.int .i64,[.int .i64],[.int .i64 x.2.1],[.int .i64 x.2.2],rfl,rfl,⟨.i64,rfl,rfl,h.2.1⟩,.int .i64,[],[.int .i64 x.2.2],[],rfl,rfl,⟨.i64,rfl,rfl,h.2.2⟩,rfl,rfl⟩,rfl,rfl⟩
theorem of_rdI{w:World}(h:Rd w F d (.int .i64) cs):∃n,ji .i64 n=true∧d=.i n∧cs=[.int .i64 n]:=by
 cases d<;>simp only[Rd,reduceCtorEq,false_and,exists_false,and_false] at h;obtain⟨k,e,h1,h2⟩:=h;injection e with e;subst e;exact⟨_,h2,rfl,h1⟩
theorem of_rdS{w:World}{S:TypeId}{fs:List Ty}(hfs:flds S=some fs)(h:Rd w F d (.st S) cs):∃l,d=.a l∧RdF w F l fs cs:=by
 cases d<;>simp only[Rd,reduceCtorEq,false_and,exists_false,and_false] at h;obtain⟨T,fs',e,h1,h2⟩:=h;injection e with e;subst e;obtain rfl:=gnI (h1.symm.trans hfs);exact⟨_,rfl,h2⟩
theorem of_rdF{w:World}{l:List D}{t:Ty}(h:RdF w F l (t::ts) cs):∃d l' c1 c2,l=d::l'∧cs=c1++c2∧Rd w F d t c1∧RdF w F l' ts c2:=by
 cases l with
 |nil=>obtain⟨e,-⟩:=h;cases e
 |cons d l=>
  obtain⟨t',ts',c1,c2,e,e2,h1,h2⟩:=h;injection e with e e';subst e e';exact⟨d,l,c1,c2,rfl,e2,h1,h2⟩
theorem of_rdN{w:World}{l:List D}(h:RdF w F l [] cs):l=[]∧cs=[]:=by
 cases l with
 |nil=>exact⟨rfl,h.2⟩
 |cons d l=>obtain⟨t',ts',c1,c2,e,-⟩:=h;cases e
theorem zsm{w:World}(h:Rd w F d (.st uS) cs):∃x,z8a x∧d=dE x∧cs=fl3 x:=by
 obtain⟨l,rfl,hF⟩:=of_rdS flU h;obtain⟨d1,l1,c1,c2,rfl,rfl,h1,hG⟩:=of_rdF hF;obtain⟨d2,l2,c3,c4,rfl,rfl,h2,hH⟩:=of_rdF hG;obtain⟨rfl,rfl⟩:=of_rdN hH;obtain⟨n1,r1,rfl,rfl⟩:=of_rdI h1;obtain⟨l,rfl,hI⟩:=of_rdS flC h2;obtain⟨d3,l3,c5,c6,rfl,rfl,h3,hJ⟩:=of_rdF hI;obtain⟨d4,l4,c7,c8,rfl,rfl,h4,hK⟩:=of_rdF hJ;obtain⟨rfl,rfl⟩:=of_rdN hK;obtain⟨n2,r2,rfl,rfl⟩:=of_rdI h3;obtain⟨n3,r3,rfl,rfl⟩:=of_rdI h4;exact⟨(n1,n2,n3),⟨r1,r2,r3⟩,rfl,rfl⟩
theorem range_drop3{w:World}{b q:Nat}(hc:w.heap[b]? =some (.cells cur T (0,0))){x y z:Value}(h:w.rangeAt b q [x,y,z]):cur.toList.drop q=x::y::z::cur.toList.drop (q+3):=by
 have get:∀j v,([x,y,z]:List Value)[j]? =some v→cur.toList[q+j]? =some v:=fun j v hj=>by
  have:=h j v hj;rw[cell_of_row w b _ cur T (0,0) hc,←Array.getElem?_toList] at this;exact this
 have g0:=get 0 x rfl;have g1:=get 1 y rfl;have g2:=get 2 z rfl;obtain⟨h0,e0⟩:=gnH.1 g0;obtain⟨h1,e1⟩:=gnH.1 g1;obtain⟨h2,e2⟩:=gnH.1 g2;rw[uQ (by omega:q<cur.toList.length),uQ h1,uQ (by omega:q+1+1<cur.toList.length)];simp only[Nat.add_zero] at e0;rw[e0,e1]
 congr 3
theorem z54{w:World}{b o:Nat}(hc:w.heap[b]? =some (.cells cur T (0,0))):∀{rs:List D}{i:Nat},RdE w F rs (.st uS) (some ⟨b,o,none⟩) i→∃L:List E3,rs=L.map dE∧(∀x∈L,z8a x)∧cur.toList.drop (o+i * 3)=fls L++cur.toList.drop (o+(i+rs.length) * 3)
 |[],i,_=>⟨[],rfl,fun x hx=>(by cases hx),by simp[fls]⟩
 |d::rs,i,⟨⟨b',o',cs,e,hF,hr,hd⟩,h⟩=>by
  injection e with e;injection e with e1 e2;subst e1 e2;obtain⟨x,hx,rfl,rfl⟩:=zsm hd;obtain⟨L,rfl,hL,hdr⟩:=z54 hc h;rw[wU] at hr;refine⟨x::L,rfl,fun y hy=>(kP.1 hy).elim (fun e=>e▸hx) (hL y),?_⟩;have:=range_drop3 hc hr;rw[this,show o+i * 3+3=o+(i+1) * 3 by omega,hdr,show i+1+(L.map dE).length=i+(dE x::L.map dE).length by simp;omega];rfl
theorem z48{w:World}{l:List D}{v:Value}(h:q32 A p w dep pin 98 (.st uS) l v)(h0:0<l.length):
  ∃g cap L post,v=.slice (some ⟨g,0,none⟩) l.length cap∧p pin=some g∧l=L.map dE∧(∀x∈L,z8a x)∧w.heap[g]? =some (.cells (fls L++post).toArray 98 (0,0))∧l.length≤cap∧cap≤maxLen∧post.length=(cap - l.length) * 3:=by
 rcases h with⟨-,rfl⟩|⟨g,cap,cur,rfl,hg,hh,h1,h2,h3,h4,h5⟩
 ·simp at h0
 ·obtain⟨L,hL,hok,hdr⟩:=z54 (F:=FFD A p (pin::dep)) (o:=0) hh (rs:=l) (i:=0) (q1r.2 fun j hj=>by
   obtain⟨cs,hr,hx⟩:=h5 j hj;exact⟨g,0,cs,rfl,.inr ⟨pin,by simp,hg⟩,by simpa using hr,hx.mono fun b _ hb=>hb.mono fun x hx=>List.mem_cons_of_mem _ hx⟩)
  have hl:=qbr L;have hll:l.length=L.length:=by rw[hL,uF]
  simp only[jA,uV,List.drop_zero] at hdr;rw[wU] at h3;have hcl:=congrArg kG hdr;rw[uO,uY,vI] at hcl;refine⟨g,cap,L,cur.toList.drop (l.length * 3),rfl,hg,hL,hok,?_,h1,h2,?_⟩
  ·rw[←hdr];exact hh
  ·rw[uY,vI];omega
theorem za1:∀{l:List E3}{i:Nat}(h:i<l.length){j:Nat}{v:Value},(fl3 l[i])[j]? =some v→(fls l)[i * 3+j]? =some v
 |x::l,0,_,j,v,hj=>by
  rw[jA,uV,qku];exact uE (by have:=(gnH.1 hj).1;exact this)▸hj
 |x::l,i+1,h,j,v,hj=>by
  have:=za1 (l:=l) (i:=i) (by simpa using h) (j:=j) (v:=v) (by simpa using hj);rw[qku,show(i+1) * 3+j=i * 3+j+3 by omega];exact this
theorem zr4{w:World}{g cap:Nat}{M:List E3}{post:List Value}(hp:p pin=some g)(hM:∀x∈M,z8a x)(hh:w.heap[g]? =some (.cells (fls M++post).toArray 98 (0,0)))(h1:M.length≤cap)(h2:cap≤maxLen)(h3:post.length=(cap - M.length) * 3)(h4:M.length≤5864062014634):
  q32 A p w [] pin 98 (.st uS) (M.map dE) (.slice (some ⟨g,0,none⟩) M.length cap):=by
 have hl:=qbr M;refine .inr ⟨g,cap,_,by rw[uF],hp,hh,by rw[uF];exact h1,h2,by rw[kF,uO,wU];omega,by rw[uF,lmU];exact h4,fun i hi=>?_⟩;have hi':i<M.length:=by simpa using hi
 refine⟨fl3 M[i],fun j v hj=>?_,by simpa using zv5 (hM _ (List.getElem_mem hi')) _ _⟩;rw[wU];have:=za1 hi' hj;exact qd0 hh (uE (by have:=(gnH.1 this).1;exact this)▸this)
end Ins
open Ins
def zqr:List D→Option (List D)
 |[r,i,v]=>if v.rs.length=1∧0≤i.int∧i.int≤r.rs.length∧r.rs.length+1≤5864062014634 then some [.r (r.rs.take i.int.toNat++v.rs++r.rs.drop i.int.toNat)] else none
 |_=>none
theorem zgw{w:World}(h:Con A p w d (.row 98) [(0,pin)] [] cs):∃l v,d=.r l∧cs=[v]∧q32 A p w [] pin 98 (.st uS) l v:=by
 rcases h with⟨E,te,l,v,e,hte,rfl,rfl,h⟩|⟨K,V,kt,vt,l,g,es,clock,e,-⟩
 ·injection e with e;subst e;obtain rfl:=gnI (hte.symm.trans tyU);exact⟨l,v,rfl,rfl,h⟩
 ·cases e
set_option maxHeartbeats 1000000 in
theorem qcb:FOk qh zqr:=FOk.of_at jo fun ds outs hw hg=>by
 obtain⟨d,r,rfl,hd,e,r',rfl,he,e2,r2,rfl,he2,hw⟩:=hw;obtain rfl:r2=[]:=hw;obtain⟨l,te,rfl,hte,hl,-⟩:=hd.row;obtain⟨n,rfl,hn⟩:=wfI he;obtain⟨m,te2,rfl,hte2,hm,-⟩:=he2.row;have hg':(if m.length=1∧0≤n∧n≤l.length∧l.length+1≤5864062014634 then some [.r (l.take n.toNat++m++l.drop n.toNat)] else none)=some outs:=hg;split at hg'
 case isFalse=>cases hg'
 rename_i hc;obtain⟨h1,h2,h3,h4⟩:=hc;injection hg' with hg';subst hg';clear hg;by_cases hnl:n=l.length
 ·refine zo3 (fun F=>[(q01 qh.f ql,fun _=>some [.i (F.mx ql)]),(q01 qh.f q02,fun _=>some [.i (F.mx q02)]),(q01 qh.f q2p,fun _=>some [.i (F.mx q2p)]),(q01 qh.f yy,fun _=>some [.i (F.mx yy)])]) q52 Try.f85 _ (fun F=>.cons (q21 _ jo _ _) (.cons (q21 _ jo _ _) (.cons (q21 _ jo _ _) (.cons (q21 _ jo _ _) .nil)))) rfl rfl (by decide) (fun F=>?_) (fun F=>rfl) (fun F hfl te=>?_)
  rotate_left
  ·rcases hfl te with h|⟨k,j,hm,-⟩
   ·rw[h];exact uM _
   ·rw[show qh.fl=[(999,0,ql),(999,1,q02),(999,2,q2p),(999,3,yy)] from rfl] at hm;simp only[gnM] at hm;rcases hm with⟨-,-,rfl⟩|⟨-,-,rfl⟩|⟨-,-,rfl⟩|⟨-,-,rfl⟩<;>exact kB _
  rw[qbd _ _ _ _ _ rfl];subst hnl;simp[q4f,Tree.go,q0s,X.says,X.ev,X.evs,evl,D.rs,D.int,D.tt,h1];omega
 ·intro A F p w vs us hfl hfo hpre hvl hargs;have hF0:F.mx (.st uS)=0:=by
   rcases hfl (.st uS) with h|⟨k,j,hm,-⟩
   ·exact h
   ·have h1:(qh.fl.all fun e=> !Ty.beq e.2.2 (.st uS))=true:=by kernel_rfl
    have h2:=uN.1 h1 _ hm;rw[show Ty.beq (.st uS) (.st uS)=true from(Ty.beq_iff _ _).2 rfl] at h2;cases h2
  obtain⟨v0,r0,d0,ds0,e0,e00,⟨cs0,hpk0,hc0⟩,v1,r1,d1,ds1,e1,e11,⟨cs1,hpk1,hc1⟩,v2,r2,d2,ds2,e2',e22,⟨cs2,hpk2,hc2⟩,hr⟩:=hargs;obtain rfl:r2=[]:=hr.1;subst e1 e2';obtain⟨rfl,rfl⟩:=uZ e00;obtain⟨rfl,rfl⟩:=uZ e11;obtain⟨rfl,-⟩:=uZ e22;clear e00 e11 e22 hr;obtain⟨rfl,rfl⟩:vs=[v0,v1,v2]∧us=[]:=by
   have hl3:vs.length=3:=hvl;have hus:us.length=0:=by
    have:=congrArg kG e0;simp at this;omega
   obtain rfl:=List.length_eq_zero_iff.1 hus;exact⟨by simpa using e0,rfl⟩
  clear e0;have hc0:Con A p w (D.r l) (.row 98) [(0,1)] [] cs0:=hc0;have hc2:Con A p w (D.r m) (.row 98) [(0,33)] [] cs2:=hc2;obtain⟨l',u0,q0,rfl,ho0⟩:=zgw hc0;obtain⟨m',u2,q2,rfl,ho2⟩:=zgw hc2;injection q0 with q0;injection q2 with q2;subst q0 q2;obtain rfl:u0=v0:=(uZ hpk0).1;obtain rfl:u2=v2:=(uZ hpk2).1;obtain⟨n',-,e,rfl⟩:=of_rdI hc1;injection e with e;subst e;obtain rfl:Value.int .i64 n=v1:=(uZ hpk1).1;obtain⟨g,cap,L,post,rfl,hpg,hL,hLo,hg,hcap,hcm,hpost⟩:=z48 ho0 (by omega);obtain⟨g2,cap2,M,post2,rfl,hpg2,hM,hMo,hg2,hcap2,-,-⟩:=z48 ho2 (by omega);have hne:g2≠g:=fun e=>by
   subst e;have:=hpre.inj _ _ _ hpg2 hpg;omega
  have hLl:l.length=L.length:=by rw[hL,uF]
  obtain⟨x,rfl⟩:∃x,M=[x]:=by
   have:M.length=1:=by rw[←h1,hM,uF]
   exact List.length_eq_one_iff.1 this
  have hx:z8a x:=hMo x (by simp);obtain⟨i,rfl⟩:∃i:Nat,n=i:=⟨n.toNat,by omega⟩;have hi:i<L.length:=by omega
  have hg2:w.heap[g2]? =some (.cells (fl3 x++post2).toArray 98 (0,0)):=by simpa[fls] using hg2
  have hout:l.take (i:Int).toNat++m++l.drop (i:Int).toNat=(L.take i++x::L.drop i).map dE:=by
   rw[hL,hM,uW];simp
  have hNo:∀y∈L.take i++x::L.drop i,z8a y:=fun y hy=>by
   rcases List.mem_append.1 hy with h|h
   ·exact hLo y (vF h)
   ·rcases kP.1 h with rfl|h
    ·exact hx
    ·exact hLo y (vG h)
  have hNl:(L.take i++x::L.drop i).length=L.length+1:=by simp;omega
  have hlm:cap≤9223372036854775807:=by unfold maxLen at hcm;omega
  have fin:∀{VV:List Value}(g' cap':Nat)(post':List Value)(w':World),A g'→(pinned p g'∨w.heap.size≤g')→But (pinned p) w w'→Flo F w w'→w'.heap[g']? =some (.cells (fls (L.take i++x::L.drop i)++post').toArray 98 (0,0))→L.length+1≤cap'→cap'≤maxLen→post'.length=(cap' - (L.length+1)) * 3→
    ∃rs p',Ending.returned (.slice (some ⟨g',0,none⟩) (L.length+1) cap')=.returned (qiy rs)∧Bs A F w (pinned p) p' w'∧qbj A p' w' qh.rs qh.ar.length rs (List.take qh.rs.length [D.r (l.take (i:Int).toNat++m++l.drop (i:Int).toNat)])∧q49 VV A p p' w' qh.all (List.drop qh.rs.length [D.r (l.take (i:Int).toNat++m++l.drop (i:Int).toNat)]):=by
   intro VV g' cap' post' w' hA hgp hb hflo hh a1 a2 a3;have hp':∀y b,(fun y=>if y=49 then some g' else none:qj) y=some b→y=49∧b=g':=fun y b h=>by
    by_cases hy:y=49
    ·subst hy;exact⟨rfl,(gnI h).symm⟩
    ·simp[hy] at h
   refine⟨[.slice (some ⟨g',0,none⟩) (L.length+1) cap'],fun y=>if y=49 then some g' else none,rfl,⟨?_,?_,hb,?_,hpre.new,?_,?_,hflo⟩,?_,rfl⟩
   ·intro y z b h1 h2;rw[(hp' y b h1).1,(hp' z b h2).1]
   ·intro y b h;rw[(hp' y b h).2];exact qt hh
   ·intro y b h;rw[(hp' y b h).2];exact hgp
   ·intro y b h;rw[(hp' y b h).2];exact hA
   ·intro y b h;rw[(hp' y b h).2];exact .inl ⟨_,_,hh⟩
   ·refine⟨_,_,_,_,rfl,rfl,⟨[.slice (some ⟨g',0,none⟩) (L.length+1) cap'],rfl,?_⟩,rfl⟩;refine .inl ⟨98,.st uS,_,_,rfl,tyU,rfl,rfl,?_⟩;rw[hout,←hNl];exact zr4 rfl hNo hh (by rw[hNl];exact a1) a2 (by rw[hNl];exact a3) (by rw[hNl];omega)
  rw[h1,hLl];by_cases hroom:L.length+1≤cap
  ·refine Calls.mono (zh5 w g cap g2 cap2 i L.length L x post post2 98 98 rfl hi hroom hlm hne (by rw[hpost];omega) hg hg2) ?_;rintro e w'⟨rfl,hb,hh⟩;exact .inr (fin g cap _ w' (hpre.pa _ _ hpg) (.inl ⟨_,hpg⟩) (hb.mono fun k hk _=>hk▸⟨_,hpg⟩) (hfo.same fun k hk h0=>hb.block k hk fun e=>by
    subst e;obtain⟨cs,cs',T,te,f1,f2,f3,f4,-⟩:=hfo k h0;rw[hg] at f2;injection f2 with f2;injection f2 with f5 f6;subst f6;obtain rfl:=gnI (tyU.symm.trans f3);rw[hF0] at f4;omega) hh hroom hcm (by rw[uY,hpost];omega))
  ·have hcl:cap=L.length:=by omega
   subst hcl;refine Calls.mono (zki w g g2 cap2 i L.length L x post post2 98 98 rfl hi (by omega) hne hg hg2) ?_;rintro e w'⟨G,rest,rfl,hb,a1,a2,a3,hh⟩;exact .inr (fin _ G _ w' (hpre.new _ (kB _)).1 (.inr (kB _)) hb.of_nil (hfo.same fun k hk _=>hb.block k hk id) hh a1 a2 a3)
end
def zrl:List D→Option (List D)
 |[x]=>some [.b false]
 |_=>none
theorem qj8:FOk jr zrl:=qi0 fun ds outs hw hg=>by
 obtain⟨d,r,rfl,hd,rfl⟩:=hw;simp only[zrl,uC] at hg;subst hg;simp[q4a,gnZ,gnT]
def zdb:List D→Option (List D)
 |[x,v]=>some [.i (if x.int<v.int then -1 else if v.int<x.int then 1 else 0)]
 |_=>none
theorem q31:FOk qy zdb:=qf1 qj8 fun ds outs hw hg=>by
 obtain⟨d,r,rfl,hd,e,r',rfl,he,rfl⟩:=hw;obtain⟨x,rfl,hx⟩:=wfI hd;obtain⟨v,rfl,hv⟩:=wfI he;simp only[zdb,j4,uC] at hg;subst hg;simp only[q3m,gnZ,gnT,zrl];by_cases h1:x<v<;>by_cases h2:v<x<;>simp[h1,h2]
def zoj:List D→Option (List D)
 |[x,v]=>some [.i (if(dV x).v<v.int then -1 else if v.int<(dV x).v then 1 else 0)]
 |_=>none
theorem qs3:FOk q1o zoj:=qpl q31 fun ds outs hw hg=>by
 obtain⟨d,r,rfl,hd,e,r',rfl,he,rfl⟩:=hw;obtain⟨x,rfl,hx,-⟩:=wfV hd;obtain⟨v,rfl,hv⟩:=wfI he;simp only[zoj,qv3,j4,uC] at hg;subst hg;simp[q7t,gnZ,gnT,zdb,zrh];rfl
theorem qwj:FOk q24 qba:=qs4 fun ds outs hw hg=>by
 obtain⟨d,r,rfl,hd,rfl⟩:=hw;obtain⟨c,rfl,hc⟩:=wfC hd;simp only[qba,q16,uC] at hg;subst hg;simp only[q9p,gnZ,gnT,jl];by_cases h:c.t=5<;>simp[h];rfl
def zln:List D→Option (List D)
 |[l,v]=>if SV (dVs l) then some [.i (loV (dVs l) v.int),.b (ofV (dVs l) v.int).isSome] else none
 |_=>none
theorem qjn{n:Int}(h0:0≤n)(h1:n≤9223372036854775807):ji .u64 n=true:=by
 simp[ji];omega
theorem qgh(a v:Int){i1:Decidable (a<v)}{i2:Decidable (v<a)}:((if a<v then(-1:Int) else if v<a then 1 else 0)<0)↔a<v:=by
 split
 ·simp_all
 ·split<;>simp_all
theorem half(i j:Nat):((i:Int)+(j:Int)).fdiv (2^(1:Int).toNat)=((i+j) / 2:Nat):=by
 rw[show(2:Int)^(1:Int).toNat=2 from rfl,Int.fdiv_eq_ediv_of_nonneg _ (by omega)];omega
variable{j:Nat}
theorem zbd{l:List Vc}(h:SV l){i:Nat}(hij:i≤j)(hj:j<l.length):(l.getD i default).v≤(l.getD j default).v:=by
 rcases vL hij with h1|rfl
 ·have h2:i<l.length:=by omega
  have:=kE.1 h.1 i j h2 hj h1;simp only[gnG,gnK h2,gnK hj,uK];omega
 ·exact vK _
theorem q2h:FOk qn zln:=q5a qs3 fun ds outs hw hg=>by
 obtain⟨d,r,rfl,hd,e,r',rfl,he,rfl⟩:=hw;obtain⟨l,rfl,hl,hok⟩:=zjl hd;obtain⟨v,rfl,hv⟩:=wfI he;simp only[zln,q5q,j4,uD,uC] at hg;obtain⟨hs,rfl⟩:=hg;rw[q03,zx];refine⟨fun st=>∃i j:Nat,i≤j∧j≤l.length∧st=[.i i,.i j]∧(∀k,k<i→(l.getD k default).v<v)∧(∀k,j≤k→k<l.length→v≤(l.getD k default).v),fun st=>(st.getD 1 .u).int.toNat - (st.getD 0 .u).int.toNat,⟨0,l.length,uM _,kB _,by simp[X.evs,X.ev,evl,D.rs],fun k hk=>absurd hk (uU _),fun k h1 h2=>by omega⟩,?_⟩;rintro st - ⟨i,j,hij,hj,rfl,h1,h2⟩;rw[z8];refine⟨fun hlt=>?_,fun hlt=>?_⟩
 ·simp only[gnZ,gnT] at hlt;have hm:(i+j) / 2<l.length:=by omega
  simp only[gnZ,gnT,fnD,half,q67 eV hm,zoj,qv3,qgh];have hk:i+j≤2 * 5864062014634:=by omega
  refine⟨⟨⟨by omega,by omega⟩,qjn (by omega) (by omega),qjn (by omega) (by omega),by omega,by omega⟩,⟨by omega,by omega⟩,fun hb=>⟨⟨by omega,by omega⟩,?_⟩,fun hb=>?_⟩
  ·have hlv:(l.getD ((i+j) / 2) default).v<v:=by first|exact(qgh _ _).1 hb|exact hb
   rw[jv,if_pos rfl];refine⟨⟨(i+j) / 2+1,j,by omega,hj,by simp,fun k hk=>?_,h2⟩,?_⟩
   ·have:=zbd hs (show k≤(i+j) / 2 by omega) hm;omega
   ·simp[D.int];omega
  ·have hlv:v≤(l.getD ((i+j) / 2) default).v:=jG.1 fun q=>by first|exact hb ((qgh _ _).2 q)|exact hb q
   rw[jv,if_pos rfl];refine⟨⟨i,(i+j) / 2,by omega,by omega,by simp,h1,fun k hk hkl=>?_⟩,?_⟩
   ·have:=zbd hs (show(i+j) / 2≤k by omega) hkl;omega
   ·simp[D.int];omega
 ·simp only[gnZ,gnT] at hlt;have hl1:loV l v=i:=zgy (by omega) h1 fun k hk hkl=>h2 k (by omega) hkl;rw[z7x hs,hl1];by_cases hil:i<l.length
  ·simp only[gnZ,gnT,q67 eV hil,zoj,qv3];have e0:(i:Int)<l.length:=by omega
   have e1:(0:Int)≤i:=by omega
   have hx:v≤(l.getD i default).v:=h2 i (by omega) hil;generalize l.getD i default=z at hx;simp only[e0,e1,decide_true,kA,kZ,kR,true_and,hil];by_cases hz:z.v=v
   ·have h3:¬z.v<v:=by omega
    have h4:¬v<z.v:=by omega
    simp[hz]
   ·have h3:¬z.v<v:=by omega
    have h4:v<z.v:=by omega
    simp[hz,h3,h4]
  ·have e0:¬(i:Int)<l.length:=by omega
   simp[gnZ,gnT,e0,hil]
def eM(ms:List Sy):List D:=ms.map fun y=>.a [eY y,.b true]
def dM(d:D):List Sy:=d.ms.map fun p=>dY (p.fld 0)
theorem zqb(ms:List Sy):dM (.mp (eM ms))=ms:=by
 show(ms.map fun y=>D.a [eY y,.b true]).map (fun p=>dY (p.fld 0))=ms
 rw[vZ];exact List.map_id'' (fun x=>rfl) ms
theorem z68(y:Sy):∀ms:List Sy,mfind (eY y) (eM ms)=if y∈ms then some (.b true) else none
 |[]=>by simp[eM,mfind]
 | z :: ms => by
  have ih:=z68 y ms
  show(if eY z=eY y then some (D.b true) else mfind (eY y) (eM ms))=_
  by_cases h:z=y
  ·subst h;rw[if_pos rfl];simp
  ·have h':¬y=z:=fun e=>h e.symm;rw[if_neg (fun e=>h (z1z e)),ih];simp[h']
theorem z9w{y:Sy}:∀{ms:List Sy},y∉ms→mset (eY y) (.b true) (eM ms)=eM (ms++[y])
 |[],_=>by simp[eM,mset]
 |z::ms,h=>by
  have h1:¬z=y:=fun e=>h (by simp[e]);have h2:y∉ms:=fun e=>h (by simp[e]);have ih:=z9w h2
  show(if eY z=eY y then D.a [eY y,.b true]::eM ms else D.a [eY z,.b true]::mset (eY y) (.b true) (eM ms))=_
  rw[if_neg (fun e=>h1 (z1z e)),ih];rfl
theorem z05(ys:List Sy):∀(l m:List Te)(ms:List Sy),q71 ys ms (l++m)=q71 ys (q71 ys ms l) m
 |[],m,ms=>rfl
 |t::l,m,ms=>by rw[kI,q71,q71,z05 ys l m]
theorem qnw:∀(l m:List Te),q17 (l++m)=q17 l+q17 m
 |[],m=>by simp[q17]
 |t::l,m=>by rw[kI,q17,q17,qnw l m];omega
theorem zs1(ys ms:List Sy)(t:Te):qf4 ys ms t=q71 ys (if t.k=2∨t.k=3 then qte ys ms ⟨t.s,(t.l.length:Nat)⟩ else ms) t.l:=by
 cases t;rw[qf4];rfl
theorem zgn(t:Te):q63 t=if t.k=3 then 1+t.l.length+q17 t.l else 0:=by
 cases t;rw[q63];rfl
theorem zrp{t:Te}(h:q3q t=true)(h3:¬t.k=3):t.l=[]:=by
 obtain⟨k,n,nm,l⟩:=t;rcases q2i h with h|h|h|h
 ·exact h.2.1
 ·exact h.2
 ·exact h.2.1
 ·exact(h3 h.1).elim
def z26:List D→Option (List D)
 |[t,m,n,s]=>if m=.mp (eM (dM m))∧z6 (dT t)=true∧0≤n.int∧n.int+q63 (dT t)≤1099511627776 then some [.mp (eM (qf4 (dS s).ys (dM m) (dT t))),.i (n.int+q63 (dT t))] else none
 |_=>none
theorem qq9:FOk zn z26:=qa2 (m:=mT) qas fun N ih=>qmp ih qih fun ds outs hw hg=>by
 obtain⟨d,r,rfl,hd,e,r',rfl,he,f,r2,rfl,hf,q,r3,rfl,hq,rfl⟩:=hw;obtain⟨t,rfl,ht⟩:=wfT hd;obtain⟨n,rfl,hn⟩:=wfI hf;obtain⟨s,rfl,hs⟩:=wfS hq;simp only[q3l,mT,z26,uH,jz,j4,yf,uD,uC] at hg;obtain⟨hsz,⟨hm,hnd,h0,h1⟩,rfl⟩:=hg;obtain⟨ms,hms⟩:∃ms,e=.mp (eM ms):=⟨_,hm⟩;subst hms;rw[zqb];have hl:=ht.l;have hnl:=(qaj t).1 hnd;have key:∀(x1 x2:X)(ms0:List Sy)(n0:Int),x1.ev (evl (qf [(zn,q3l mT N z26),(ym,qdt)]) [eT t,.mp (eM ms),.i n,eS s])=.mp (eM ms0)→x2.ev (evl (qf [(zn,q3l mT N z26),(ym,qdt)]) [eT t,.mp (eM ms),.i n,eS s])=.i n0→0≤n0→n0+q17 t.l=n+q63 t→q71 s.ys ms0 t.l=qf4 s.ys ms t→Tree.go (qf [(zn,q3l mT N z26),(ym,qdt)]) (fun o=>o=[.mp (eM (qf4 s.ys ms t)),.i (n+q63 t)]) (.loop 8 4 [(.lit (.i 0)),x1,x2] (.br (.lt (.tok 4) (.len (.fld (.tok 0) 3))) (.need [(.le (.lit (.i 0)) (.tok 4)),(.lt (.tok 4) (.len (.fld (.tok 0) 3)))] (.need [(.ok 0 [(.get (.fld (.tok 0) 3) (.tok 4)),(.tok 5),(.tok 6),(.tok 3)])] (.need [(.rng .i64 (.add (.tok 4) (.lit (.i 1))))] (.back 8 [(.add (.tok 4) (.lit (.i 1))),(.call 0 0 [(.get (.fld (.tok 0) 3) (.tok 4)),(.tok 5),(.tok 6),(.tok 3)]),(.call 0 1 [(.get (.fld (.tok 0) 3) (.tok 4)),(.tok 5),(.tok 6),(.tok 3)])])))) (.leaf [(.tok 5),(.tok 6)]))) [eT t,.mp (eM ms),.i n,eS s] fun _ _=>False:=by
  intro x1 x2 ms0 n0 hx1 hx2 hn0 hc hv;rw[zx];refine⟨fun st=>∃k:Nat,k≤t.l.length∧st=[.i k,.mp (eM (q71 s.ys ms0 (t.l.take k))),.i (n0+q17 (t.l.take k))],fun st=>t.l.length - (st.getD 0 .u).int.toNat,⟨0,uM _,by simp only[X.evs,hx1,hx2,X.ev];simp[q71,q17]⟩,?_⟩;rintro st - ⟨k,hk,rfl⟩;rw[z8];refine⟨fun hlt=>?_,fun hlt=>?_⟩
  ·simp only[gnZ,gnT] at hlt;have hkl:k<t.l.length:=by omega
   have ha:=qfs hkl;have hsn:q17 (t.l.take (k+1))=q17 (t.l.take k)+q63 (t.l.getD k default):=by
    rw[qai hkl,qnw];simp[q17]
   have hle:q17 (t.l.take (k+1))≤q17 t.l:=by
    have:=qnw (t.l.take (k+1)) (t.l.drop (k+1));rw[uX] at this;omega
   have hvs:q71 s.ys ms0 (t.l.take (k+1))=qf4 s.ys (q71 s.ys ms0 (t.l.take k)) (t.l.getD k default):=by
    rw[qai hkl,z05];rfl
   have hq:(z6 (t.l.getD k default)=true∧0≤n0+(q17 (t.l.take k):Int)∧n0+(q17 (t.l.take k):Int)+q63 (t.l.getD k default)≤1099511627776):=⟨hnl.2 k hkl,by omega,by omega⟩;simp only[gnZ,gnT,qbo hkl,q3l,mT,z26,if_pos hq,if_pos (show szT (t.l.getD k default)<N by omega),zqb];refine⟨⟨by omega,by omega⟩,⟨by omega,by omega⟩,?_⟩;rw[jv,if_pos rfl];refine⟨⟨k+1,by omega,?_⟩,?_⟩
   ·rw[hvs,hsn];simp;omega
   ·simp[D.int];omega
  ·simp only[gnZ,gnT] at hlt⊢;have:k=t.l.length:=by omega
   subst this;rw[vO,hv,hc]
 rw[q6x];have ey:D.a [.s t.s,.i (t.l.length:Nat)]=eY ⟨t.s,(t.l.length:Nat)⟩:=rfl;simp only[gnZ,gnT,qdt,fnD,ey,zc7,z68];have hc3:t.k=3→q63 t=1+t.l.length+q17 t.l:=fun h=>by rw[zgn,if_pos h]
 have hc0:¬t.k=3→q63 t=0∧q17 t.l=0:=fun h=>by
  rw[zgn,if_neg h,zrp hnl.1 h];exact⟨rfl,rfl⟩
 have hvm:=zs1 s.ys ms t;have hput:∀ms0,ms0=qte s.ys ms ⟨t.s,(t.l.length:Nat)⟩→(decide (t.k=2)||decide (t.k=3))=true→q71 s.ys ms0 t.l=qf4 s.ys ms t:=fun ms0 e h=>by
  rw[hvm,e,if_pos (by simpa using h)]
 have hM:(X.fn 2 [.tok 1,.mk [.fld (.tok 0) 2,.len (.fld (.tok 0) 3)],.lit (.b true)]).ev (evl (qf [(zn,q3l mT N z26),(ym,qdt)]) [eT t,.mp (eM ms),.i n,eS s])=.mp (mset (eY ⟨t.s,(t.l.length:Nat)⟩) (.b true) (eM ms)):=by
  simp only[gnZ,gnT,fnD,ey,zc7]
 have hN:(X.add (.tok 2) (.add (.len (.fld (.tok 0) 3)) (.lit (.i 1)))).ev (evl (qf [(zn,q3l mT N z26),(ym,qdt)]) [eT t,.mp (eM ms),.i n,eS s])=.i (n+((t.l.length:Nat)+1)):=by
  simp only[gnZ,gnT]
 have hno:((!((if(⟨t.s,(t.l.length:Nat)⟩:Sy)∈ms then some (D.b true) else none).getD (D.b false)).tt&&decide (qeo s t.s (t.l.length:Nat)<0))=true)↔¬((⟨t.s,(t.l.length:Nat)⟩:Sy)∈ms∨(⟨t.s,(t.l.length:Nat)⟩:Sy)∈s.ys):=by
  rw[←qhb (s:=s) (nm:=t.s) (ar:=(t.l.length:Nat))];by_cases hm:(⟨t.s,(t.l.length:Nat)⟩:Sy)∈ms
  ·simp[hm,D.tt]
  ·simp[hm,D.tt]
 refine⟨fun h23=>⟨fun hc=>?_,fun hc=>?_⟩,fun h23=>?_⟩
 ·have hc':=hno.1 hc;have e1:qte s.ys ms ⟨t.s,(t.l.length:Nat)⟩=ms++[⟨t.s,(t.l.length:Nat)⟩]:=by rw[qte,if_neg hc']
  rw[z9w fun q=>hc' (.inl q),←e1] at hM;exact⟨fun h3=>⟨⟨⟨by omega,by omega⟩,by omega,by have:=hc3 h3;omega⟩,key _ _ _ _ hM hN (by omega) (by have:=hc3 h3;omega) (hput _ rfl h23)⟩,fun h3=>key _ _ _ _ hM rfl h0 (by have:=hc0 h3;omega) (hput _ rfl h23)⟩
 ·have hc':(⟨t.s,(t.l.length:Nat)⟩:Sy)∈ms∨(⟨t.s,(t.l.length:Nat)⟩:Sy)∈s.ys:=Classical.byContradiction fun q=>by
   rw[hno.2 q] at hc;cases hc
  have e1:ms=qte s.ys ms ⟨t.s,(t.l.length:Nat)⟩:=by rw[qte,if_pos hc']
  exact⟨fun h3=>⟨⟨⟨by omega,by omega⟩,by omega,by have:=hc3 h3;omega⟩,key _ _ _ _ rfl hN (by omega) (by have:=hc3 h3;omega) (hput _ e1 h23)⟩,fun h3=>key _ _ _ _ rfl rfl h0 (by have:=hc0 h3;omega) (hput _ e1 h23)⟩
 ·have h3:¬t.k=3:=fun q=>by simp[q] at h23
  have h4:¬(t.k=2∨t.k=3):=fun q=>by
   rcases q with q|q<;>simp[q] at h23
  rw[if_neg h4] at hvm;exact⟨fun q=>(h3 q).elim,fun _=>key _ _ _ _ rfl rfl h0 (by have:=hc0 h3;omega) hvm.symm⟩
theorem qcz:FOk yg (gCl 5864062014634):=qc6 fun ds outs hw hg=>by
 obtain⟨d,r,rfl,hd,rfl⟩:=hw;obtain⟨l,te,rfl,-⟩:=hd.row;simp only[gCl,qj5,uD,uC] at hg;obtain⟨h1,rfl⟩:=hg;exact qsq h1 rfl
def vAt(s:So)(l:List Vc)(k:Nat):Bool:=decide (0≤(l.getD k default).v)&&(decide ((l.getD k default).v≤1099511627776)&&(decide (k=0∨(l.getD (k - 1) default).v<(l.getD k default).v)&&vcP s (l.getD k default).c))
def vvP(s:So)(l:List Vc):Bool:=(List.range l.length).all (vAt s l)
theorem qha{l:List Vc}{i:Nat}(h:i<l.length):l.getD i default=l[i]:=by
 rw[gnG,gnK h];rfl
theorem qa9{s:So}{l:List Vc}:vvP s l=true↔SV l∧∀x∈l,vcP s x.c=true:=by
 unfold vvP;rw[uN];constructor
 ·intro h;have h':∀k,k<l.length→vAt s l k=true:=fun k hk=>h k (vT.2 hk);have step:∀j i,i<j→j<l.length→(l.getD i default).v<(l.getD j default).v:=by
   intro j
   induction j with
   |zero=>intro i hi;omega
   | succ j ih =>
    intro i hi hj;have h1:=h' (j+1) hj;simp only[vAt,gnB,gnD] at h1;have h2:(l.getD j default).v<(l.getD (j+1) default).v:=by
     rcases h1.2.2.1 with h|h
     ·omega
     ·exact h
    rcases vL (Nat.le_of_lt_succ hi) with h3|rfl
    ·have:=ih i h3 (by omega);omega
    ·exact h2
  refine⟨⟨kE.2 fun i j hi hj hij=>?_,fun x hx=>?_⟩,fun x hx=>?_⟩
  ·have:=step j i hij hj;rw[qha hi,qha hj] at this;exact this
  ·obtain⟨i,hi,rfl⟩:=vH.1 hx;have h1:=h' i hi;simp only[vAt,gnB,gnD,qha hi] at h1;exact⟨h1.1,h1.2.1⟩
  ·obtain⟨i,hi,rfl⟩:=vH.1 hx;have h1:=h' i hi;simp only[vAt,gnB,gnD,qha hi] at h1;exact h1.2.2.2
 ·rintro⟨hs,hc⟩k hk;have hk:=vT.1 hk;have hm:=q1y hk;simp only[vAt,gnB,gnD];refine⟨(hs.2 _ hm).1,(hs.2 _ hm).2,?_,hc _ hm⟩;rcases Nat.eq_zero_or_pos k with h|h
  ·exact .inl h
  ·right;have h1:k - 1<l.length:=by omega
   rw[qha h1,qha hk];exact kE.1 hs.1 (k - 1) k h1 hk (by omega)
def gVV(f:So→List Vc→Bool):List D→Option (List D)
 |[s,l]=>some [.b (f (dS s) (dVs l))]
 |_=>none
theorem qjv:FOk jp (gVV vvP):=qhw zh fun ds outs hw hg=>by
 obtain⟨d,r,rfl,hd,e,r',rfl,he,rfl⟩:=hw;obtain⟨s,rfl,hs⟩:=wfS hd;obtain⟨l,rfl,hl,hok⟩:=zjl he;simp only[gVV,yf,q5q,uC] at hg;subst hg;rw[q4g,zx];refine⟨fun st=>∃k:Nat,k≤l.length∧st=[.b false,.i k]∧∀j,j<k→vAt s l j=true,fun st=>l.length - (st.getD 1 .u).int.toNat,⟨0,uM _,rfl,fun j hj=>absurd hj (uU _)⟩,?_⟩;rintro st - ⟨k,hk,rfl,hP⟩;rw[z8];refine⟨fun hlt=>?_,fun hlt=>?_⟩
 ·simp only[gnZ,gnT] at hlt;have hkl:k<l.length:=by omega
  have hvb:=(hok _ (q1y hkl)).1;by_cases h0:k=0
  ·subst h0;have e1:decide ((0:Int)<((0:Nat):Int))=false:=by decide
   simp only[gnZ,gnT,q67 eV hkl,zrh,zrn,qdf,e1,Bool.and_false,Bool.false_and,kO,Bool.true_or,Bool.or_false,true_and,and_self];refine⟨⟨by omega,by omega⟩,fun hb=>?_,fun hb=>⟨⟨by omega,by omega⟩,?_⟩⟩
   ·have hv:vAt s l 0=false:=by
     simp only[vAt,true_or,decide_true,kR];generalize l.getD 0 default=z at hb⊢;cases hvc:vcP s z.c
     ·simp
     ·simp[hvc] at hb⊢;omega
    rw[vvP,qbq hkl hv]
   ·have hv:vAt s l 0=true:=by
     simp only[vAt,true_or,decide_true,kR];generalize l.getD 0 default=z at hb⊢;cases hvc:vcP s z.c
     ·simp[hvc] at hb
     ·simp[hvc] at hb⊢;omega
    rw[jv,if_pos rfl];exact⟨⟨1,by omega,by simp,q3t hP hv⟩,by simp[D.int];omega⟩
  ·have hk1:((k:Int) - 1)=((k - 1:Nat):Int):=by omega
   have hkp:k - 1<l.length:=by omega
   have hp:(0:Int)<k:=by omega
   have hr1:ji .i64 ((k - 1:Nat):Int)=true:=by simp[ji];omega
   have hr2:(0:Int)≤((k - 1:Nat):Int):=by omega
   have hr3:((k - 1:Nat):Int)<l.length:=by omega
   simp only[gnZ,gnT,hk1,hp,hr1,hr2,hr3,q67 eV hkl,q67 eV hkp,zrh,zrn,qdf,Bool.and_true,kR];refine⟨⟨by omega,by omega⟩,fun hb=>?_,fun hb=>⟨⟨by omega,by omega⟩,?_⟩⟩
   ·have hv:vAt s l k=false:=by
     simp only[vAt,h0,false_or];generalize l.getD k default=z at hb⊢;cases hvc:vcP s z.c
     ·simp
     ·simp[hvc] at hb⊢;omega
    rw[vvP,qbq hkl hv]
   ·have hv:vAt s l k=true:=by
     simp only[vAt,h0,false_or];generalize l.getD k default=z at hb⊢;cases hvc:vcP s z.c
     ·simp[hvc] at hb
     ·simp[hvc] at hb⊢;omega
    rw[jv,if_pos rfl];exact⟨⟨k+1,by omega,by simp,q3t hP hv⟩,by simp[D.int];omega⟩
 ·simp only[gnZ,gnT] at hlt⊢;have:k=l.length:=by omega
  subst this;simp only[vvP,q3k hP]
def qov(s:So)(t:Te)(l:List Vc):Bool:=decide ((q6g t l:Int)≤s.mx - s.cs.length)&&decide (((qf4 s.ys [] t).length:Int)≤1048576 - s.ys.length)
def qki(s:So)(t:Te)(l:List Vc):Bool:=decide ((q6g t l:Int)≤IntKind.wrap .i64 (s.mx - s.cs.length))&&decide (((qf4 s.ys [] t).length:Int)≤1048576 - s.ys.length)
theorem z5e{s:So}{t:Te}{l:List Vc}(h:ji .i64 (s.mx - s.cs.length)=true):qki s t l=qov s t l:=by
 unfold qki qov;rw[qc2 h]
def z9o:List D→Option (List D)
 |[s,t,l]=>if z6 (dT t)=true∧szT (dT t)≤2000∧SV (dVs l)∧(dS s).cs.length≤1048576∧(dS s).ys.length≤1048576 then some [.b (qki (dS s) (dT t) (dVs l))] else none
 |_=>none
theorem qwh:FOk q29 z9o:=qu8 qq9 q2h fun ds outs hw hg=>by
 obtain⟨d,r,rfl,hd,e,r',rfl,he,f,r2,rfl,hf,rfl⟩:=hw;obtain⟨s,rfl,hs⟩:=wfS hd;obtain⟨t,rfl,ht⟩:=wfT he;obtain⟨l,rfl,hl,hok⟩:=zjl hf;simp only[z9o,yf,jz,q5q,uD,uC] at hg;obtain⟨⟨hnd,hsz,hsv,hcl,hyl⟩,rfl⟩:=hg;have hc:=qk9 t;have hv:=qgv t s.ys [];have hc0:z6 t=true∧(0:Int)≤0∧0+(q63 t:Int)≤1099511627776:=⟨hnd,by omega,by omega⟩;have hc1:z6 t=true∧(0:Int)≤1∧1+(q63 t:Int)≤1099511627776:=⟨hnd,by omega,by omega⟩;have hme:(D.mp []=D.mp (eM []))=True:=eq_true rfl;have hmd:dM (D.mp [])=[]:=rfl;simp only[q9q,gnZ,gnT,z26,zln,q5q,if_pos hsv,fnD,zc7,hmd,hme,if_pos hc0,if_pos hc1,qki];have hlen:(eM (qf4 s.ys [] t)).length=(qf4 s.ys [] t).length:=uF _;have hr1:ji .i64 ((qf4 s.ys [] t).length:Int)=true:=by simp[ji] at hv⊢;omega
 have hr2:ji .i64 (1048576 - (s.ys.length:Int))=true:=by simp[ji];omega
 have hx:=hs.mx;simp only[hlen,hr1,hr2,Bool.or_true,true_and];refine⟨fun h0=>⟨fun hn=>⟨⟨by omega,by omega⟩,?_⟩,fun hn=>?_⟩,fun h0=>?_⟩
 ·have e:ofV l t.n=none:=by simpa using hn
  rw[q6g,if_pos ⟨h0,e⟩,Nat.add_comm];rfl
 ·have e:¬ofV l t.n=none:=fun q=>by rw[q] at hn;cases hn
  rw[q6g,if_neg fun q=>e q.2];simp
 ·rw[q6g,if_neg fun q=>h0 q.1];simp
def qix(s:So)(all:List Vc)(t:Te)(a:Int):Bool:=z6 t&&(decide (SV all)&&(decide ((s.cs.length:Int)+((if a<0 then q6g t all else q63 t:Nat):Int)≤1048576)&&(decide (a<0→t.k=0→ofV all t.n=none→(s.cs.length:Int)<s.mx)&&(decide ((q38 s.ys t).length≤1048576)&&decide (a≤1048576)))))
def zo5:List D→Option (List D)
 |[t,a,all,s]=>if qix (dS s) (dVs all) (dT t) a.int then some [eC (zm (dS s,dVs all) (dT t) a.int).1,.r ((zm (dS s,dVs all) (dT t) a.int).2.2.map eV),eS (zm (dS s,dVs all) (dT t) a.int).2.1] else none
 |_=>none
variable{nm:ByteArray}
theorem zpe{s:So}{ar:Int}(h:qjy nm ar=false)(hl:(qd8 s.ys ⟨nm,ar⟩).length≤1048576):zn6 [eS s,.s nm,.i ar]=some [.i (q0p s nm ar).1,.i 0,eS (q0p s nm ar).2]:=by
 simp only[zn6,yf,q7o,j4,h,q0p];by_cases h0:0≤qeo s nm ar
 ·simp[h0]
 ·have h1:¬(⟨nm,ar⟩:Sy)∈s.ys:=fun q=>h0 (qhb.2 q);rw[qd8,if_neg h1] at hl;have h2:¬1048576≤s.ys.length:=by simp at hl;omega
  simp[h0,h2]
theorem zs9(s:So)(i:Nat)(c:Ce):D.a ((eS s).fs.set 0 (.r ((s.cs.map eC).set i (eC c))))=eS (qdw s i c):=by
 rw[←List.map_set];rfl
theorem znw(s:So)(l:List Ce):D.a ((eS s).fs.set 0 (.r (s.cs.map eC++l.map eC)))=eS {s with cs:=s.cs++l}:=by
 rw[←List.map_append];rfl
theorem qso:FOk zd zo5:=qa2 (m:=mT) q1s fun N ih=>qqx ih qqz q2h qwj qb2 qcb fun ds outs hw hg=>by
 obtain⟨d,r,rfl,hd,e,r',rfl,he,f,r2,rfl,hf,q,r3,rfl,hq,rfl⟩:=hw;obtain⟨t,rfl,ht⟩:=wfT hd;obtain⟨a,rfl,ha⟩:=wfI he;obtain⟨all,rfl,hal,hok⟩:=zjl hf;obtain⟨s,rfl,hs⟩:=wfS hq;simp only[q3l,mT,zo5,uH,jz,j4,yf,q5q,uD,uC] at hg;obtain⟨hsz,hA,rfl⟩:=hg;simp only[qix,gnB,gnD] at hA;obtain⟨hnd,hsv,hcs,hmx,hys,hamx⟩:=hA;have hnl:=(qaj t).1 hnd;obtain⟨k,n,nm,l⟩:=t;have hlo:=z7q n all;have hlen:=SV.len hsv;rcases q2i hnl.1 with⟨rfl,rfl,h1,h2⟩|⟨rfl,rfl⟩|⟨rfl,rfl,h1⟩|⟨rfl,h1,h2,h3⟩
 ·have hins:∀c:Ce,zqr [.r (all.map eV),.i (loV all n),.r [eV ⟨n,c⟩]]=some [.r ((qc9 all n c).map eV)]:=fun c=>by
   simp only[zqr,q7i,j4,uF,List.length_singleton,uW];rw[if_pos ⟨trivial,by omega,by omega,by omega⟩,z1h];simp[List.map_take,List.map_drop]
  have hof:=z7x (v:=n) hsv;rw[qgt];simp only[q2f,gnZ,gnT,Te.k,Te.n,Te.s,Te.l,qba,qb4,zq1,zln,q5q,if_pos hsv,hins];refine⟨fun h=>absurd h (by decide),fun _=>⟨fun h=>absurd h (by decide),fun _=>⟨fun _=>⟨fun ho=>?_,fun ho=>⟨fun ha0=>?_,fun ha0=>?_⟩⟩,fun h=>(by cases h)⟩⟩⟩
  ·split at hof
   ·rename_i hq;simp only[q67 eV hq.1,zrn,hof,q16];exact⟨⟨by omega,by omega⟩,trivial⟩
   ·rw[hof] at ho;cases ho
  ·have e:ofV all n=none:=by simpa using ho
   have hn:q6g (.mk 0 n nm []) all=1:=by
    rw[q6g,qj6 (by decide),if_pos ⟨rfl,e⟩]
   rw[if_pos ha0,hn] at hcs;have h4:¬s.mx≤s.cs.length:=by have:=hmx ha0 rfl e;omega
   have h5:s.cs.length<8796093021952:=by omega
   simp only[qfw,yf,h4,h5,decide_false,decide_true,gnF,if_false,if_true,uK,uL,uH,uJ,zq1,hins,e,ha0,true_and];exact⟨⟨by omega,by omega,by omega,by omega⟩,trivial⟩
  ·have e:ofV all n=none:=by simpa using ho
   simp only[e,if_neg ha0]
   done
 ·rw[qfp];simp[q2f,gnZ,gnT,Te.k,Te.n,Te.s,Te.l,qb4]
  done
 ·rw[zhn] at hys;have hb:qjy nm 0=false:=by simp[qjy];omega
  rw[qfn];simp[q2f,gnZ,gnT,Te.k,Te.n,Te.s,Te.l,qb4,zpe hb hys]
  done
 ·rw[zep] at hys;have hb:qjy nm (l.length:Nat)=false:=by simp[qjy];omega
  have hys0:(qd8 s.ys ⟨nm,(l.length:Nat)⟩).length≤1048576:=kC (qe9 l _) hys;have hl8:(l.length:Int)≤16777216:=by omega
  obtain⟨y1,y2,y3,y4,y5,y6⟩:=qm2 s nm (l.length:Nat);have hcn:(s.cs.length:Int)+((1+l.length+q17 l:Nat):Int)≤1048576:=by
   rw[qvn (by decide),zbf] at hcs;split at hcs<;>exact hcs
  rw[qgo,←y1];rw[←y1] at hcn;rw[←y3] at hys;have hS:=zpe (s:=s) hb hys0;have yl:s.ys.length≤(q0p s nm (l.length:Nat)).2.ys.length:=by
   rw[y3];unfold qd8;split<;>simp
  have yc:s.cs.length=(q0p s nm (l.length:Nat)).2.cs.length:=by rw[y1]
  generalize q0p s nm (l.length:Nat)=S at hS hys hcn y2 y4 y5 yl yc⊢;have hz:kN l.length (eC ⟨0,0⟩)=(kN l.length (⟨0,0⟩:Ce)).map eC:=by rw[List.map_replicate]
  simp only[q2f,gnZ,gnT,Te.k,Te.n,Te.s,Te.l,qb4,hS,z7o,uW];refine⟨fun h=>absurd h (by decide),fun _=>⟨fun h=>absurd h (by decide),fun _=>⟨fun h=>absurd h (by decide),fun _=>?_⟩⟩⟩;refine⟨⟨by omega,by omega,by omega,by omega⟩,⟨by omega,by omega⟩,⟨by omega,by omega,by simp;omega,by simp;omega⟩,?_⟩;rw[zx];refine⟨fun st=>∃(k:Nat)(al:List Vc)(s':So),k≤l.length∧st=[.i k,.r (al.map eV),eS s']∧SV al∧s'.mx=s.mx∧(s'.cs.length:Int)+(q17 (l.drop k):Int)≤1048576∧S.2.cs.length+1+l.length≤s'.cs.length∧(q15 s'.ys (l.drop k)).length≤1048576∧(s.ys.length≤s'.ys.length∧s'.tr=s.tr∧s'.wk=s.wk)∧ju (s',al) (l.drop k) (S.2.cs.length+1+k)=ju ({S.2 with cs:=S.2.cs++(⟨4,S.1⟩::kN l.length ⟨0,0⟩)},all) l (S.2.cs.length+1),fun st=>l.length - (st.getD 0 .u).int.toNat,⟨0,all,{S.2 with cs:=S.2.cs++(⟨4,S.1⟩::kN l.length ⟨0,0⟩)},uM _,?_,hsv,y2,by simp;omega,by simp;omega,hys,⟨yl,y4,y5⟩,rfl⟩,?_⟩
  ·simp only[X.evs,gnZ,gnT,Te.k,Te.n,Te.s,Te.l,qb4,hS,z7o,uW,hz,znw];simp[eS,D.fs]
  rintro st - ⟨k,al,s',hk,rfl,hsv',hmx',hc',hb',hy',⟨hyl,htr',hwk'⟩,hP⟩;rw[z8];refine⟨fun hlt=>?_,fun hlt=>?_⟩
  ·simp only[gnZ,gnT,Te.l] at hlt;have hkl:k<l.length:=by omega
   have ha:=qfs (t:=.mk 3 n nm l) hkl;simp only[Te.l] at ha;have hto:((S.2.cs.length:Int)+1+(k:Int))=((S.2.cs.length+1+k:Nat):Int):=by omega
   have hdr:=qzw hkl;rw[hdr,q17] at hc';rw[hdr,q15] at hy';rw[hdr,ju] at hP;have hsy:=kC (qe9 (l.drop (k+1)) (q38 s'.ys (l.getD k default))) hy';have hnk:=hnl.2 k hkl;simp only[Te.l] at hnk;have hQ:qix s' al (l.getD k default) ((S.2.cs.length+1+k:Nat):Int)=true:=by
    have h0:¬(((S.2.cs.length+1+k:Nat):Int)<0):=by omega
    simp only[qix,if_neg h0,gnB,gnD];exact⟨hnk,hsv',by omega,fun h=>absurd h h0,hsy,by omega⟩
   obtain⟨g1,g2,g3,g4⟩:=q45 (l.getD k default) (s',al) ((S.2.cs.length+1+k:Nat):Int) hnk hsv';rw[if_neg (by omega)] at g1;simp only[gnZ,gnT,Te.k,Te.n,Te.s,Te.l,hS,qbo hkl,hto,q3l,mT,zo5,q5q,if_pos hQ,if_pos (show szT (l.getD k default)<N by omega)];generalize zm (s',al) (l.getD k default) ((S.2.cs.length+1+k:Nat):Int)=R at g1 g2 g3 g4 hP⊢;simp only at g1;simp only[gnZ,gnT,uW,zs9];refine⟨⟨by omega,by omega⟩,⟨⟨by omega,by omega⟩,by omega,by omega⟩,⟨by omega,by omega,by rw[htr'];exact vK _,by rw[hwk'];exact vK _⟩,⟨by omega,by omega,by omega⟩,⟨by omega,by omega⟩,?_⟩;rw[jv,if_pos rfl];refine⟨⟨k+1,R.2.2,qdw R.2.1 (S.2.cs.length+1+k) R.1,by omega,by simp,g4,g3.1.trans hmx',?_,?_,?_,?_,hP⟩,?_⟩
   ·rw[q8w,g1];omega
   ·rw[q8w,g1];omega
   ·show(q15 R.2.1.ys _).length≤_
    rw[g2];exact hy'
   ·refine⟨?_,g3.2.1.trans htr',g3.2.2.1.trans hwk'⟩
    show s.ys.length≤R.2.1.ys.length
    rw[g2];exact kC hyl (qmt _ _)
   ·simp[D.int];omega
  ·simp only[gnZ,gnT,Te.l] at hlt;have:k=l.length:=by omega
   subst this;rw[List.drop_length,ju] at hP;simp only[gnZ,gnT,Te.k,Te.n,Te.s,Te.l,qb4,hS,←hP]
def qw3(s:So)(t:Te)(l:List Vc):Ce×List Vc×Int×So:=
 if yj t&&vvP s l then(if qov s t l then((zm (s,l) t (-1)).1,(zm (s,l) t (-1)).2.2,0,(zm (s,l) t (-1)).2.1) else(⟨0,0⟩,[],13,s)) else(⟨0,0⟩,[],1,s)
def zrd:List D→Option (List D)
 |[s,t,l]=>if qr (dS s) then some [eC (qw3 (dS s) (dT t) (dVs l)).1,.r ((qw3 (dS s) (dT t) (dVs l)).2.1.map eV),.i (qw3 (dS s) (dT t) (dVs l)).2.2.1,eS (qw3 (dS s) (dT t) (dVs l)).2.2.2] else none
 |_=>none
theorem qyo{s:So}(h:qr s=true):1≤s.mx∧s.mx≤1048576∧(s.cs.length:Int)≤s.mx∧s.ys.length≤1048576:=by
 have h:=qho h;simp only[q5b,q7n,gnB,gnD] at h;omega
theorem zpb{s:So}(h:qr s=true):ji .i64 (s.mx - s.cs.length)=true:=by
 obtain⟨h1,h2,h3,h4⟩:=qyo h;simp[ji];omega
theorem z55{s:So}{t:Te}{l:List Vc}(hs:qr s=true)(ht:yj t=true)(hl:vvP s l=true)(hr:qov s t l=true):qix s l t (-1)=true:=by
 obtain⟨h1,h2,h3,h4⟩:=qyo hs;simp only[yj,gnB,gnD] at ht;simp only[qov,gnB,gnD] at hr;have hv:=qv6 t s.ys [];rw[List.append_nil] at hv;have hv':=congrArg kG hv;rw[uO] at hv';simp only[qix,gnB,gnD];refine⟨ht.2,(qa9.1 hl).1,by rw[if_pos (by decide)];omega,fun _ hk he=>?_,by omega,by decide⟩;have:1≤q6g t l:=by
  unfold q6g;rw[if_pos ⟨hk,he⟩];omega
 omega
def qiz(s:So)(t:Te)(l:List Vc):Ce×List Vc×Int×So:=
 if yj t&&vvP s l then(if qki s t l then((zm (s,l) t (-1)).1,(zm (s,l) t (-1)).2.2,0,(zm (s,l) t (-1)).2.1) else(⟨0,0⟩,[],13,s)) else(⟨0,0⟩,[],1,s)
def qi2(s:So)(t:Te)(l:List Vc):Bool:= !(yj t&&vvP s l)||(decide (s.cs.length≤1048576)&&(decide (s.ys.length≤1048576)&&(!qki s t l||qix s l t (-1))))
def qoy:List D→Option (List D)
 |[s,t,l]=>if qi2 (dS s) (dT t) (dVs l) then some [eC (qiz (dS s) (dT t) (dVs l)).1,.r ((qiz (dS s) (dT t) (dVs l)).2.1.map eV),.i (qiz (dS s) (dT t) (dVs l)).2.2.1,eS (qiz (dS s) (dT t) (dVs l)).2.2.2] else none
 |_=>none
theorem qo8{s:So}(h:qr s=true)(t:Te)(l:List Vc):qiz s t l=qw3 s t l:=by
 unfold qiz qw3;rw[z5e (zpb h)]
theorem zrv{s:So}(h:qr s=true)(t:Te)(l:List Vc):qi2 s t l=true:=by
 unfold qi2;rw[z5e (zpb h)];obtain⟨h1,h2,h3,h4⟩:=qyo h;cases hv:(yj t&&vvP s l)
 ·rfl
 ·simp only[gnB] at hv;have e1:s.cs.length≤1048576:=by omega
  cases hr:qov s t l
  ·simp[e1,h4]
  ·simp[e1,h4,z55 h hv.1 hv.2 hr]
theorem qc8:FOk zu qoy:=qwz qso q8m qjv qwh qcz fun ds outs hw hg=>by
 obtain⟨d,r,rfl,hd,e,r',rfl,he,f,r2,rfl,hf,rfl⟩:=hw;obtain⟨s,rfl,hs⟩:=wfS hd;obtain⟨t,rfl,ht⟩:=wfT he;obtain⟨l,rfl,hl,hok⟩:=zjl hf;simp only[qoy,yf,jz,q5q,uD,uC] at hg;obtain⟨hv,rfl⟩:=hg;have hz:D.a [.i 0,.i 0]=eC ⟨0,0⟩:=rfl;have hQ:yj t=true→vvP s l=true→s.cs.length≤1048576∧s.ys.length≤1048576∧(qki s t l=true→qix s l t (-1)=true):=fun a b=>by
  unfold qi2 at hv;rw[a,b] at hv;simp only[vA,kA,kZ,gnB,gnD,Bool.or_eq_true,Bool.not_eq_true'] at hv;exact⟨hv.1,hv.2.1,fun c=>hv.2.2.resolve_left (by rw[c];decide)⟩
 have hgr:yj t=true→vvP s l=true→z9o [eS s,eT t,.r (l.map eV)]=some [.b (qki s t l)]:=fun a b=>by
  obtain⟨h1,h2,-⟩:=hQ a b;simp only[yj,gnB,gnD] at a;simp only[z9o,yf,jz,q5q];rw[if_pos ⟨a.2,a.1,(qa9.1 b).1,h1,h2⟩]
 simp only[qaw,gnZ,gnT,gTb,gVV,gCl,qj5,hl,hz,q5q,qiz];cases hvt:yj t
 ·simp
 cases hvl:vvP s l
 ·simp
 simp only[hgr hvt hvl];cases hrm:qki s t l
 ·simp[D.tt]
 simp[zo5,yf,jz,q5q,D.int,D.tt,(hQ hvt hvl).2.2 hrm]
theorem z0d:FOk zu zrd:=qc8.sub fun ds outs h=>by
 unfold zrd at h;split at h
 ·rename_i s t l;split at h
  ·rename_i hv;rw[qoy,if_pos (zrv hv _ _),qo8 hv];exact h
  ·cases h
 ·cases h
theorem znd{s:So}{n:Int}(h:0≤q0d s n):inS s n=true:=by
 cases hi:inS s n with
 |true=>rfl
 |false=>rw[q4i hi] at h;omega
def z0u(s:So):Nat→Ce→Ce
 |0,c=>c
 |k+1,c=>if c.t=0∧0≤q0d s c.n∧cellAt s c.n≠c then z0u s k (cellAt s c.n) else c
def jk(s:So)(c:Ce):Ce:=if vcP s c then z0u s s.cs.length c else⟨0,0⟩
def qez:List D→Option (List D)
 |[s,c]=>some [eC (jk (dS s) (dC c))]
 |_=>none
theorem q3s:FOk zk qez:=qen zh q30 fun ds outs hw hg=>by
 obtain⟨d,r,rfl,hd,e,r',rfl,he,rfl⟩:=hw;obtain⟨s,rfl,hs⟩:=wfS hd;obtain⟨c,rfl,hc⟩:=wfC he;simp only[qez,yf,q16,uC] at hg;subst hg;have hl:=hs.cs.1;simp only[q4r,gnZ,qdf,zps];refine⟨fun h=>?_,fun h=>?_⟩
 ·simp only[jk,show vcP s c=false by simpa using h];rfl
 have hvc':vcP s c=true:=by simpa using h
 rw[zx];refine⟨fun st=>∃(k:Nat)(x:Ce),k≤s.cs.length∧st=[.i k,eC x]∧z0u s (s.cs.length - k) x=jk s c,fun st=>s.cs.length - (st.getD 0 .u).int.toNat,⟨0,c,uM _,rfl,by rw[Nat.sub_zero,jk,if_pos hvc']⟩,?_⟩;rintro st - ⟨k,x,hk,rfl,hP⟩;rw[z8];refine⟨fun hlt=>?_,fun hlt=>?_⟩
 ·simp only[gnZ] at hlt;have hkl:k<s.cs.length:=by omega
  obtain⟨n,hn⟩:∃n,s.cs.length - k=n+1:=⟨s.cs.length - k - 1,by omega⟩;rw[hn] at hP;unfold z0u at hP;have hn2:s.cs.length - (k+1)=n:=by omega
  by_cases h0:x.t=0
  ·by_cases ht:0≤q0d s x.n
   ·have hin:=znd ht;have h3:=qi.1 hin;have ht':¬q0d s x.n<0:=by omega
    simp only[gnZ,qce,y7 hin,h0,ht',h3.1,h3.2];refine⟨fun hx=>?_,fun hx=>?_⟩
    ·have hx':cellAt s x.n=x:=by simpa using hx
     rw[if_neg (fun q=>q.2.2 hx')] at hP;rw[hP]
    ·have hx':cellAt s x.n≠x:=by simpa using hx
     rw[if_pos ⟨h0,ht,hx'⟩] at hP;refine⟨⟨by omega,by omega⟩,?_⟩;rw[jv,if_pos rfl];refine⟨⟨k+1,cellAt s x.n,by omega,by simp,by rw[hn2];exact hP⟩,?_⟩;simp[D.int];omega
   ·have ht':q0d s x.n<0:=by omega
    rw[if_neg (fun q=>ht q.2.1)] at hP;simp only[gnZ,qce,h0,ht',←hP];simp
  ·rw[if_neg (fun q=>h0 q.1)] at hP;simp only[gnZ,qce,h0,←hP];simp
 ·simp only[gnZ] at hlt⊢;have:k=s.cs.length:=by omega
  subst this;rw[Nat.sub_self] at hP;rw[←hP,z0u]
theorem qdl:FOk q0e (qpt inS):=z4t fun ds outs hw hg=>by
 obtain⟨d,r,rfl,hd,e,r',rfl,he,rfl⟩:=hw;obtain⟨s,rfl,hs⟩:=wfS hd;obtain⟨i,rfl,hi⟩:=wfI he;simp only[qpt,yf,j4,uC] at hg;subst hg;simp only[qe1,gnZ,inS]
theorem qdz:FOk q1g qba:=qx0 fun ds outs hw hg=>by
 obtain⟨d,r,rfl,hd,rfl⟩:=hw;obtain⟨c,rfl,hc⟩:=wfC hd;simp only[qba,q16,uC] at hg;subst hg;simp only[qb1,gnZ,jl,zqi];exact⟨fun h=>by rw[if_pos h],fun h=>by rw[if_neg h]⟩
def qfl(s:So)(c:Ce)(nm:ByteArray):Bool:=decide (c.t=3)&&(inS s c.n&&(inS s (c.n+2)&&(decide ((cellAt s c.n).t=4)&&(decide (0≤(cellAt s c.n).n)&&(decide ((cellAt s c.n).n<s.ys.length)&&decide (s.ys.getD (cellAt s c.n).n.toNat default=⟨nm,2⟩))))))
def zbt:List D→Option (List D)
 |[s,c,nm]=>if qfl (dS s) (dC c) nm.str then some [eC (cellAt (dS s) ((dC c).n+1)),eC (cellAt (dS s) ((dC c).n+2)),.b true] else some [eC ⟨0,0⟩,eC ⟨0,0⟩,.b false]
 |_=>none
variable{c:Ce}
theorem q2b{s:So}:qfl s c nm=true↔c.t=3∧inS s c.n=true∧inS s (c.n+2)=true∧(cellAt s c.n).t=4∧0≤(cellAt s c.n).n∧(cellAt s c.n).n<s.ys.length∧s.ys.getD (cellAt s c.n).n.toNat default=⟨nm,2⟩:=by
 simp only[qfl,gnB,gnD]
variable{i:Int}
theorem zau{s:So}(h0:inS s i=true)(h2:inS s (i+2)=true):inS s (i+1)=true:=by
 have:=qi.1 h0;have:=qi.1 h2;exact qi.2 ⟨by omega,by omega⟩
theorem z2t:FOk q4y zbt:=qws qdl fun ds outs hw hg=>by
 obtain⟨d,r,rfl,hd,e,r',rfl,he,f,r2,rfl,hf,rfl⟩:=hw;obtain⟨s,rfl,hs⟩:=wfS hd;obtain⟨c,rfl,hc⟩:=wfC he;obtain⟨nm,rfl,hn⟩:=hf.str;simp only[zbt,yf,q16,q7o] at hg;have ey:D.a [.s nm,.i 2]=eY ⟨nm,2⟩:=rfl;have hl:=hs.cs.1;have no:qfl s c nm=false→outs=[eC ⟨0,0⟩,eC ⟨0,0⟩,.b false]:=fun hb=>by
  rw[if_neg (by rw[hb];decide)] at hg;exact(gnI hg).symm
 have no':¬qfl s c nm=true→outs=[eC ⟨0,0⟩,eC ⟨0,0⟩,.b false]:=fun hb=>no (Bool.eq_false_iff.2 hb);simp only[qav,gnZ,qpt,ey,qb4];by_cases h3:c.t=3
 ·cases h0:inS s c.n with
  |false=>
   rw[no' fun q=>by have:=(q2b.1 q).2.1;rw[h0] at this;cases this];simp[h3]
  | true =>
   have i0:=qi.1 h0;have hr:i64 (c.n+2):=⟨by omega,by omega⟩;have hrb:=q46.2 hr;cases h2:inS s (c.n+2) with
   |false=>
    rw[no' fun q=>by have:=(q2b.1 q).2.2.1;rw[h2] at this;cases this];simp[h3,hr.1,hr.2,hrb]
   | true =>
    have i2:=qi.1 h2;have h1:=zau h0 h2;have i1:=qi.1 h1;have hr1:i64 (c.n+1):=⟨by omega,by omega⟩;have hrb1:=q46.2 hr1;by_cases h4:(cellAt s c.n).t=4
    ·by_cases hy:0≤(cellAt s c.n).n∧(cellAt s c.n).n<s.ys.length
     ·have ha:=z7r hy;have hy':¬(cellAt s c.n).n<0:=by omega
      have hy2:¬(s.ys.length:Int)≤(cellAt s c.n).n:=by omega
      by_cases hq:s.ys.getD (cellAt s c.n).n.toNat default=⟨nm,2⟩
      ·rw[if_pos (q2b.2 ⟨h3,h0,h2,h4,hy.1,hy.2,hq⟩)] at hg;have:=gnI hg;subst this;simp only[y7 h0,y7 h1,y7 h2,qt5,qxd,ha,qzq,h3,h4,hq,j4];simp[hr.1,hr.2,hr1.1,hr1.2,i0,i1,i2,hy,hrb,hrb1,hy',hy2]
      ·rw[no' fun q=>hq (q2b.1 q).2.2.2.2.2.2];simp only[y7 h0,y7 h1,y7 h2,qt5,qxd,ha,qzq,h3,h4,hq,j4];simp[hr.1,hr.2,hr1.1,hr1.2,i0,i1,i2,hy,hrb,hrb1,hy',hy2]
     ·rw[no' fun q=>hy ⟨(q2b.1 q).2.2.2.2.1,(q2b.1 q).2.2.2.2.2.1⟩];have hy':((cellAt s c.n).n<0∨(s.ys.length:Int)≤(cellAt s c.n).n)=True:=eq_true (by omega);simp only[y7 h0,qt5,qxd,h3,h4,j4];simp[hr.1,hr.2,i0,hrb];omega
    ·rw[no' fun q=>h4 (q2b.1 q).2.2.2.1];simp only[y7 h0,qt5,qxd,h3,h4,j4];simp[hr.1,hr.2,i0,h4,hrb]
 ·rw[no' fun q=>h3 (q2b.1 q).1];simp[h3]
def qf0(s:So)(c:Ce):Bool:=decide (c.t=2)&&(decide (0≤c.n)&&decide (c.n<s.ys.length))
def z18:List D→Option (List D)
 |[s,c]=>if qf0 (dS s) (dC c) then some [.s ((dS s).ys.getD (dC c).n.toNat default).name,.b true] else some [.s ⟨#[]⟩,.b false]
 |_=>none
theorem z32:FOk q4w z18:=qxp fun ds outs hw hg=>by
 obtain⟨d,r,rfl,hd,e,r',rfl,he,rfl⟩:=hw;obtain⟨s,rfl,hs⟩:=wfS hd;obtain⟨c,rfl,hc⟩:=wfC he;simp only[z18,yf,q16] at hg;simp only[qb0,gnZ];by_cases h2:c.t=2
 ·by_cases hy:0≤c.n∧c.n<s.ys.length
  ·have hb:qf0 s c=true:=by simp[qf0,h2,hy]
   rw[if_pos hb] at hg;have:=gnI hg;subst this;have hy':¬c.n<0:=by omega
   have hy2:¬(s.ys.length:Int)≤c.n:=by omega
   simp[h2,z7r hy,zdp,hy,hy',hy2]
  ·have hb:qf0 s c=false:=by
    simp only[qf0,Bool.and_eq_false_iff,decide_eq_false_iff_not];by_cases h5:0≤c.n
    ·exact .inr (.inr fun q=>hy ⟨h5,q⟩)
    ·exact .inr (.inl h5)
   rw[if_neg (by rw[hb];decide)] at hg;have:=gnI hg;subst this;have hy':c.n<0∨(s.ys.length:Int)≤c.n:=by omega
   simp[h2,hy'];omega
 ·have hb:qf0 s c=false:=by simp[qf0,h2]
  rw[if_neg (by rw[hb];decide)] at hg;have:=gnI hg;subst this;simp[h2]
def jm(s:So)(v:Ce):Ce×Bool:=if vcP s v then(if(jk s v).t=0 then(jk s v,inS s (jk s v).n) else if(jk s v).t=5 then(jk s v,inS s (jk s v).n&&inS s ((jk s v).n+2)) else(⟨0,0⟩,false)) else(⟨0,0⟩,false)
def yv:List D→Option (List D)
 |[s,v]=>some [eC (jm (dS s) (dC v)).1,.b (jm (dS s) (dC v)).2]
 |_=>none
theorem q2e:FOk qu yv:=qkj zh q3s qdl fun ds outs hw hg=>by
 obtain⟨d,r,rfl,hd,e,r',rfl,he,rfl⟩:=hw;obtain⟨s,rfl,hs⟩:=wfS hd;obtain⟨v,rfl,hv⟩:=wfC he;simp only[yv,yf,q16,uC] at hg;subst hg;have hl:=hs.cs.1;have ez:D.a [.i 0,.i 0]=eC ⟨0,0⟩:=rfl;simp only[q64,gnZ,qdf,qez,qpt,ez,jm];cases hb:vcP s v with
 |false=>simp
 | true =>
  by_cases h0:(jk s v).t=0
  ·simp[h0]
  ·by_cases h5:(jk s v).t=5
   ·cases hi:inS s (jk s v).n with
    |false=>simp[h5]
    |true=>
     have:=qi.1 hi;have hrb:ji .i64 ((jk s v).n+2)=true:=q46.2 ⟨by omega,by omega⟩;simp[h5,hrb]
   ·simp[h0,h5]
def z40(s:So)(a:Int):Bool:=decide ((cellAt s (a+2)).t=1)||(decide ((cellAt s (a+2)).t=2)||(decide ((cellAt s (a+2)).t=3)||decide (cellAt s (a+2)=⟨0,a+2⟩)))
def qvl:List D→Option (List D)
 |[s,d]=>if inS (dS s) ((dC d).n+2) then some [.b (z40 (dS s) (dC d).n)] else none
 |_=>none
theorem q7q:FOk y9 qvl:=qln fun ds outs hw hg=>by
 obtain⟨d,r,rfl,hd,e,r',rfl,he,rfl⟩:=hw;obtain⟨s,rfl,hs⟩:=wfS hd;obtain⟨c,rfl,hc⟩:=wfC he;simp only[qvl,yf,q16,uD,uC] at hg;obtain⟨hin,rfl⟩:=hg;have h1:=qi.1 hin;have hl:=hs.cs.1;have hr:i64 (c.n+2):=⟨by omega,by omega⟩;have e0:D.a [.i 0,.i (c.n+2)]=eC ⟨0,c.n+2⟩:=rfl;simp only[q5w,gnZ,y7 hin,h1,hr,e0,zcd,z40];by_cases c1:(cellAt s (c.n+2)).t=1
 ·simp[c1]
 ·by_cases c2:(cellAt s (c.n+2)).t=2
  ·simp[c2]
  ·by_cases c3:(cellAt s (c.n+2)).t=3
   ·simp[c3]
   ·simp[c1,c2,c3]
structure At where
 name:ByteArray
 val:Ce
instance:Inhabited At:=⟨⟨⟨#[]⟩,default⟩⟩
def eA(a:At):D:=.a [.s a.name,eC a.val]
def dA(d:D):At:=⟨(d.fld 0).str,dC (d.fld 1)⟩
theorem zka(a:At):dA (eA a)=a:=rfl
theorem zvj(a:At):(eA a).fld 0=.s a.name:=rfl
theorem zwq(a:At):(eA a).fld 1=eC a.val:=rfl
theorem q5h(a:At)(c:Ce):D.a ((eA a).fs.set 1 (eC c))=eA ⟨a.name,c⟩:=rfl
def At.ok(a:At):Prop:=a.name.size≤LIM∧a.val.ok
def stN(T:TypeId):TypeId:=match qm T with
 |some (.st S)=>S
 |_=>0
abbrev aS:TypeId:=stN 81
theorem tyA:qm 81=some (.st aS):=by kernel_rfl
theorem flA:flds aS=some [.str,ql]:=by kernel_rfl
theorem lmA:LM (.st aS)=4398046510976:=by kernel_rfl
theorem wfA(h:Wf d (.st aS)):∃a,d=eA a∧a.ok:=by
 obtain⟨ds,rfl,hl⟩:=h.st_of flA;obtain⟨a,b,rfl,ha,hb⟩:=z6z hl;obtain⟨x,rfl,hx⟩:=ha.str;obtain⟨y,rfl,hy⟩:=wfC hb;exact⟨⟨x,y⟩,rfl,hx,hy⟩
theorem zqx(h:Wf d (.row 81)):∃l:List At,d=.r (l.map eA)∧l.length≤4398046510976∧∀a∈l,a.ok:=by
 obtain⟨l,rfl,h1,h2⟩:=h.row_of tyA;obtain⟨m,rfl,h3⟩:=qdn (e:=eA) (P:=At.ok) fun x hx=>wfA (h2 x hx);rw[lmA,uF] at h1;exact⟨m,rfl,h1,h3⟩
def dAs(d:D):List At:=d.rs.map dA
theorem z9(l:List At):dAs (.r (l.map eA))=l:=map_id' zka l
def q5x(l:List At)(nm:ByteArray):Int:=match l.findIdx? fun a=>decide (a.name=nm) with
 |some i=>i
 |none=> -1
def zrx:List D→Option (List D)
 |[a,nm]=>some [.b (decide ((dA a).name=nm.str))]
 |_=>none
theorem qui:FOk q1p zrx:=qq1 fun ds outs hw hg=>by
 obtain⟨d,r,rfl,hd,e,r',rfl,he,rfl⟩:=hw;obtain⟨a,rfl,ha⟩:=wfA hd;obtain⟨nm,rfl,hn⟩:=he.str;simp only[zrx,zka,q7o,uC] at hg;subst hg;simp only[q83,gnZ,zvj]
 congr 2
def j9:List D→Option (List D)
 |[l,nm]=>some [.i (q5x (dAs l) nm.str)]
 |_=>none
theorem q9d:FOk zf j9:=q84 qui fun ds outs hw hg=>by
 obtain⟨d,r,rfl,hd,e,r',rfl,he,rfl⟩:=hw;obtain⟨l,rfl,hl,hlo⟩:=zqx hd;obtain⟨nm,rfl,hn⟩:=he.str;simp only[j9,z9,q7o,uC] at hg;subst hg;rw[q0r,zx];refine⟨fun st=>∃k:Nat,k≤l.length∧st=[.i 0,.i k]∧∀j,j<k→(l.getD j default).name≠nm,fun st=>l.length - (st.getD 1 .u).int.toNat,⟨0,uM _,rfl,fun j hj=>absurd hj (uU _)⟩,?_⟩;rintro st - ⟨k,hk,rfl,hP⟩;rw[z8];refine⟨fun hlt=>?_,fun hlt=>?_⟩
 ·simp only[gnZ] at hlt;have hkl:k<l.length:=by omega
  simp only[gnZ,q67 eA hkl,zrx,zka];refine⟨⟨by omega,by omega⟩,fun hx=>?_,fun hx=>⟨⟨by omega,by omega⟩,?_⟩⟩
  ·have hf:(l.findIdx? fun a=>decide (a.name=nm))=some k:=by
    rw[List.findIdx?_eq_some_iff_getElem];refine⟨hkl,?_,fun j hj=>?_⟩
    ·have e:l.getD k default=l[k]:=by rw[gnG,gnK hkl];rfl
     rw[e] at hx
     first|exact hx|simpa using hx
    ·have:=hP j hj;rw[gnG,gnK (by omega)] at this;simpa using this
   rw[q5x,hf]
  ·rw[jv,if_pos rfl];refine⟨⟨k+1,by omega,by simp,q3t hP (by simpa using hx)⟩,?_⟩;simp[D.int];omega
 ·simp only[gnZ] at hlt⊢;have:k=l.length:=by omega
  subst this;have hf:(l.findIdx? fun a=>decide (a.name=nm))=none:=by
   rw[List.findIdx?_eq_none_iff];intro a ha;obtain⟨j,hj,rfl⟩:=List.getElem_of_mem ha;have:=hP j hj;rw[gnG,gnK hj] at this;simpa using this
  rw[q5x,hf]
theorem qad:FOk yr j9:=qwl q9d fun ds outs hw hg=>by
 obtain⟨d,r,rfl,hd,e,r',rfl,he,rfl⟩:=hw;obtain⟨l,rfl,hl,hlo⟩:=zqx hd;obtain⟨nm,rfl,hn⟩:=he.str;simp only[j9,z9,q7o,uC] at hg;subst hg;simp only[qb8,gnZ,j9,z9]
def qa6(s:So)(a:Int)(c:Ce):Int×So:=if q5d vcP q41 s a c then(0,q3v s a c) else(1,s)
def qbw(s:So):Bool:=decide (s.tr.length<5864062014634)&&decide (s.wk.length<3518437208780)
theorem qhi{s:So}(hr:qbw s=true)(a:Int)(c:Ce):z6i vcP q41 [eS s,.i a,eC c]=some [.i (qa6 s a c).1,eS (qa6 s a c).2]:=by
 simp only[qbw,gnB,gnD] at hr;simp only[z6i,yf,q16,j4,qa6,decide_eq_true hr.1,if_true];split<;>rfl
theorem zn2(s:So)(a:Int)(c:Ce):(qa6 s a c).2.wk=s.wk:=by
 unfold qa6;split<;>rfl
def qop(s:So)(x c:Ce):Int×So:=if(qa6 s x.n c).1=0 then(0,{(qa6 s x.n c).2 with wk:=s.wk++[⟨(cellAt s (x.n+1)).n,cellAt s (x.n+2),jl c⟩]}) else qa6 s x.n c
def qy8(s:So)(x:Ce):Bool:=inS s (x.n+1)&&(inS s (x.n+2)&&qbw s)
def z8l:List D→Option (List D)
 |[s,x,c]=>if qy8 (dS s) (dC x) then some [.i (qop (dS s) (dC x) (dC c)).1,eS (qop (dS s) (dC x) (dC c)).2] else none
 |_=>none
theorem zra(s:So)(l:List Wk)(w:Wk):D.a ((eS s).fs.set 3 (.r (l.map eW++[eW w])))=eS {s with wk:=l++[w]}:=by simp[eS,D.fs]
theorem z3f:FOk q1e z8l:=qiv qdz q3h fun ds outs hw hg=>by
 obtain⟨d,r,rfl,hd,e,r',rfl,he,f,r2,rfl,hf,rfl⟩:=hw;obtain⟨s,rfl,hs⟩:=wfS hd;obtain⟨x,rfl,hx⟩:=wfC he;obtain⟨c,rfl,hc⟩:=wfC hf;simp only[z8l,yf,q16,uD,uC] at hg;obtain⟨hq,rfl⟩:=hg;simp only[qy8,gnB] at hq;obtain⟨h1,h2,hr⟩:=hq;have i1:=qi.1 h1;have i2:=qi.1 h2;have hl:=hs.cs.1;have rb1:ji .i64 (x.n+1)=true:=q46.2 ⟨by omega,by omega⟩;have rb2:ji .i64 (x.n+2)=true:=q46.2 ⟨by omega,by omega⟩;have hr':=hr;simp only[qbw,gnB,gnD] at hr';have hwk:=zn2 s x.n c;have hle:s.wk.length+1≤3518437208780:=by omega
 have ew:D.a [.i (cellAt s (x.n+1)).n,eC (cellAt s (x.n+2)),eC (jl c)]=eW ⟨(cellAt s (x.n+1)).n,cellAt s (x.n+2),jl c⟩:=rfl;have b1: -9223372036854775808≤x.n+1∧x.n+1≤9223372036854775807:=⟨by omega,by omega⟩;have b2: -9223372036854775808≤x.n+2∧x.n+2≤9223372036854775807:=⟨by omega,by omega⟩;simp only[q6t,gnZ,qba,qhi hr,y7 h1,y7 h2,ew,b1,b2,i1,i2,hwk,zra];refine⟨fun h=>?_,fun h=>?_⟩
 ·have h0:¬(qa6 s x.n c).1=0:=by simpa using h
  rw[qop,if_neg h0]
 ·have h0:(qa6 s x.n c).1=0:=by simpa using h
  rw[qop,if_pos h0];exact⟨by omega,rfl⟩
def orI:List Int→Int
 |[]=>0
 |x::l=>if x=0 then orI l else x
def gOr:List D→Option (List D)
 |[l]=>some [.i (orI (l.rs.map D.int))]
 |_=>none
theorem z6g:∀{l:List Int}{k:Nat},k<l.length→(∀j,j<k→l.getD j 0=0)→orI l=orI (l.drop k)
 |[],k,h,_=>by simp at h
 |x::l,0,h,_=>rfl
 |x::l,k+1,h,hz=>by
  have h0:x=0:=by simpa using hz 0 (by omega)
  rw[orI,if_pos h0,List.drop_succ_cons];exact z6g (by simpa using h) fun j hj=>by simpa using hz (j+1) (by omega)
theorem z4h:∀{l:List Int},(∀j,j<l.length→l.getD j 0=0)→orI l=0
 |[],_=>rfl
 |x::l,h=>by
  have h0:x=0:=by simpa using h 0 (by simp)
  rw[orI,if_pos h0];exact z4h fun j hj=>by simpa using h (j+1) (by simpa using hj)
variable{E:TypeId}
theorem zx7(hE:qm E=some (.int .i64))(h:Wf d (.row E)):∃l:List Int,d=.r (l.map D.i)∧l.length≤LM (.int .i64)∧∀x∈l,i64 x:=by
 obtain⟨l,rfl,h1,h2⟩:=h.row_of hE;obtain⟨m,rfl,h3⟩:=qdn (e:=D.i) (P:=i64) fun x hx=>wfI (h2 x hx);rw[uF] at h1;exact⟨m,rfl,h1,h3⟩
theorem lmI:LM (.int .i64)=17592186043904:=by kernel_rfl
theorem zuk{l:List Int}{k:Nat}(h:k<l.length):(D.r (l.map D.i)).get (k:Int)=.i (l.getD k 0):=by
 show(l.map D.i).getD (k:Int).toNat .u=_
 simp[gnG,h]
theorem qip:FOk q19 gOr:=qth fun ds outs hw hg=>by
 obtain⟨d,r,rfl,hd,rfl⟩:=hw;obtain⟨l,rfl,hl,hlo⟩:=zx7 rfl hd;rw[lmI] at hl;have hm:(l.map D.i).map D.int=l:=by
  rw[vZ];have:D.int ∘ D.i=id:=funext fun _=>rfl;rw[this,List.map_id]
 simp only[gOr,q7i,hm,uC] at hg;subst hg;rw[q9s,zx];refine⟨fun st=>∃k:Nat,k≤l.length∧st=[.i 0,.i k]∧∀j,j<k→l.getD j 0=0,fun st=>l.length - (st.getD 1 .u).int.toNat,⟨0,uM _,rfl,fun j hj=>absurd hj (uU _)⟩,?_⟩;rintro st - ⟨k,hk,rfl,hP⟩;rw[z8];refine⟨fun hlt=>?_,fun hlt=>?_⟩
 ·simp only[gnZ] at hlt;have hkl:k<l.length:=by omega
  have hd:orI l=orI (l.drop k):=z6g hkl hP;have he:l.drop k=l.getD k 0::l.drop (k+1):=by
   rw[uQ hkl];simp[gnG,hkl]
  simp only[gnZ,zuk hkl];refine⟨⟨by omega,by omega⟩,fun hx=>?_,fun hx=>⟨⟨by omega,by omega⟩,?_⟩⟩
  ·have hx':¬l.getD k 0=0:=by simpa using hx
   rw[hd,he,orI,if_neg hx']
  ·have hx':l.getD k 0=0:=by simpa using hx
   rw[jv,if_pos rfl];refine⟨⟨k+1,by omega,by simp,q3t hP hx'⟩,?_⟩;simp[D.int];omega
 ·simp only[gnZ] at hlt⊢;have:k=l.length:=by omega
  subst this;rw[z4h hP]
def zsa(x y:Int):Int:=if x<y then -1 else if y<x then 1 else 0
def z21(s:So)(d t:Ce):Int:=orI [zsa (cellAt s (d.n+1)).n (cellAt s (t.n+1)).n,zsa d.n t.n]
def q9n(s:So)(v to:Ce):Int×So:=
 if(jm s v).2&&(decide ((jm s v).1.t=5)&&vcP s to) then
  (if jk s to=(jm s v).1 then(0,s) else if(jk s to).t=0 then qa6 s (jk s to).n (jm s v).1 else if(jk s to).t=5 then
   (if inS s (jk s to).n&&inS s ((jk s to).n+2) then(if 0<z21 s (jm s v).1 (jk s to) then qop s (jm s v).1 (jk s to) else qop s (jk s to) (jm s v).1) else(1,s))
   else qop s (jm s v).1 (jk s to))
 else(1,s)
def qrp:List D→Option (List D)
 |[s,v,to]=>if qbw (dS s) then some [.i (q9n (dS s) (dC v) (dC to)).1,eS (q9n (dS s) (dC v) (dC to)).2] else none
 |_=>none
theorem zmo{s:So}{v:Ce}(h:(jm s v).2=true)(h5:(jm s v).1.t=5):inS s (jm s v).1.n=true∧inS s ((jm s v).1.n+2)=true:=by
 unfold jm at h h5⊢;cases hb:vcP s v with
 |false=>rw[hb] at h;simp at h
 | true =>
  rw[hb] at h h5;simp only[if_true] at h h5⊢;by_cases h0:(jk s v).t=0
  ·rw[if_pos h0] at h5;rw[h0] at h5;cases h5
  ·rw[if_neg h0] at h h5⊢;by_cases h5':(jk s v).t=5
   ·rw[if_pos h5'] at h⊢;simpa using h
   ·rw[if_neg h5'] at h;cases h
theorem z34:FOk q1h qrp:=qir q2e zh q3s q3h z3f qdl q31 qip fun ds outs hw hg=>by
 obtain⟨d,r,rfl,hd,e,r',rfl,he,f,r2,rfl,hf,rfl⟩:=hw;obtain⟨s,rfl,hs⟩:=wfS hd;obtain⟨v,rfl,hv⟩:=wfC he;obtain⟨to,rfl,hto⟩:=wfC hf;simp only[qrp,yf,q16,uD,uC] at hg;obtain⟨hr,rfl⟩:=hg;have hl:=hs.cs.1;have hor:∀x y:Int,gOr [.r [.i x,.i y]]=some [.i (orI [x,y])]:=fun _ _=>rfl;have hcm:∀x y:Int,zdb [.i x,.i y]=some [.i (zsa x y)]:=fun _ _=>rfl;simp only[q6v,gnZ,yv,qdf,qez,qpt,qhi hr,hor,hcm,z8l,q9n];cases hk:(jm s v).2 with
 |false=>simp
 |true=>
 by_cases h5:(jm s v).1.t=5
 case neg=>simp[h5]
 obtain⟨q0,q2⟩:=zmo hk h5;generalize jm s v=V at *;obtain⟨x,ok⟩:=V;simp only at h5 q0 q2 hk⊢;subst hk;have q1:=zau q0 q2;have j0:=qi.1 q0;have j1:=qi.1 q1;have j2:=qi.1 q2;have rx1:ji .i64 (x.n+1)=true:=q46.2 ⟨by omega,by omega⟩;have hbx:qy8 s x=true:=by simp only[qy8,q1,q2,hr,vA]
 cases hvt:vcP s to with
 |false=>simp[h5]
 |true=>
 generalize jk s to=t at *;by_cases e0:t=x
 ·subst e0;simp[h5]
 by_cases t0:t.t=0
 ·simp[h5,e0,t0]
 by_cases t5:t.t=5
 case neg=>simp[h5,e0,t0,t5,hbx]
 cases p0:inS s t.n with
 |false=>simp[h5,e0,t5]
 |true=>
 have k0:=qi.1 p0;have rt2:ji .i64 (t.n+2)=true:=q46.2 ⟨by omega,by omega⟩;cases p2:inS s (t.n+2) with
 |false=>simp[h5,e0,t5,rt2]
 |true=>
 have p1:=zau p0 p2;have k1:=qi.1 p1;have k2:=qi.1 p2;have rt1:ji .i64 (t.n+1)=true:=q46.2 ⟨by omega,by omega⟩;have hbt:qy8 s t=true:=by simp only[qy8,p1,p2,hr,vA]
 simp only[y7 q1,y7 p1,qxd,j4,hbx,hbt];by_cases hlt:0<z21 s x t
 ·have hlt':=hlt;unfold z21 at hlt';simp[h5,e0,t5,rt2,rt1,rx1,hlt,hlt',hcm,hor,j1,k1,hbx,hbt];exact⟨⟨⟨by omega,by omega⟩,by omega,by omega⟩,fun q=>absurd hlt' (jG.2 q)⟩
 ·have hlt':=hlt;unfold z21 at hlt';simp[h5,e0,t5,rt2,rt1,rx1,hlt,hlt',hcm,hor,j1,k1,hbx,hbt];exact⟨⟨⟨by omega,by omega⟩,by omega,by omega⟩,fun q=>absurd q hlt'⟩
variable{P:Program}{a:Act}{Q:Exit→Act→World→Prop}{ops:Array Oper}{ann:Ann}{K:Act→World→Prop}{kill:List Nat}
section
theorem z3r{F:Fence}{n:Nat}{o:Oper}{next next':Act→World→Prop}{Q':Exit→Act→World→Prop}{r:Result Next}(hn:∀a w,next a w→next' a w)(hp:∀ch a w,Q (.panic ch) a w→Q' (.panic ch) a w)(ho:LetsOut Q→LetsOut Q')(h:o.uponIn F n P a next Q r):o.uponIn F n P a next' Q' r:=by
 cases r with
 | ok x w' =>
  cases x with
  |value v=>exact hn _ _ h
  |skip=>exact hn _ _ h
  |defer d=>exact hn _ _ h
  |enter f args=>
   refine⟨h.1,h.2.1,fun cs hr=>?_⟩;obtain⟨e,w2,fr,hR,rest⟩:=h.2.2 cs hr;refine⟨e,w2,fr,?_,rest⟩;cases e with
   |returned v=>exact hn _ _ hR
   |panicked ch=>exact hp _ _ _ hR
   |outgrown=>exact ho hR
  |row row args=>exact⟨h.1,h.2.mono fun v w2 hR=>hn _ _ hR⟩
  |round l f tmps assign body=>
   refine⟨h.1,h.2.mono fun e w2 hR=>?_⟩;cases e with
   |returned v=>exact hn _ _ hR
   |panicked ch=>exact hp _ _ _ hR
   |outgrown=>exact ho hR
  |_=>exact h.elim
 |halt x w'=>
  cases x with
  |panic v=>exact hp _ _ _ h
  |_=>exact h.elim
theorem qe0{F:Fence}{n:Nat}:∀(l m:List Oper){a:Act}{w:World},wpListIn F n P ops (Exit.then (wpListIn F n P ops Q m) Q) l a w→wpListIn F n P ops Q (l++m) a w
 |[],m,a,w,h=>h
 | o :: l, m, a, w, h => by
  show wpListIn F n P ops Q (o::(l++m)) a w
  unfold wpListIn at h⊢;split
  ·rename_i hw;rw[if_pos hw] at h;exact⟨h.1,z3r (fun a w h=>qe0 l m h) (fun ch a w h=>h) (fun h=>h) h.2⟩
  ·rename_i hw;rw[if_neg hw] at h;exact⟨h.1,qe0 l m h.2⟩
def qat(F:Fence)(n:Nat)(P:Program)(Q:Exit→Act→World→Prop):List Code→(Act→World→Prop)→Act→World→Prop
 |[],K=>K
 |x::xs,K=>fun a w=>x.wpIn F n P (Exit.then (qat F n P Q xs K) Q) a w
def seqs:List Code→Code→Code
 |[],y=>y
 |x::xs,y=>.seq x (seqs xs y)
theorem q2g{F:Fence}{n:Nat}:∀(xs:List Code){y:Code}{a:Act}{w:World},qat F n P Q xs (fun a w=>y.wpIn F n P Q a w) a w→(seqs xs y).wpIn F n P Q a w
 |[],y,a,w,h=>h
 | x :: xs, y, a, w, h => wpIn_seq (wpIn_mono h fun e a w hq => by
   cases e with
   |normal=>exact q2g xs hq
   |_=>exact hq)
theorem qcx{F:Fence}{n:Nat}:∀(xs ys:List Code){K:Act→World→Prop}{a:Act}{w:World},qat F n P Q (xs++ys) K a w→qat F n P Q xs (qat F n P Q ys K) a w
 |[],ys,K,a,w,h=>h
 | x :: xs, ys, K, a, w, h => wpIn_mono h fun e a w hq => by
   cases e with
   |normal=>exact qcx xs ys hq
   |_=>exact hq
theorem q7z{F:Fence}{n:Nat}{Q':Exit→Act→World→Prop}(hQ:∀e a w,e≠.normal→Q e a w→Q' e a w):∀(xs:List Code){K K':Act→World→Prop}(hK:∀a w,K a w→K' a w){a:Act}{w:World},qat F n P Q xs K a w→qat F n P Q' xs K' a w
 |[],K,K',hK,a,w,h=>hK _ _ h
 | x :: xs, K, K', hK, a, w, h => wpIn_mono h fun e a w hq => by
   cases e with
   |normal=>exact q7z hQ xs hK hq
   |exit i=>exact hQ _ _ _ (by simp) hq
   |ret=>exact hQ _ _ _ (by simp) hq
   |goto i=>exact hQ _ _ _ (by simp) hq
   |panic ch=>exact hQ _ _ _ (by simp) hq
   |outgrown=>exact hQ _ _ _ (by simp) hq
section
variable{c:Cx}{p:qj}{w w0:World}{S0:Nat→Prop}{a:Act}{σ σ':St}{d:List Deferred}{z:Nat}{tbl:Tbl}
theorem qbh(ro:Option Nat)(nn:Nat)(htb:q0v tbl)(hfm:∀te,c.F.mx te≤flM tbl te)(hnp:q9v tbl=true){R:List D→Prop}:∀(xs:List Code){n:Nat}{σ:St}{k:Nat→ResD→St→Tree}{l:List D}{B:Nat→List D→Prop}{p:qj}{w:World}{a:Act},
  (q65 uA tbl ann c.lo z xs n σ k).go (qf tbl) R l B→l.length=n→Bs c.A c.F w0 S0 p w→SF (c.at (qf tbl) l) σ p w a→a.defers=d→a.tmps.size=z→
  (∀n' r σ' l' B' p' w' a',l'.length=n'→l'.take n=l→(k n' r σ').go (qf tbl) R l' B'→Bs c.A c.F w0 S0 p' w'→SF (c.at (qf tbl) l') σ' p' w' a'→a'.defers=d→a'.tmps.size=z→Exit.then K Q r.exit' a' w')→qat (FR ro) nn uA Q xs K a w
 |[],n,σ,k,l,B,p,w,a,h,hl,hb,hf,hd,hz,hk=>hk n .normal σ l B p w a hl (by rw[←hl];exact vO) h hb hf hd hz
 | x :: xs, n, σ, k, l, B, p, w, a, h, hl, hb, hf, hd, hz, hk => by
  refine qod ro nn htb hfm x h hl hb hf hd hz (q5t hnp) (qkg hnp) fun n' r σ' l' B' p' w' a' hl' hpre _ hgo hb' hf' hd' hz'=>?_;have hnn:n≤n':=by
   have:=congrArg kG hpre;simp at this;omega
  cases r with
  |normal=>exact qbh ro nn htb hfm hnp xs hgo hl' hb' hf' hd' hz' fun n2 r2 σ2 l2 B2 p2 w2 a2 h1 h2=>hk n2 r2 σ2 l2 B2 p2 w2 a2 h1 (by rw[←hpre,←h2,List.take_take,Nat.min_eq_left hnn])
  |ret=>exact hk n' .ret σ' l' B' p' w' a' hl' hpre hgo hb' hf' hd' hz'
  |exit i=>exact hk n' (.exit i) σ' l' B' p' w' a' hl' hpre hgo hb' hf' hd' hz'
def qqp(ts ms:List Item)(kill:List Nat)(σk:St):Nat→ResD→St→Tree:=fun _ r σ=>match r with
 |.normal=>(match conv ts ms (σ.drop kill) with
  |some (σc,va,vb)=>if covers σc σk then .leaf (va++vb) else .bad 1
  |none=>.need (zai (σ.drop kill) ts ms) (.bad 2))
 |.ret=>.leaf []
 |.exit i=>.leaf [.lit (.i (jH i))]
theorem z9z{ts ms:List Item}{σk σc:St}{va vb:List X}{l:List D}(h:conv ts ms (σ.drop kill)=some (σc,va,vb))(hcov:covers σc σk=true)(hb:Bs c.A c.F w0 S0 p w)(hf:SF (c.at (qf tbl) l) σ p w a):
  ∃p',Bs c.A c.F w0 S0 p' w∧SF (c.at (qf tbl) l) σk p' w a∧ItT c.snap c.A p' w a ts (X.evs (evl (qf tbl) l) va)∧ItM c.A p' w ms (X.evs (evl (qf tbl) l) vb):=by
 have hf2:=SF.un (c:=c.at (qf tbl) l) (q:=qh1 kill σ) hb.inj hb.pa hf;have hb2:=hb.un (qh1 kill σ);change SF _ (σ.drop kill) _ _ _ at hf2;unfold conv at h
 split at h
 ·rename_i hrb;split at h
  ·rename_i wa wb hwa hwb;simp only[gnS] at h;obtain⟨rfl,rfl,rfl⟩:=h;obtain⟨p3,hb3,hf3⟩:=qno (c:=c.at (qf tbl) l) hrb hb2 hf2;exact⟨p3,hb3,q3a hcov hf3,z5v hf3 hwa,z6m hf3 hwb⟩
  ·cases h
 ·cases h
theorem z5z{ts ms:List Item}{σ σc:St}{va vb:List X}(h:conv ts ms σ=some (σc,va,vb)):va.length=ts.length∧vb.length=ms.length:=by
 unfold conv at h
 split at h
 ·split at h
  ·rename_i wa wb hwa hwb;simp only[gnS] at h;obtain⟨-,rfl,rfl⟩:=h;exact⟨qkf hwa,qkf hwb⟩
  ·cases h
 ·cases h
theorem qud(ro:Option Nat)(nn:Nat)(htb:q0v tbl)(hfm:∀te,c.F.mx te≤flM tbl te)(hnp:q9v tbl=true){R:List D→Prop}(xs:List Code){n:Nat}{ts ms:List Item}{σk:St}{l:List D}{B:Nat→List D→Prop}
  (h:(q65 uA tbl ann c.lo z xs n σ (qqp ts ms kill σk)).go (qf tbl) R l B)(hl:l.length=n)(hb:Bs c.A c.F w0 S0 p w)(hf:SF (c.at (qf tbl) l) σ p w a)(hd:a.defers=d)(hz:a.tmps.size=z)
  (hk:∀st p' w' a',R st→st.length=ts.length+ms.length→Bs c.A c.F w0 S0 p' w'→SF (c.at (qf tbl) (l++st)) (q33 ts ms n (q28 ts ms kill n σk)) p' w' a'→a'.defers=d→a'.tmps.size=z→K a' w')
  (ho:∀p' w' a',R []→Bs c.A c.F w0 S0 p' w'→a'.defers=d→a'.tmps.size=z→Q .ret a' w')
  (he:∀i p' w' a',R [.i (jH i)]→Bs c.A c.F w0 S0 p' w'→a'.defers=d→a'.tmps.size=z→Q (.exit i) a' w'):qat (FR ro) nn uA Q xs K a w:=by
 refine qbh ro nn htb hfm hnp xs h hl hb hf hd hz fun n' r σ' l' B' p' w' a' hl' hpre hgo hb' hf' hd' hz'=>?_;cases r with
 |ret=>exact ho p' w' a' hgo hb' hd' hz'
 |exit i=>exact he i p' w' a' hgo hb' hd' hz'
 | normal =>
  simp only[qqp] at hgo;split at hgo
  ·rename_i σc va vb hcv;split at hgo
   ·rename_i hcov;obtain⟨p2,hb2,hf2,h1,h2⟩:=z9z (c:=c) hcv hcov hb' hf';obtain⟨q1,q2⟩:=z5z hcv;have hR:R (X.evs (evl (qf tbl) l') (va++vb)):=hgo;rw[qdm] at hR;have hnl:n≤l'.length:=by
     have:=congrArg kG hpre;simp at this;omega
    refine hk _ p2 w' a' hR (by simp[qhp,q1,q2]) hb2 ?_ hd' hz';refine qro (c:=c.at (qf tbl) l') (c':=c.at (qf tbl) (l++_)) rfl rfl ⟨rfl,rfl,rfl⟩ (fun k hk=>?_) (fun i hi=>?_) (ql4 hf2) h1 h2
    ·show l'.getD k .u=(l++_).getD k .u
     simp only[gnG];rw[uE (by omega),←hpre,List.getElem?_take_of_lt hk]
    ·show(l++_).getD (n+i) .u=_
     simp only[gnG];rw[uI (by omega)]
     congr 2
     omega
   ·exact hgo.elim
  ·exact hgo.2.elim
end
end
def q5k(s:So)(c:Ce):Option (ByteArray×Ce×Ce):=
 if qfl s (jk s c) ⟨#[46]⟩ then
  (if qfl s (jk s (cellAt s ((jk s c).n+1))) ⟨#[45]⟩ then
   (if qf0 s (jk s (cellAt s ((jk s (cellAt s ((jk s c).n+1))).n+1))) then
    some ((s.ys.getD (jk s (cellAt s ((jk s (cellAt s ((jk s c).n+1))).n+1))).n.toNat default).name,cellAt s ((jk s c).n+2),cellAt s ((jk s (cellAt s ((jk s c).n+1))).n+2))
    else none) else none) else none
def hasB(met:List ByteArray)(nm:ByteArray):Bool:=met.any fun x=>decide (x=nm)
def q3x(s:So):Nat→Ce→List ByteArray→List At
 |0,_,_=>[]
 |k+1,c,met=>match q5k s c with
  |none=>[]
  |some (nm,tl,vl)=>(if hasB met nm then[] else[⟨nm,jl (jk s vl)⟩])++q3x s k tl (nm::met)
def yz(s:So)(c:Ce):List At:=q3x s s.cs.length c []
def sqL:Code→Code
 |.seq x _=>x
 |c=>c
def sqR:Code→Code
 |.seq _ y=>y
 |c=>c
def bkC:Code→Code
 |.block _ c=>c
 |c=>c
def lpC:Code→Code
 |.loop c=>c
 |c=>c
noncomputable def itC:Code:=match vB.body with
 |some c=>c
 |none=>.skip
noncomputable def itR:Code:=lpC (bkC (sqR (sqR itC)))
noncomputable def itB:Code:=bkC (sqL (sqR (sqR itR)))
noncomputable def it1:List Code:=[sqL itC,sqL (sqR itC)]
noncomputable def z5f:List Code:=[sqL itR,sqL (sqR itR)]
noncomputable def z8m:List Code:=[sqL itB,sqL (sqR itB),sqL (sqR (sqR itB)),sqL (sqR (sqR (sqR itB))),sqL (sqR (sqR (sqR (sqR itB)))),sqL (sqR (sqR (sqR (sqR (sqR itB)))))]
noncomputable def itY:Code:=sqL (sqR (sqR (sqR (sqR (sqR (sqR itB))))))
noncomputable def it3:List Code:=[sqL (sqR (sqR (sqR (sqR (sqR (sqR (sqR itB))))))),sqR (sqR (sqR (sqR (sqR (sqR (sqR (sqR itB)))))))]
noncomputable def it4:List Code:=[sqR (sqR (sqR itR))]
noncomputable def itO:List Oper:=match sqL itY with
 |.region _ ops _=>ops.toList
 |_=>[]
abbrev mpT:Ty:=.map 9 4
abbrev q2y:Tbl:=[(zk,qez),(q4y,zbt),(q4w,z18),(q1g,qba)]
theorem qbs:q0v q2y:=.cons q3s (.cons z2t (.cons z32 (.cons qdz .nil)))
def z2o:Ann:=⟨[0,1,2,4,5,6,7,8,9,10,14,15,16,27,38,48,62],[]⟩
def sA:St:=⟨[(0,.sn 0 .any),(1,.sn 1 (.rd (.tok 0) qe [] none)),(2,.sn 2 .any)],[]⟩
def sA':St:=⟨[(0,.sn 0 .any),(1,.sn 1 (.rd (.tok 0) qe [] none)),(2,.sn 2 .any),(14,.v (.len (.fld (.tok 0) 0)) (.int .i64) [] [])],[]⟩
abbrev iA:List Item:=[(4,mpT,[(0,65)],[]),(15,.int .i64,[],[])]
def sH:St:=⟨[(0,.sn 0 .any),(1,.sn 1 (.rd (.tok 0) qe [] none)),(2,.ref 2 [] 0 ql),(4,.sn 4 (.v (.tok 2) mpT [(0,65)] [])),(14,.v (.len (.fld (.tok 0) 0)) (.int .i64) [] []),(15,.v (.tok 3) (.int .i64) [] [])],[(2,⟨.tok 1,ql,[],[]⟩)]⟩
def sB:St:=⟨[(0,.sn 0 .any),(1,.sn 1 (.rd (.tok 0) qe [] none)),(2,.ref 2 [] 0 ql),(4,.sn 4 (.v (.tok 2) mpT [(0,65)] [])),(6,.ref 6 [] 0 ql),(9,.ref 9 [] 0 ql),(14,.v (.len (.fld (.tok 0) 0)) (.int .i64) [] []),(15,.v (.tok 3) (.int .i64) [] [])],[(2,⟨.tok 1,ql,[],[]⟩)]⟩
abbrev iBt:List Item:=[(10,.str,[],[])]
abbrev iBm:List Item:=[(6,ql,[],[]),(9,ql,[],[])]
def sY:St:=⟨[(10,.v (.tok 4) .str [] []),(0,.sn 0 .any),(1,.sn 1 (.rd (.tok 0) qe [] none)),(2,.ref 2 [] 0 ql),(4,.sn 4 (.v (.tok 2) mpT [(0,65)] [])),(6,.ref 6 [] 0 ql),(9,.ref 9 [] 0 ql),(14,.v (.len (.fld (.tok 0) 0)) (.int .i64) [] []),(15,.v (.tok 3) (.int .i64) [] [])],[(6,⟨.tok 5,ql,[],[]⟩),(9,⟨.tok 6,ql,[],[]⟩),(2,⟨.tok 1,ql,[],[]⟩)]⟩
def sP:St:=⟨[(0,.sn 0 .any),(1,.sn 1 (.rd (.tok 0) qe [] none)),(2,.ref 2 [] 0 ql),(4,.sn 4 (.v (.tok 2) mpT [(0,65)] [])),(6,.rd (.tok 5) ql [] none),(10,.v (.tok 4) .str [] []),(14,.v (.len (.fld (.tok 0) 0)) (.int .i64) [] []),(15,.v (.tok 3) (.int .i64) [] [])],[(2,⟨.tok 1,ql,[],[]⟩)]⟩
def sP':St:=⟨[(0,.sn 0 .any),(1,.sn 1 (.rd (.tok 0) qe [] none)),(2,.ref 2 [] 0 ql),(14,.v (.len (.fld (.tok 0) 0)) (.int .i64) [] [])],[]⟩
abbrev iPt:List Item:=[(4,mpT,[(0,65)],[SNK]),(15,.int .i64,[],[])]
abbrev iPm:List Item:=[(2,ql,[],[])]
def sYt:St:=⟨(54,.sn 0 .any)::(53,.v (.lit (.b true)) .bool [] [])::sY.t,sY.m⟩
def sYf:St:=⟨(53,.v (.lit (.b false)) .bool [] [])::sY.t,sY.m⟩
def sYz:St:=⟨(60,.v (.tok 6) .bool [] [])::(53,.v (.lit (.b true)) .bool [] [])::sP.t,sP.m⟩
def zuu:Tree:=(.leaf [(.lit (.mp [])),(.lit (.i 0))])
theorem zor:q65 uA q2y z2o 3 67 it1 1 sA (qqp iA [] [] sA')=zuu:=by kernel_rfl
def zqv:Tree:=
 let b:X:=.tok 0
 let e:X:=.lit (.s ⟨#[46]⟩)
 let f:X:=.lit (.s ⟨#[45]⟩)
 let d:X:=.call 0 0 [b,(.tok 1)]
 let h:X:=.ok 0 [b,(.tok 1)]
 let a:X:=.call 1 0 [b,d,e]
 let g:X:=.call 0 0 [b,a]
 let j:X:=.ok 0 [b,a]
 let c:X:=.call 1 0 [b,g,f]
 let i:X:=.call 0 0 [b,c]
 (.br (.lt (.tok 3) (.len (.fld b 0))) (.need [(.ok 1 [b,d,e]),(.ok 1 [b,d,e]),h,h,h] (.br (.not (.call 1 2 [b,d,e])) (.leaf []) (.need [(.ok 1 [b,g,f]),(.ok 1 [b,g,f]),j,j,j] (.br (.not (.call 1 2 [b,g,f])) (.leaf []) (.need [(.ok 2 [b,i]),(.ok 0 [b,c])] (.br (.not (.call 2 1 [b,i])) (.leaf []) (.leaf [(.call 2 0 [b,i]),(.call 1 1 [b,d,e]),(.call 1 1 [b,g,f])]))))))) (.leaf [(.lit (.i 0))]))
theorem zog:q65 uA q2y z2o 3 67 (z5f++z8m) 4 sH (qqp iBt iBm [] sB)=zqv:=by kernel_rfl
def ztj:Tree:=(.need [(.rng .i64 (.add (.tok 3) (.lit (.i 1))))] (.leaf [(.fn 2 [(.tok 2),(.tok 4),(.lit (.b .true))]),(.add (.tok 3) (.lit (.i 1))),(.tok 5)]))
theorem zlc:q65 uA q2y z2o 3 67 (it3++it4) 6 sP (qqp iPt iPm [] sP')=ztj:=by kernel_rfl
def zwv:List X:=[]
def zsl:St:=(.mk [(53,(.v (.not (.fn 0 [(.tok 2),(.tok 4),(.lit (.b .false))])) .bool [] [])),(52,(.v (.not (.fn 0 [(.tok 2),(.tok 4),(.lit (.b .false))])) .bool [] [])),(51,(.v (.fn 0 [(.tok 2),(.tok 4),(.lit (.b .false))]) .bool [] [])),(50,(.v (.tok 4) .str [] [])),(49,(.v (.tok 2) (.map 9 4) [(0,65)] [])),(10,(.v (.tok 4) .str [] [])),(0,(.sn 0 .any)),(1,(.sn 1 (.rd (.tok 0) (.st 26) [] .none))),(2,(.ref 2 [] 0 (.st 32))),(4,(.sn 4 (.v (.tok 2) (.map 9 4) [(0,65)] []))),(6,(.ref 6 [] 0 (.st 32))),(9,(.ref 9 [] 0 (.st 32))),(14,(.v (.len (.fld (.tok 0) 0)) (.int .i64) [] [])),(15,(.v (.tok 3) (.int .i64) [] []))] [(6,(.mk (.tok 5) (.st 32) [] [])),(9,(.mk (.tok 6) (.st 32) [] [])),(2,(.mk (.tok 1) (.st 32) [] []))])
theorem zn4:qs0 uA q2y (dsts itO) sY (itO.take 5)=some (zwv,zsl):=by kernel_rfl
def zr8:List X:=[(.ok 0 [(.tok 0),(.tok 6)]),(.ok 3 [(.call 0 0 [(.tok 0),(.tok 6)])])]
def zdr:St:=(.mk [(59,(.v (.call 3 0 [(.call 0 0 [(.tok 0),(.tok 6)])]) (.st 32) [] [])),(58,(.v (.call 0 0 [(.tok 0),(.tok 6)]) (.st 32) [] [])),(57,(.v (.tok 6) (.st 32) [] [])),(56,(.v (.tok 0) (.st 26) [] [])),(55,(.v (.tok 4) .str [] [])),(54,(.sn 0 .any)),(53,(.v (.lit (.b .true)) .bool [] [])),(10,(.v (.tok 4) .str [] [])),(0,(.sn 0 .any)),(1,(.sn 1 (.rd (.tok 0) (.st 26) [] .none))),(2,(.ref 2 [] 0 (.st 32))),(4,(.sn 4 (.v (.tok 2) (.map 9 4) [(0,65)] []))),(6,(.ref 6 [] 0 (.st 32))),(9,(.ref 9 [] 0 (.st 32))),(14,(.v (.len (.fld (.tok 0) 0)) (.int .i64) [] [])),(15,(.v (.tok 3) (.int .i64) [] []))] [(6,(.mk (.tok 5) (.st 32) [] [])),(9,(.mk (.tok 6) (.st 32) [] [])),(2,(.mk (.tok 1) (.st 32) [] []))])
theorem zlx:qs0 uA q2y (dsts itO) sYt ((itO.drop 6).take 5)=some (zr8,zdr):=by kernel_rfl
def zwp:List X:=[]
def zr2:St:=(.mk [(62,(.v (.lit (.b .false)) .bool [] [])),(61,.undef),(60,.undef),(59,.undef),(58,.undef),(57,.undef),(56,.undef),(55,.undef),(54,.undef),(53,(.v (.lit (.b .false)) .bool [] [])),(10,(.v (.tok 4) .str [] [])),(0,(.sn 0 .any)),(1,(.sn 1 (.rd (.tok 0) (.st 26) [] .none))),(2,(.ref 2 [] 0 (.st 32))),(4,(.sn 4 (.v (.tok 2) (.map 9 4) [(0,65)] []))),(6,(.ref 6 [] 0 (.st 32))),(9,(.ref 9 [] 0 (.st 32))),(14,(.v (.len (.fld (.tok 0) 0)) (.int .i64) [] [])),(15,(.v (.tok 3) (.int .i64) [] []))] [(6,(.mk (.tok 5) (.st 32) [] [])),(9,(.mk (.tok 6) (.st 32) [] [])),(2,(.mk (.tok 1) (.st 32) [] []))])
theorem zp5:qs0 uA q2y (dsts itO) sYf (itO.drop 5)=some (zwp,zr2):=by kernel_rfl
def zwt:List X:=[]
def zry:St:=(.mk [(62,(.v (.not (.tok 6)) .bool [] [])),(61,(.v (.not (.tok 6)) .bool [] [])),(60,(.v (.tok 6) .bool [] [])),(53,(.v (.lit (.b .true)) .bool [] [])),(0,(.sn 0 .any)),(1,(.sn 1 (.rd (.tok 0) (.st 26) [] .none))),(2,(.ref 2 [] 0 (.st 32))),(4,(.sn 4 (.v (.tok 2) (.map 9 4) [(0,65)] []))),(6,(.rd (.tok 5) (.st 32) [] .none)),(10,(.v (.tok 4) .str [] [])),(14,(.v (.len (.fld (.tok 0) 0)) (.int .i64) [] [])),(15,(.v (.tok 3) (.int .i64) [] []))] [(2,(.mk (.tok 1) (.st 32) [] []))])
theorem zmd:qs0 uA q2y (dsts itO) sYz (itO.drop 12)=some (zwt,zry):=by kernel_rfl
def zv7(s:So)(c:Ce)(i:Int)(o:List D):Prop:=(o=[]∧q5k s c=none)∨(o=[.i 0]∧(s.cs.length:Int)≤i)∨∃nm tl vl,i<s.cs.length∧q5k s c=some (nm,tl,vl)∧o=[.s nm,eC tl,eC vl]
theorem zx0{s:So}{M:D}(B:Nat→List D→Prop):zqv.go (qf q2y) (zv7 s c i) [eS s,eC c,M,.i i] B:=by
 unfold zqv;rw[z8];refine⟨fun h=>?_,fun h=>?_⟩
 ·have hi:i<s.cs.length:=by simpa[X.ev,evl,qed,D.int,D.rs,D.tt] using h
  simp only[gnZ,qez,zbt,q7o];by_cases h1:qfl s (jk s c) ⟨#[46]⟩=true
  ·simp only[h1,if_true,uL,uK,uH,uJ,q5y,q16];by_cases h2:qfl s (jk s (cellAt s ((jk s c).n+1))) ⟨#[45]⟩=true
   ·simp only[h2,if_true,uL,uK,uH,uJ,q5y,q16,z18,yf];by_cases h3:qf0 s (jk s (cellAt s ((jk s (cellAt s ((jk s c).n+1))).n+1)))=true
    ·simp only[h3,if_true,uL,uK,uH,uJ,q5y,kA,gnF,false_implies,true_and,true_implies,and_true];exact .inr (.inr ⟨_,_,_,hi,by rw[q5k,if_pos h1,if_pos h2,if_pos h3],rfl⟩)
    ·have hn:q5k s c=none:=by rw[q5k,if_pos h1,if_pos h2,if_neg h3]
     simp only[if_neg h3,uL,uK,uH,uJ,q5y,kA,kO,gnF,kS,false_implies,true_and,true_implies,and_true];exact .inl ⟨rfl,hn⟩
   ·have hn:q5k s c=none:=by rw[q5k,if_pos h1,if_neg h2]
    simp only[if_neg h2,uL,uK,uH,uJ,q5y,kA,kO,gnF,kS,false_implies,true_and,true_implies,and_true];exact .inl ⟨rfl,hn⟩
  ·have hn:q5k s c=none:=by rw[q5k,if_neg h1]
   simp only[if_neg h1,uL,uK,uH,uJ,q5y,kA,kO,gnF,kS,false_implies,true_and,true_implies,and_true];exact .inl ⟨rfl,hn⟩
 ·have hi:(s.cs.length:Int)≤i:=by simpa[X.ev,evl,qed,D.int,D.rs,D.tt] using h
  exact .inr (.inl ⟨rfl,hi⟩)
def zuf(c:Ce)(M nm:D)(i:Int)(o:List D):Prop:=o=[.mp (mset nm (.b true) M.ms),.i (i+1),eC c]
theorem zx8{s:So}{tl:Ce}{M nm:D}(hi:i64 (i+1))(B:Nat→List D→Prop):ztj.go (qf q2y) (zuf tl M nm i) [eS s,eC c,M,.i i,nm,eC tl] B:=by
 unfold ztj;rw[qg];refine⟨⟨?_,trivial⟩,?_⟩
 ·show(D.b (ji .i64 (i+1))).tt=true
  rw[q46.2 hi];rfl
 ·rfl
theorem zxq{s:So}(B:Nat→List D→Prop):zuu.go (qf q2y) (fun o=>o=[.mp [],.i 0]) [eS s] B:=rfl
variable{cx:Cx}{x:X}
section
open Go.RowKit Go.Shelf
abbrev yvV(l:Nat):Value:=.func (.yield l) #[] #[]
abbrev ptV(b:Nat):Value:=.pointer (some ⟨b,0,none⟩)
def ceL(c:Ce):List Value:=[.int .i64 c.t,.int .i64 c.n]
theorem qym{w:World}(h:Rd w F (eC c) ql cs):cs=ceL c:=by
 obtain⟨l,e,hF⟩:=Ins.of_rdS Ins.flC h;injection e with e;subst e;obtain⟨d,l',c1,c2,e1,rfl,h1,hG⟩:=Ins.of_rdF hF;obtain⟨d2,l2,c3,c4,e2,rfl,h2,hH⟩:=Ins.of_rdF hG;obtain⟨rfl,rfl⟩:=Ins.of_rdN hH;injection e1 with e1 e1';subst e1 e1';injection e2 with e2 _;subst e2;obtain⟨n1,-,q1,rfl⟩:=Ins.of_rdI h1;obtain⟨n2,-,q2,rfl⟩:=Ins.of_rdI h2;injection q1 with q1;injection q2 with q2;subst q1 q2;rfl
theorem qy9{w:World}(h:c.ok):Rd w F (eC c) ql (ceL c):=
 ⟨_,_,rfl,Ins.flC,.int .i64,[.int .i64],[.int .i64 c.t],[.int .i64 c.n],rfl,rfl,⟨.i64,rfl,rfl,q46.2 h.1⟩,.int .i64,[],[.int .i64 c.n],[],rfl,rfl,⟨.i64,rfl,rfl,q46.2 h.2⟩,rfl,rfl⟩
theorem z9g{w:World}(h:Rd w F (eC c) ql cs):c.ok:=by
 obtain⟨c',e,hc⟩:=wfC ⟨w,F,cs,h⟩;rw[z80 e];exact hc
def itP(bc m:Nat):qj:=fun x=>if x=32 then some bc else if x=65 then some m else none
theorem q95{bc m x b:Nat}(h:itP bc m x=some b):(x=32∧b=bc)∨(x=65∧b=m):=by
 unfold itP at h;split at h
 ·rename_i e;exact .inl ⟨e,(gnI h).symm⟩
 ·split at h
  ·rename_i e;exact .inr ⟨e,(gnI h).symm⟩
  ·cases h
theorem z9m{bc m b:Nat}:pinned (itP bc m) b↔b=bc∨b=m:=by
 constructor
 ·rintro⟨x,hx⟩;exact(q95 hx).imp (·.2) (·.2)
 ·rintro(rfl|rfl)
  ·exact⟨32,rfl⟩
  ·exact⟨65,rfl⟩
def itX(l bs bc m:Nat):Cx:=⟨evl (qf q2y) [],fun _=>True,.no,3,fun k g=>(k<3∨VB≤k)→itP bc m (k * 16)=some g,fun k g hk h2 h=>absurd h (by omega),fun t=>if t=0 then yvV l else if t=1 then ptV bs else if t=4 then .map (some m) else ptV bc⟩
theorem qtq(l bs bc m:Nat):∀te,(itX l bs bc m).F.mx te≤flM q2y te:=fun _=>uM _
structure HdOk(NB l bs bc m:Nat)(css:List Value)(s:So)(c:Ce)(M:List D)(i:Int)(a:Act)(W:World):Prop where
 z:a.tmps.size=67
 d:a.defers=[]
 t0:a.tmps[0]? =some (yvV l)
 t1:a.tmps[1]? =some (ptV bs)
 t2:a.tmps[2]? =some (ptV bc)
 t4:a.tmps[4]? =some (.map (some m))
 t14:a.tmps[14]? =some (.int .i64 (s.cs.length:Nat))
 t15:a.tmps[15]? =some (.int .i64 i)
 hs:∃T,W.heap[bs]? =some (.cells css.toArray T (0,0))
 rd:Rd W (fun b=>b<NB∧b≠bc) (eS s) qe css
 hc:∃T,qm T=some ql∧W.heap[bc]? =some (.cells (ceL c).toArray T (0,0))
 hm:∃es clock,W.heap[m]? =some (.map es clock)∧q8a .str .bool M es.toList
 so:s.ok
 co:c.ok
 ir:i64 i
section
variable{NB l bs bc m:Nat}{css:List Value}{s:So}{c:Ce}{M:List D}{i:Int}{a:Act}{W:World}
theorem zfq(h1:bc<NB)(h2:NB≤m)(hc:∃T,qm T=some ql∧W.heap[bc]? =some (.cells (ceL c).toArray T (0,0)))(hm:∃es clock,W.heap[m]? =some (.map es clock)):Bs (itX l bs bc m).A (itX l bs bc m).F W (pinned (itP bc m)) (itP bc m) W:=by
 obtain⟨T,-,hc⟩:=hc;obtain⟨es,clock,hm⟩:=hm;refine⟨fun x y b hx hy=>?_,fun x b hx=>?_,But.refl _ _,fun x b hx=>.inl ⟨x,hx⟩,fun _ _=>⟨trivial,trivial⟩,fun _ _ _=>trivial,fun x b hx=>?_,Flo.no⟩
 ·rcases q95 hx with⟨rfl,rfl⟩|⟨rfl,rfl⟩<;>rcases q95 hy with⟨rfl,e⟩|⟨rfl,e⟩<;>first|rfl|omega
 ·rcases q95 hx with⟨rfl,rfl⟩|⟨rfl,rfl⟩
  ·exact qt hc
  ·exact(uB.1 hm).1
 ·rcases q95 hx with⟨rfl,rfl⟩|⟨rfl,rfl⟩
  ·exact .inl ⟨_,_,hc⟩
  ·exact .inr ⟨_,_,hm⟩
theorem ztk{w:World}{n:Int}(h:i64 n):Rd w F (.i n) (.int .i64) [.int .i64 n]:=⟨.i64,rfl,rfl,q46.2 h⟩
theorem qmu(h:s.ok):i64 (s.cs.length:Nat):=by
 have:=h.cs.1;exact⟨by omega,by omega⟩
theorem zfu(hA:cx.A=fun _=>True)(hsn:cx.snap 1=ptV bs)(hE:cx.v.E 0=eS s)(hp:∀x b,p x=some b→b=bc∨NB≤b)(hbs:bs<NB)(hbc:bs≠bc)(hs:∃T,W.heap[bs]? =some (.cells css.toArray T (0,0)))(rd:Rd W (fun b=>b<NB∧b≠bc) (eS s) qe css):(AV.sn 1 (.rd (.tok 0) qe [] none)).pd cx p W (ptV bs):=by
 obtain⟨T,hs⟩:=hs;have hfr:∀b,b<NB∧b≠bc→FFD cx.A p [] b:=fun b hb=>.inl ⟨by rw[hA];trivial,fun x hx=>by
  rcases hp x b hx with h|h<;>omega⟩
 have hl:=(Rd.len _ rd).1;refine⟨hsn.symm,bs,0,css,rfl,hfr bs ⟨hbs,hbc⟩,fun j v hj=>?_,?_,?_,trivial⟩
 ·rw[cell_of_row W bs _ _ T (0,0) hs,uV];simpa using hj
 ·rw[hl]
  show 0<(Ty.st _).w
  exact q3g (E:=27) (by kernel_rfl)
 ·show Rd W _ (cx.v.E 0) qe css
  rw[hE];exact rd.mono fun b _ hb=>hfr b hb
theorem zhy(hsn:cx.snap 4=.map (some m))(hE:x.ev cx.v=.mp M)(hp:p 65=some m)(hm:∃es clock,W.heap[m]? =some (.map es clock)∧q8a .str .bool M es.toList):(AV.sn 4 (.v x mpT [(0,65)] [])).pd cx p W (.map (some m)):=by
 obtain⟨es,clock,hm,hl⟩:=hm;refine⟨hsn.symm,[.map (some m)],rfl,?_⟩;rw[hE];exact .inr ⟨_,_,.str,.bool,M,m,es,clock,rfl,by kernel_rfl,by kernel_rfl,rfl,rfl,hp,hm,hl⟩
theorem z12{n:Int}(hE:x.ev cx.v=.i n)(h:i64 n):(AV.v x (.int .i64) [] []).pd cx p W (.int .i64 n):=⟨[.int .i64 n],rfl,by rw[hE];exact Con.of_rd (ztk h)⟩
theorem zv1(h:HdOk NB l bs bc m css s c M i a W)(hbs:bs<NB)(hbc:bs≠bc)(hcb:bc<NB)(hmb:NB≤m):SF ((itX l bs bc m).at (qf q2y) [eS s,eC c,.mp M,.i i]) sH (itP bc m) W a:=by
 have hp:∀x b,itP bc m x=some b→b=bc∨NB≤b:=fun x b hx=>(q95 hx).imp (·.2) fun e=>by omega
 refine⟨fun t x hx=>?_,fun k e he=>?_⟩
 ·have hx:=qx hx;simp only[sH,gnM] at hx;rcases hx with⟨rfl,rfl⟩|⟨rfl,rfl⟩|⟨rfl,rfl⟩|⟨rfl,rfl⟩|⟨rfl,rfl⟩|⟨rfl,rfl⟩
  ·exact⟨_,h.t0,rfl,trivial⟩
  ·exact⟨_,h.t1,zfu rfl rfl rfl hp hbs hbc h.hs h.rd⟩
  ·exact⟨_,h.t2,bc,rfl,rfl,fun _=>rfl⟩
  ·exact⟨_,h.t4,zhy rfl rfl rfl h.hm⟩
  ·refine⟨_,h.t14,z12 ?_ (qmu h.so)⟩
   show D.i (((eS s).fld 0).rs.length:Nat)=_
   rw[qed,q7i,uF]
  ·exact⟨_,h.t15,z12 rfl h.ir⟩
 ·have he:=qx he;simp only[sH,gnM] at he;obtain⟨rfl,rfl⟩:=he;obtain⟨T,hT,hc⟩:=h.hc;exact⟨bc,_,T,rfl,hc,hT,Con.of_rd (show Rd W _ (eC c) ql (ceL c).toArray.toList from qy9 h.co)⟩
theorem z7c{v:Value}(h:(AV.v x mpT [(0,65)] dep).pd cx p W v):∃b,p 65=some b∧v=.map (some b)∧∃l es clock,x.ev cx.v=.mp l∧W.heap[b]? =some (.map es clock)∧q8a .str .bool l es.toList:=by
 obtain⟨cs,hpk,hc⟩:=h;rcases hc with⟨E,te,l,v',e1,-⟩|⟨K,V,kt,vt,l,g,es,clock,e1,hK,hV,e2,rfl,hg,hh,hl⟩
 ·cases e1
 ·have hpk:[Value.map (some g)]=[v]:=hpk;injection hpk with hpk;subst hpk;injection e1 with e1 e1';subst e1 e1';have h1:qm 9=some .str:=by kernel_rfl
  have h2:qm 4=some .bool:=by kernel_rfl
  rw[h1] at hK;rw[h2] at hV;injection hK with hK;injection hV with hV;subst hK hV;exact⟨g,hg,rfl,l,es,clock,e2,hh,hl⟩
theorem qhk{n:Int}{v:Value}(hE:x.ev cx.v=.i n)(h:(AV.v x (.int .i64) [] []).pd cx p W v):v=.int .i64 n∧i64 n:=by
 obtain⟨m,e,rfl,hr⟩:=q0j h;rw[hE] at e;injection e with e;subst e;exact⟨rfl,q46.1 hr⟩
theorem z7g{k:Nat}(hE:x.ev cx.v=eC c)(h:q1v cx p W k ⟨x,ql,[],[]⟩):∃g,p (k * 16)=some g∧c.ok∧∃T,qm T=some ql∧W.heap[g]? =some (.cells (ceL c).toArray T (0,0)):=by
 obtain⟨g,cs,T,hg,hh,hT,hc⟩:=h;rw[hE] at hc;obtain⟨cs⟩:=cs;have hr:Rd W (FFD cx.A p []) (eC c) ql cs:=Con.rd hc (fun _ h=>h) (fun _ h=>h);obtain rfl:=qym hr;exact⟨g,hg,z9g hr,T,hT,hh⟩
end
end
section
open Go.RowKit Go.Shelf
structure KOk(l n bs bc m NB:Nat)(css:List Value)(s:So)(c0:Ce)(K:Nat→Nat→World→Prop)(J:World→Prop):Prop where
 rd:∀k N W,K k N W→N≤W.heap.size∧(∃T,W.heap[bs]? =some (.cells css.toArray T (0,0)))∧Rd W (fun b=>b<NB∧b≠bc) (eS s) qe css
 step:∀k N W W',K k N W→But (fun b=>b=bc∨b=m) W W'→K k N W'
 yield:∀k N W a,K k N W→(yz s c0)[k]? =some a→a.ok→YieldAt (FR none) (n - 1) uA l #[.string a.name,.agg (ceL a.val).toArray] W fun e W'=>
  W.heap.size≤W'.heap.size∧(∀b,b<W.heap.size→N≤b∨b=bc∨b=m→W'.heap[b]? =W.heap[b]?)∧(e=.returned (.bool true)∧K (k+1) W'.heap.size W'∨e=.returned (.bool false)∧J W')
 stop:∀W W',J W→But Nil W W'→J W'
structure MidOk(l bs bc m:Nat)(s:So)(c:Ce)(M:List D)(i:Int)(nm:ByteArray)(tl:Ce)(b6:Nat)(a:Act)(W:World):Prop where
 z:a.tmps.size=67
 d:a.defers=[]
 t0:a.tmps[0]? =some (yvV l)
 t1:a.tmps[1]? =some (ptV bs)
 t2:a.tmps[2]? =some (ptV bc)
 t4:a.tmps[4]? =some (.map (some m))
 t6:a.tmps[6]? =some (ptV b6)
 t10:a.tmps[10]? =some (.string nm)
 t14:a.tmps[14]? =some (.int .i64 (s.cs.length:Nat))
 t15:a.tmps[15]? =some (.int .i64 i)
 hc:∃T,qm T=some ql∧W.heap[bc]? =some (.cells (ceL c).toArray T (0,0))
 hm:∃es clock,W.heap[m]? =some (.map es clock)∧q8a .str .bool M es.toList
 h6:∃T,W.heap[b6]? =some (.cells (ceL tl).toArray T (0,0))
 co:c.ok
 tlo:tl.ok
 ir:i64 i
 nml:nm.size≤LIM
def sYm:St:=⟨[(10,.v (.tok 4) .str [] []),(0,.sn 0 .any),(1,.sn 1 (.rd (.tok 0) qe [] none)),(2,.ref 2 [] 0 ql),(4,.sn 4 (.v (.tok 2) mpT [(0,65)] [])),(6,.ref 6 [] 0 ql),(14,.v (.len (.fld (.tok 0) 0)) (.int .i64) [] []),(15,.v (.tok 3) (.int .i64) [] [])],[(6,⟨.tok 5,ql,[],[]⟩),(2,⟨.tok 1,ql,[],[]⟩)]⟩
section
variable{NB n l bs bc m:Nat}{css:List Value}{s:So}{c tl vl:Ce}{M:List D}{i:Int}{nm:ByteArray}{a:Act}{W W0:World}{p:qj}{r:List D}{b6:Nat}
abbrev ql5(s:So)(c:Ce)(M:List D)(i:Int)(nm:ByteArray)(tl:Ce)(r:List D):List D:=eS s::eC c:: .mp M:: .i i:: .s nm::eC tl::r
theorem zf2(hm:bc≠m)(hb:Bs (itX l bs bc m).A (itX l bs bc m).F W0 (pinned (itP bc m)) p W)(hf:SF ((itX l bs bc m).at (qf q2y) (ql5 s c M i nm tl r)) sYm p W a)(hd:a.defers=[])(hz:a.tmps.size=67):∃b6,W0.heap.size≤b6∧b6<W.heap.size∧b6≠bc∧b6≠m∧MidOk l bs bc m s c M i nm tl b6 a W:=by
 obtain⟨v0,t0,e0,-⟩:=hf.t 0 _ (by kernel_rfl:lkA sYm.t 0=some (.sn 0 .any));obtain⟨v1,t1,e1,-⟩:=hf.t 1 _ (by kernel_rfl:lkA sYm.t 1=some (.sn 1 (.rd (.tok 0) qe [] none)));obtain⟨v2,t2,g2,q2,e2,hat⟩:=hf.t 2 _ (by kernel_rfl:lkA sYm.t 2=some (.ref 2 [] 0 ql));obtain⟨v4,t4,e4,h4⟩:=hf.t 4 _ (by kernel_rfl:lkA sYm.t 4=some (.sn 4 (.v (.tok 2) mpT [(0,65)] [])));obtain⟨v6,t6,g6,q6,e6,-⟩:=hf.t 6 _ (by kernel_rfl:lkA sYm.t 6=some (.ref 6 [] 0 ql));obtain⟨v10,t10,h10⟩:=hf.t 10 _ (by kernel_rfl:lkA sYm.t 10=some (.v (.tok 4) .str [] []));obtain⟨v14,t14,h14⟩:=hf.t 14 _ (by kernel_rfl:lkA sYm.t 14=some (.v (.len (.fld (.tok 0) 0)) (.int .i64) [] []));obtain⟨v15,t15,h15⟩:=hf.t 15 _ (by kernel_rfl:lkA sYm.t 15=some (.v (.tok 3) (.int .i64) [] []));have hat:itP bc m 32=some g2:=hat (.inl (by omega));have hg2:bc=g2:=gnI hat;subst hg2;subst e0 e1 e2 e6;obtain⟨g4,q4,e4',l4,es,clock,h4e,h4h,h4l⟩:=z7c h4;have e4:v4=.map (some m):=e4;rw[e4] at e4';injection e4' with e4';injection e4' with e4';subst e4' e4;have h4e:D.mp M=D.mp l4:=h4e;injection h4e with h4e;subst h4e;obtain⟨s10,e10,rfl,hl10⟩:=qja h10;have e10:D.s nm=D.s s10:=e10;injection e10 with e10;subst e10;obtain⟨rfl,-⟩:=qhk (n:=(s.cs.length:Nat)) (by
  show D.i (((eS s).fld 0).rs.length:Nat)=_
  rw[qed,q7i,uF]) h14
 obtain⟨rfl,hi⟩:=qhk (n:=i) rfl h15;obtain⟨g6',q6',tlo,T6,-,h6⟩:=z7g (c:=tl) rfl (hf.m 6 _ (by kernel_rfl:lkA sYm.m 6=some ⟨.tok 5,ql,[],[]⟩));obtain⟨gc,qc,co,Tc,hTc,hc⟩:=z7g (c:=c) rfl (hf.m 2 _ (by kernel_rfl:lkA sYm.m 2=some ⟨.tok 1,ql,[],[]⟩));have q6:p (6 * 16)=some g6:=q6;rw[q6] at q6';injection q6' with q6';subst q6';have q2:p (2 * 16)=some bc:=q2;rw[q2] at qc;injection qc with qc;subst qc;have n1:g6≠bc:=fun e=>by
  have:=hb.inj _ _ _ q6 (e▸q2);omega
 have n2:g6≠m:=fun e=>by
  have:=hb.inj _ _ _ q6 (e▸q4);omega
 refine⟨g6,?_,hb.bd _ _ q6,n1,n2,⟨hz,hd,t0,t1,t2,t4,t6,t10,t14,t15,⟨Tc,hTc,hc⟩,⟨es,clock,h4h,h4l⟩,⟨T6,h6⟩,co,tlo,hi,hl10⟩⟩;rcases hb.pin _ _ q6 with h|h
 ·rcases z9m.1 h with h|h
  ·exact absurd h n1
  ·exact absurd h n2
 ·exact h
theorem zid(h:MidOk l bs bc m s c M i nm tl b6 a W)(hs:∃T,W.heap[bs]? =some (.cells css.toArray T (0,0)))(rd:Rd W (fun b=>b<NB∧b≠bc) (eS s) qe css)(so:s.ok)(hbs:bs<NB)(hbc:bs≠bc)(hcb:bc<NB)(hmb:NB≤m)(h6c:b6≠bc)(h6m:b6≠m):SF ((itX l bs bc m).at (qf q2y) (ql5 s c M i nm tl r)) sP (itP bc m) W a:=by
 have hp:∀x b,itP bc m x=some b→b=bc∨NB≤b:=fun x b hx=>(q95 hx).imp (·.2) fun e=>by omega
 refine⟨fun t x hx=>?_,fun k e he=>?_⟩
 ·have hx:=qx hx;simp only[sP,gnM] at hx;rcases hx with⟨rfl,rfl⟩|⟨rfl,rfl⟩|⟨rfl,rfl⟩|⟨rfl,rfl⟩|⟨rfl,rfl⟩|⟨rfl,rfl⟩|⟨rfl,rfl⟩|⟨rfl,rfl⟩
  ·exact⟨_,h.t0,rfl,trivial⟩
  ·exact⟨_,h.t1,zfu rfl rfl rfl hp hbs hbc hs rd⟩
  ·exact⟨_,h.t2,bc,rfl,rfl,fun _=>rfl⟩
  ·exact⟨_,h.t4,zhy rfl rfl rfl h.hm⟩
  ·obtain⟨T,h6⟩:=h.h6;refine⟨_,h.t6,b6,0,ceL tl,rfl,.inl ⟨trivial,fun x hx=>?_⟩,fun j v hj=>?_,Nat.zero_lt_succ _,qy9 h.tlo,trivial⟩
   ·rcases q95 hx with⟨-,e⟩|⟨-,e⟩
    ·exact h6c e
    ·exact h6m e
   ·rw[cell_of_row W b6 _ _ T (0,0) h6,uV];simpa using hj
  ·exact⟨_,h.t10,[.string nm],rfl,Con.of_rd (show Rd W _ (.s nm) .str _ from⟨rfl,rfl,h.nml⟩)⟩
  ·refine⟨_,h.t14,z12 ?_ (qmu so)⟩
   show D.i (((eS s).fld 0).rs.length:Nat)=_
   rw[qed,q7i,uF]
  ·exact⟨_,h.t15,z12 rfl h.ir⟩
 ·have he:=qx he;simp only[sP,gnM] at he;obtain⟨rfl,rfl⟩:=he;obtain⟨T,hT,hc⟩:=h.hc;exact⟨bc,_,T,rfl,hc,hT,Con.of_rd (show Rd W _ (eC c) ql (ceL c).toArray.toList from qy9 h.co)⟩
theorem SF.cons{σ:St}{k:Nat}{x:AV}{v:Value}(hf:SF cx σ p W a)(hv:a.tmps[k]? =some v)(hx:x.pd cx p W v):SF cx ⟨(k,x)::σ.t,σ.m⟩ p W a:=by
 refine⟨fun t y hy=>?_,hf.m⟩;by_cases e:k=t
 ·subst e;have hy:lkA ((k,x)::σ.t) k=some y:=hy;rw[qa] at hy;injection hy with hy;subst hy;exact⟨v,hv,hx⟩
 ·exact hf.t t y (by rw[←qd e];exact hy)
theorem SF.forget{l6 r':List D}(hr:l6.length=6)(hf:SF (cx.at (qf q2y) (l6++r')) sP p W a):SF (cx.at (qf q2y) l6) sP p W a:=by
 have e:q33 [] [] 6 (q28 [] [] [] 6 sP)=sP:=by kernel_rfl
 rw[←e];exact qro (c:=cx.at (qf q2y) (l6++r')) (c':=cx.at (qf q2y) l6) (da:=[]) (db:=[]) rfl rfl ⟨rfl,rfl,rfl⟩ (fun k hk=>by
  show(l6++r').getD k .u=l6.getD k .u
  simp only[gnG];rw[uE (by omega)]) (fun i hi=>absurd hi (uU _)) (ql4 hf) rfl rfl
end
end
variable{α:Type}
section
open Go.RowKit Go.Shelf
theorem qfj{F:Fence}{n:Nat}{l:List Oper}{w:World}(k:Nat)(h:wpListIn F n P ops (Exit.then (wpListIn F n P ops Q (l.drop k)) Q) (l.take k) a w):wpListIn F n P ops Q l a w:=by
 have:=qe0 (l.take k) (l.drop k) h;rwa [uX] at this
noncomputable def o5:Oper:=(itO.drop 5).headD default
noncomputable def o11:Oper:=(itO.drop 11).headD default
theorem zmc:itO.drop 5=o5::itO.drop 6:=by kernel_rfl
theorem zpy:o5.op=.move (.tmp 0):=by kernel_rfl
theorem zrs:o5.dst=some 54:=by kernel_rfl
theorem zuo:o5.guard=some (4,true):=by kernel_rfl
theorem zg6:itO.drop 11=o11::itO.drop 12:=by kernel_rfl
noncomputable def c11:Go.Call:=match o11.op with
 |.call c=>c
 |_=>⟨.value (.tmp 0),#[],#[]⟩
theorem zfm:o11.op=.call c11:=by kernel_rfl
theorem zw7:c11.callee=.value (.tmp 54):=by kernel_rfl
theorem zu1:c11.args= #[.tmp 55,.tmp 59]:=by kernel_rfl
theorem z3a:o11.dst=some 60:=by kernel_rfl
theorem zs0:o11.guard=some (4,true):=by kernel_rfl
theorem zr1:itY=.seq (.region 9 itO.toArray false) (.cond (.tmp 62) .ret .skip):=by kernel_rfl
theorem zun:((dsts itO)[4]?).join=some 53:=by kernel_rfl
theorem qlc:itO.all (q9o 3 67)=true:=by kernel_rfl
theorem z5o{f:α→Bool}{l:List α}(h:l.all f=true)(k:Nat):(l.take k).all f=true:=uN.2 fun x hx=>uN.1 h x (vF hx)
theorem qly{f:α→Bool}{l:List α}(h:l.all f=true)(k:Nat):(l.drop k).all f=true:=uN.2 fun x hx=>uN.1 h x (vG hx)
theorem drop_drop(l:List Oper):(l.drop 6).drop 5=l.drop 11:=by rw[vU]
def sJ:St:=⟨[(60,.v (.tok 0) .bool [] []),(53,.v (.lit (.b true)) .bool [] [])],[]⟩
noncomputable def zvb:St:=match qs0 uA q2y (dsts itO) sJ (itO.drop 12) with
 |some (_,σ)=>σ
 |none=>⟨[],[]⟩
theorem znx:qs0 uA q2y (dsts itO) sJ (itO.drop 12)=some ([],zvb):=by kernel_rfl
theorem zkm:lkA zvb.t 62=some (.v (.not (.tok 0)) .bool [] []):=by kernel_rfl
theorem qbx:q9v q2y=true:=by kernel_rfl
theorem qc3{t:Nat}{v:Value}(h:a.tmps[t]? =some v):a.eval (.tmp t)=v:=by
 obtain⟨h1,e⟩:=uB.1 h;simp[Act.eval,Array.getD,h1,e]
theorem zel{ρ:Operand→Value}{w:World}{l:Nat}{v1 v2:Value}{fn:FuncId}{tmps:Array Value}{assign body:Code}(h54:ρ (.tmp 54)=yvV l)(h55:ρ (.tmp 55)=v1)(h59:ρ (.tmp 59)=v2)(hy:(Instr.yield l #[v1,v2]).run P w=.ok (.round l fn tmps assign body) w):(execOp ρ o11).run P w=.ok (.round l fn tmps assign body) w:=by
 unfold execOp;simp only[zfm,resolve,zw7,zu1,List.map_toArray,List.map_cons,List.map_nil,h54,h55,h59,yvV,Deferred.ofValue];simp[go_sem,invoke,hy]
theorem zkc{w:World}:(execOp a.eval o5).run P w=.ok (.value (a.eval (.tmp 0))) w:=by
 unfold execOp;simp only[zpy];rfl
end
section
open Go.RowKit Go.Shelf
section
variable{NB n l bs bc m:Nat}{css:List Value}{s:So}{c0 c tl vl:Ce}{M:List D}{i:Int}{nm:ByteArray}{a:Act}{W W0:World}{p:qj}{r:List D}{b6 j N:Nat}{met:List ByteArray}{K:Nat→Nat→World→Prop}{J:World→Prop}
theorem qd3(hb:Bs (itX l bs bc m).A (itX l bs bc m).F W0 (pinned (itP bc m)) p W):But (fun b=>b=bc∨b=m) W0 W:=hb.but.mono fun b h _=>z9m.1 h
theorem zru(hk:KOk l n bs bc m NB css s c0 K J)(hn:1≤n)(hbs:bs<NB)(hbc:bs≠bc)(hcb:bc<NB)(hmb:NB≤m)(so:s.ok)
  (hKW:K j N W0)(hb:Bs (itX l bs bc m).A (itX l bs bc m).F W0 (pinned (itP bc m)) p W)(hf:SF ((itX l bs bc m).at (qf q2y) (ql5 s c M i nm tl [eC vl])) sY p W a)(hd:a.defers=[])(hz:a.tmps.size=67)
  (htr:fnD 0 [.mp M,.s nm,.b false]=.b (hasB met nm))(hj:hasB met nm=false→(yz s c0)[j]? =some ⟨nm,jl (jk s vl)⟩)
  {KK:Act→World→Prop}
  (hgo:∀p' N' W1 W' a',K (if hasB met nm then j else j+1) N' W1→But (fun b=>b=bc∨b=m) W1 W'→Bs (itX l bs bc m).A (itX l bs bc m).F W1 (pinned (itP bc m)) p' W'→SF ((itX l bs bc m).at (qf q2y) (ql5 s c M i nm tl [])) sP p' W' a'→a'.defers=[]→a'.tmps.size=67→KK a' W')
  (hst:∀W' a',J W'→a'.defers=[]→a'.tmps.size=67→Q .ret a' W'):itY.wpIn (FR none) n uA (Exit.then KK Q) a W:=by
 rw[zr1];have hmc:bc≠m:=by omega
 have hS:HS ((itX l bs bc m).at (qf q2y) (ql5 s c M i nm tl [eC vl])) q2y:=⟨rfl,qtq l bs bc m⟩;refine wpIn_seq (wpIn_region_lit (qfj 5 (q82 none n qbs hS rfl (q5t qbx) zn4 (z5o qlc 5) (fun n h=>by cases h) hb hf hd hz fun a1 W1 hp=>?_)));obtain⟨p1,hb1,hf1,hd1,hz1⟩:=hp;obtain⟨v,hv,hpd⟩:=hf1.t 53 _ (by kernel_rfl:lkA zsl.t 53=some (.v (.not (.fn 0 [(.tok 2),(.tok 4),(.lit (.b false))])) .bool [] []));obtain⟨y,ey,rfl⟩:=q2v hpd;have ey:D.b (!(fnD 0 [.mp M,.s nm,.b false]).tt)=.b y:=ey;rw[htr] at ey;injection ey with ey;have hfY:SF ((itX l bs bc m).at (qf q2y) (ql5 s c M i nm tl [eC vl])) sY p1 W1 a1:=q3a (by kernel_rfl:covers zsl sY=true) hf1
 show wpListIn (FR none) n uA itO.toArray _ (itO.drop 5) a1 W1
 cases hm:hasB met nm with
 |true=>
  rw[hm] at ey;have ey:false=y:=ey;subst ey;have hff:=SF.cons (k:=53) (x:=.v (.lit (.b false)) .bool [] []) hfY hv ⟨_,rfl,Con.of_rd (show Rd W1 _ (.b false) .bool _ from⟨rfl,rfl⟩)⟩;refine q82 none n qbs hS rfl (q5t qbx) (σ:=sYf) zp5 (qly qlc 5) (fun n h=>by cases h) hb1 hff hd1 hz1 fun a2 W2 hp=>?_;obtain⟨p2,hb2,hf2,hd2,hz2⟩:=hp;obtain⟨v2,hv2,hpd2⟩:=hf2.t 62 _ (by kernel_rfl:lkA zr2.t 62=some (.v (.lit (.b false)) .bool [] []));obtain⟨y2,ey2,rfl⟩:=q2v hpd2;have ey2:D.b false=.b y2:=ey2;injection ey2 with ey2;subst ey2;refine wpIn_cond_false (qc3 hv2) (wpIn_skip ?_);obtain⟨b6,h1,h2,h3,h4,hmid⟩:=zf2 hmc hb2 (q3a (by kernel_rfl:covers zr2 sYm=true) hf2) hd2 hz2;have hK2:=hk.step _ _ _ _ hKW (qd3 (l:=l) (bs:=bs) hb2);obtain⟨-,hs2,hrd2⟩:=hk.rd _ _ _ hK2;have hbf:Bs (itX l bs bc m).A (itX l bs bc m).F W2 (pinned (itP bc m)) (itP bc m) W2:=zfq (c:=c) hcb hmb hmid.hc (by obtain⟨es,clock,h,-⟩:=hmid.hm;exact⟨es,clock,h⟩);refine hgo (itP bc m) N W2 W2 a2 (by rw[if_pos hm];exact hK2) (But.refl _ _) hbf ?_ hd2 hz2;exact zid hmid hs2 hrd2 so hbs hbc hcb hmb h3 h4
 | false =>
  rw[hm] at ey;have ey:true=y:=ey;subst ey;have hsz:∀{t:Nat},t<67→t<a1.tmps.size:=fun{t}h=>by omega
  have hft:=SF.cons (k:=53) (x:=.v (.lit (.b true)) .bool [] []) hfY hv ⟨_,rfl,Con.of_rd (show Rd W1 _ (.b true) .bool _ from⟨rfl,rfl⟩)⟩;obtain⟨v0,t0,e0,-⟩:=hfY.t 0 _ (by kernel_rfl:lkA sY.t 0=some (.sn 0 .any));rw[zmc];unfold wpListIn;have hw:Region.wanted o5 (yielded itO.toArray a1.tmps)=true:=(qds zuo).2 ((qe8 (ds:=dsts itO) rfl zun hv).2 rfl);rw[if_pos hw];refine Oper.wp_round none (by rw[zpy];simp) ?_;unfold Oper.wp;rw[zkc,qc3 t0]
  show wpListIn (FR none) n uA itO.toArray _ (itO.drop 6) (a1.put o5.dst v0) W1
  rw[zrs];have hfq:SF ((itX l bs bc m).at (qf q2y) (ql5 s c M i nm tl [eC vl])) sYt p1 W1 (a1.put (some 54) v0):=by
   have:=hft.put (t:=54) (x:=.sn 0 .any) (v:=v0) (by omega) ⟨e0,trivial⟩;exact this
  have hv2:(a1.put (some 54) v0).tmps[53]? =some (.bool true):=by
   obtain⟨v,hv,hpd⟩:=hfq.t 53 _ (by kernel_rfl:lkA sYt.t 53=some (.v (.lit (.b true)) .bool [] []));obtain⟨y2,ey2,rfl⟩:=q2v hpd;have ey2:D.b true=.b y2:=ey2;injection ey2 with ey2;subst ey2;exact hv
  have hsay:∀x∈zr8,x.says ((itX l bs bc m).at (qf q2y) (ql5 s c M i nm tl [eC vl])).v:=by
   intro x hx;simp only[zr8,kP,vP,or_false] at hx;rcases hx with rfl|rfl
   ·show(D.b (qez [eS s,eC vl]).isSome).tt=true
    simp[qez,q5y]
   ·show(D.b (qba [_]).isSome).tt=true
    simp[qba,q5y]
  refine qfj 5 (q82 none n qbs hS rfl (q5t qbx) zlx (z5o (qly qlc 6) 5) hsay hb1 hfq hd1 (by simp[Act.put];exact hz1) fun a2 W2 hp=>?_);obtain⟨p2,hb2,hf2,hd2,hz2⟩:=hp
  show wpListIn (FR none) n uA itO.toArray _ ((itO.drop 6).drop 5) a2 W2
  rw[drop_drop,zg6];obtain⟨b6,h1,h2,h3,h4,hmid⟩:=zf2 hmc hb2 (q3a (by kernel_rfl:covers zdr sYm=true) hf2) hd2 hz2;have hK2:=hk.step _ _ _ _ hKW (qd3 (l:=l) (bs:=bs) hb2);obtain⟨v54,t54,e54,-⟩:=hf2.t 54 _ (by kernel_rfl:lkA zdr.t 54=some (.sn 0 .any));obtain⟨v53,t53,h53⟩:=hf2.t 53 _ (by kernel_rfl:lkA zdr.t 53=some (.v (.lit (.b true)) .bool [] []));obtain⟨y3,ey3,rfl⟩:=q2v h53;have ey3:D.b true=.b y3:=ey3;injection ey3 with ey3;subst ey3;obtain⟨v55,t55,h55⟩:=hf2.t 55 _ (by kernel_rfl:lkA zdr.t 55=some (.v (.tok 4) .str [] []));obtain⟨s55,es55,rfl,-⟩:=qja h55;have es55:D.s nm=.s s55:=es55;injection es55 with es55;subst es55;obtain⟨v59,t59,cs59,hp59,hc59⟩:=hf2.t 59 _ (by kernel_rfl:lkA zdr.t 59=some (.v (.call 3 0 [(.call 0 0 [(.tok 0),(.tok 6)])]) ql [] []));have hr59:Rd W2 (FFD (itX l bs bc m).A p2 []) (eC (jl (jk s vl))) ql cs59:=by
   have h:=Con.rd hc59 (fun _ h=>h) (fun _ h=>h);have e:(X.call 3 0 [(.call 0 0 [(.tok 0),(.tok 6)])]).ev ((itX l bs bc m).at (qf q2y) (ql5 s c M i nm tl [eC vl])).v=eC (jl (jk s vl)):=by
    show((qba [((qez [eS s,eC vl]).getD []).getD 0 .u]).getD []).getD 0 .u=_
    simp[qez,qba,q16,yf]
   rw[e] at h;exact h
  have hr59':=hr59;obtain rfl:=qym hr59;have hp59:v59=.agg (ceL (jl (jk s vl))).toArray:=hp59;subst hp59;obtain⟨fn,tmps,assign,body,hy,hR⟩:=hk.yield _ _ _ _ hK2 (hj hm) ⟨hmid.nml,z9g hr59'⟩;unfold wpListIn;have hw:Region.wanted o11 (yielded itO.toArray a2.tmps)=true:=(qds zs0).2 ((qe8 (ds:=dsts itO) rfl zun t53).2 rfl);rw[if_pos hw];refine⟨fun _ _=>trivial,?_⟩;have e54':a2.eval (.tmp 54)=yvV l:=(qc3 t54).trans e54;rw[show Oper.semAt (FR none).round a2.eval o11=execOp a2.eval o11 from Oper.semAt_eq _ _ _ (by rw[zfm];simp),zel e54' (qc3 t55) (qc3 t59) hy];refine⟨fun e=>(by cases e),hR.mono ?_⟩;rintro e W3⟨hsz3,hbl,hres⟩;have hN2:=(hk.rd _ _ _ hKW).1;have hput:(a2.put o11.dst (.bool true)).tmps.size=67:=by rw[z3a];simp[Act.put];exact hz2
  rcases hres with⟨rfl,hK3⟩|⟨rfl,hJ3⟩
  ·-- the rounds go on
   show wpListIn (FR none) n uA itO.toArray _ (itO.drop 12) (a2.put o11.dst (.bool true)) W3
   rw[z3a];have hol:∀b,W0.heap.size≤b∨b=bc∨b=m→b<W2.heap.size→W3.heap[b]? =W2.heap[b]? :=fun b hb hlt=>hbl b hlt (by
    rcases hb with h|h|h
    ·exact .inl (by omega)
    ·exact .inr (.inl h)
    ·exact .inr (.inr h))
   have hpt:∀{t:Nat},t≠60→(a2.put (some 60) (.bool true)).tmps[t]? =a2.tmps[t]? :=fun{t}ht=>by
    show(a2.tmps.setIfInBounds 60 _)[t]? =_
    rw[kT (fun e=>ht e.symm)]
   have hmid3:MidOk l bs bc m s c M i nm tl b6 (a2.put (some 60) (.bool true)) W3:=by
    refine⟨by simp[Act.put];exact hz2,hmid.d,?_,?_,?_,?_,?_,?_,?_,?_,?_,?_,?_,hmid.co,hmid.tlo,hmid.ir,hmid.nml⟩
    ·rw[hpt (by omega)];exact hmid.t0
    ·rw[hpt (by omega)];exact hmid.t1
    ·rw[hpt (by omega)];exact hmid.t2
    ·rw[hpt (by omega)];exact hmid.t4
    ·rw[hpt (by omega)];exact hmid.t6
    ·rw[hpt (by omega)];exact hmid.t10
    ·rw[hpt (by omega)];exact hmid.t14
    ·rw[hpt (by omega)];exact hmid.t15
    ·obtain⟨T,hT,h⟩:=hmid.hc;exact⟨T,hT,(hol bc (.inr (.inl rfl)) (qt h)).trans h⟩
    ·obtain⟨es,clock,h,hl⟩:=hmid.hm;exact⟨es,clock,(hol m (.inr (.inr rfl)) (uB.1 h).1).trans h,hl⟩
    ·obtain⟨T,h⟩:=hmid.h6;exact⟨T,(hol b6 (.inl h1) h2).trans h⟩
   obtain⟨-,hs3,hrd3⟩:=hk.rd _ _ _ hK3;have hf3:=zid (r:=[.b true]) hmid3 hs3 hrd3 so hbs hbc hcb hmb h3 h4;have hbf:Bs (itX l bs bc m).A (itX l bs bc m).F W3 (pinned (itP bc m)) (itP bc m) W3:=zfq (c:=c) hcb hmb hmid3.hc (by obtain⟨es,clock,h,-⟩:=hmid3.hm;exact⟨es,clock,h⟩);have t53':(a2.put (some 60) (.bool true)).tmps[53]? =some (.bool true):=by rw[hpt (by omega)];exact t53
   have t60':(a2.put (some 60) (.bool true)).tmps[60]? =some (.bool true):=by
    show(a2.tmps.setIfInBounds 60 _)[60]? =_
    rw[kM (by omega)]
   have hfz:=SF.cons (k:=60) (x:=.v (.tok 6) .bool [] []) (SF.cons (k:=53) (x:=.v (.lit (.b true)) .bool [] []) hf3 t53' ⟨_,rfl,Con.of_rd (show Rd W3 _ (.b true) .bool _ from⟨rfl,rfl⟩)⟩) t60' ⟨_,rfl,Con.of_rd (show Rd W3 _ (.b true) .bool _ from⟨rfl,rfl⟩)⟩;have hS3:HS ((itX l bs bc m).at (qf q2y) (ql5 s c M i nm tl [.b true])) q2y:=⟨rfl,qtq l bs bc m⟩;refine q82 none n qbs hS3 rfl (q5t qbx) (σ:=sYz) zmd (qly qlc 12) (fun n h=>by cases h) hbf hfz hmid.d (by simp[Act.put];exact hz2) fun a4 W4 hp=>?_;obtain⟨p4,hb4,hf4,hd4,hz4⟩:=hp;obtain⟨v4,hv4,hpd4⟩:=hf4.t 62 _ (by kernel_rfl:lkA zry.t 62=some (.v (.not (.tok 6)) .bool [] []));obtain⟨y4,ey4,rfl⟩:=q2v hpd4;have ey4:D.b false=.b y4:=ey4;injection ey4 with ey4;subst ey4;refine wpIn_cond_false (qc3 hv4) (wpIn_skip ?_);refine hgo p4 _ W3 W4 a4 (by rw[hm];exact hK3) (qd3 (l:=l) (bs:=bs) hb4) hb4 ?_ hd4 hz4;exact SF.forget (l6:=ql5 s c M i nm tl []) rfl (q3a (by kernel_rfl:covers zry sP=true) hf4)
  ·-- the rounds stop
   show wpListIn (FR none) n uA itO.toArray _ (itO.drop 12) (a2.put o11.dst (.bool false)) W3
   rw[z3a];have t53':(a2.put (some 60) (.bool false)).tmps[53]? =some (.bool true):=by
    show(a2.tmps.setIfInBounds 60 _)[53]? =_
    rw[kT (by omega)];exact t53
   have t60':(a2.put (some 60) (.bool false)).tmps[60]? =some (.bool false):=by
    show(a2.tmps.setIfInBounds 60 _)[60]? =_
    rw[kM (by omega)]
   have hbf:Bs (fun _=>True) Flr.no W3 (pinned fun _=>none) (fun _=>none) W3:=⟨fun x y b h=>(nomatch h),fun x b h=>(nomatch h),But.refl _ _,fun x b h=>(nomatch h),fun _ _=>⟨trivial,trivial⟩,fun x b h=>(nomatch h),fun x b h=>(nomatch h),Flo.no⟩;have hfj:SF ((itX l bs bc m).at (qf q2y) [.b false]) sJ (fun _=>none) W3 (a2.put (some 60) (.bool false)):=by
    refine⟨fun t x hx=>?_,fun k e he=>by cases he⟩;have hx:=qx hx;simp only[sJ,gnM] at hx;rcases hx with⟨rfl,rfl⟩|⟨rfl,rfl⟩
    ·exact⟨_,t60',_,rfl,Con.of_rd (show Rd W3 _ (.b false) .bool _ from⟨rfl,rfl⟩)⟩
    ·exact⟨_,t53',_,rfl,Con.of_rd (show Rd W3 _ (.b true) .bool _ from⟨rfl,rfl⟩)⟩
   have hSj:HS ((itX l bs bc m).at (qf q2y) [.b false]) q2y:=⟨rfl,qtq l bs bc m⟩;refine q82 none n qbs hSj rfl (q5t qbx) (σ:=sJ) znx (qly qlc 12) (fun n h=>by cases h) hbf hfj hmid.d (by simp[Act.put];exact hz2) fun a4 W4 hp=>?_;obtain⟨p4,hb4,hf4,hd4,hz4⟩:=hp;obtain⟨v4,hv4,hpd4⟩:=hf4.t 62 _ zkm;obtain⟨y4,ey4,rfl⟩:=q2v hpd4;have ey4:D.b true=.b y4:=ey4;injection ey4 with ey4;subst ey4;refine wpIn_cond_true (qc3 hv4) (wpIn_ret (hst _ _ (hk.stop _ _ hJ3 (hb4.but.mono fun b h _=>?_)) hd4 hz4));obtain⟨x,hx⟩:=h;cases hx
end
end
section
open Go.RowKit Go.Shelf
noncomputable def itL:Code:=sqR (sqR (sqR itR))
noncomputable def r10:Code:=sqL (sqR (sqR (sqR (sqR (sqR (sqR (sqR itB)))))))
noncomputable def r11:Code:=sqR (sqR (sqR (sqR (sqR (sqR (sqR (sqR itB)))))))
theorem zso:itR=seqs z5f (.seq (.block 1 itB) itL):=by kernel_rfl
theorem zt0:itB=seqs z8m (.seq itY (.seq r10 r11)):=by kernel_rfl
theorem zv0:q33 iBt iBm 4 (q28 iBt iBm [] 4 sB)=sY:=by kernel_rfl
def sN:St:=q33 iPt iPm 6 (q28 iPt iPm [] 6 sP')
theorem sN0:lkA sN.t 0=some (.sn 0 .any):=by kernel_rfl
theorem sN1:lkA sN.t 1=some (.sn 1 (.rd (.tok 0) qe [] none)):=by kernel_rfl
theorem sN2:lkA sN.t 2=some (.ref 2 [] 0 ql):=by kernel_rfl
theorem sN4:lkA sN.t 4=some (.sn 4 (.v (.tok 6) mpT [(0,65)] [SNK])):=by kernel_rfl
theorem zxo:lkA sN.t 14=some (.v (.len (.fld (.tok 0) 0)) (.int .i64) [] []):=by kernel_rfl
theorem zwx:lkA sN.t 15=some (.v (.tok 7) (.int .i64) [] []):=by kernel_rfl
theorem sNm:lkA sN.m 2=some ⟨.tok 8,ql,[],[]⟩:=by kernel_rfl
def trk(M:List D)(met:List ByteArray):Prop:=∀nm:ByteArray,fnD 0 [.mp M,.s nm,.b false]=.b (hasB met nm)
theorem zop:trk [] []:=fun nm=>rfl
theorem zfc{M:List D}{met:List ByteArray}{x:ByteArray}(h:trk M met):trk (mset (.s x) (.b true) M) (x::met):=fun nm=>by
 show(mfind (.s nm) (mset (.s x) (.b true) M)).getD (.b false)=_
 rw[qk3];by_cases e:x=nm
 ·subst e;simp[hasB]
 ·rw[if_neg (by simpa using e)];have:=h nm;simp only[hasB,List.any_cons,decide_eq_false e,kZ] at this⊢;exact this
theorem qot{s:So}(h:q5k s c=none):∀k met,q3x s k c met=[]
 |0,_=>rfl
 |k+1,met=>by
  unfold q3x;rw[h]
section
variable{NB n l bs bc m:Nat}{css:List Value}{s:So}{c0 c tl vl:Ce}{M:List D}{i:Int}{nm:ByteArray}{a:Act}{W W0:World}{p:qj}{r:List D}{b6 j N:Nat}{met:List ByteArray}{K:Nat→Nat→World→Prop}{J:World→Prop}
theorem zwo(hb:Bs (itX l bs bc m).A (itX l bs bc m).F W0 (pinned (itP bc m)) p W){l6:List D}(hl6:l6.length=6)(hs6:l6.getD 0 .u=eS s)(hf:SF ((itX l bs bc m).at (qf q2y) (l6++[.mp M,.i i,eC c])) sN p W a)(hd:a.defers=[])(hz:a.tmps.size=67)(hs:∃T,W.heap[bs]? =some (.cells css.toArray T (0,0)))(rd:Rd W (fun b=>b<NB∧b≠bc) (eS s) qe css)(so:s.ok):HdOk NB l bs bc m css s c M i a W:=by
 obtain⟨v0,t0,e0,-⟩:=hf.t 0 _ sN0;obtain⟨v1,t1,e1,-⟩:=hf.t 1 _ sN1;obtain⟨v2,t2,g2,q2,e2,hat⟩:=hf.t 2 _ sN2;obtain⟨v4,t4,e4,h4⟩:=hf.t 4 _ sN4;obtain⟨v14,t14,h14⟩:=hf.t 14 _ zxo;obtain⟨v15,t15,h15⟩:=hf.t 15 _ zwx;have tk:∀k d,(l6++[D.mp M,.i i,eC c]).getD k .u=d→(X.tok k).ev ((itX l bs bc m).at (qf q2y) (l6++[.mp M,.i i,eC c])).v=d:=fun k d h=>h;have tk0:(l6++[D.mp M,.i i,eC c]).getD 0 .u=eS s:=by
  rw[gnG,uE (by omega),←gnG];exact hs6
 have tk6:(l6++[D.mp M,.i i,eC c]).getD 6 .u=.mp M:=by
  rw[gnG,uI (by omega),hl6];rfl
 have tk7:(l6++[D.mp M,.i i,eC c]).getD 7 .u=.i i:=by
  rw[gnG,uI (by omega),hl6];rfl
 have tk8:(l6++[D.mp M,.i i,eC c]).getD 8 .u=eC c:=by
  rw[gnG,uI (by omega),hl6];rfl
 have hat:itP bc m 32=some g2:=hat (.inl (by omega));have hg2:bc=g2:=gnI hat;subst hg2;subst e0 e1 e2;obtain⟨g4,q4,e4',l4,es,clock,h4e,h4h,h4l⟩:=z7c h4;have e4:v4=.map (some m):=e4;rw[e4] at e4';injection e4' with e4';injection e4' with e4';subst e4' e4;have h4e:=(tk _ _ tk6).symm.trans h4e;injection h4e with h4e;subst h4e;obtain⟨rfl,-⟩:=qhk (n:=(s.cs.length:Nat)) (by
  show D.i ((((l6++[D.mp M,.i i,eC c]).getD 0 .u).fld 0).rs.length:Nat)=_
  rw[tk0,qed,q7i,uF]) h14
 obtain⟨rfl,hi⟩:=qhk (n:=i) (tk _ _ tk7) h15;obtain⟨gc,qc,co,Tc,hTc,hc⟩:=z7g (c:=c) (tk _ _ tk8) (hf.m 2 _ sNm);have q2:p (2 * 16)=some bc:=q2;rw[q2] at qc;injection qc with qc;subst qc;exact⟨hz,hd,t0,t1,t2,t4,t14,t15,hs,rd,⟨Tc,hTc,hc⟩,⟨es,clock,h4h,h4l⟩,so,co,hi⟩
theorem qzh(hk:KOk l n bs bc m NB css s c0 K J)(hn:1≤n)(hbs:bs<NB)(hbc:bs≠bc)(hcb:bc<NB)(hmb:NB≤m)(so:s.ok)
  (hQ:∀e a W,(e=.ret∨e=.exit 0)→a.defers=[]→a.tmps.size=67→((∃N,K (yz s c0).length N W)∨J W)→Q e a W):
  ∀(f:Nat){i:Int}{c:Ce}{M:List D}{met:List ByteArray}{j N:Nat}{a:Act}{W:World},HdOk NB l bs bc m css s c M i a W→K j N W→(yz s c0).drop j=q3x s (s.cs.length - i.toNat) c met→j≤(yz s c0).length→0≤i→trk M met→s.cs.length - i.toNat<f→Code.roundsIn (FR none) n uA itR Q f a W
 |0,i,c,M,met,j,N,a,W,h,hK,hdr,hjl,hi0,htr,hfu=>absurd hfu (uU _)
 | f + 1, i, c, M, met, j, N, a, W, h, hK, hdr, hjl, hi0, htr, hfu => by
  rw[roundsIn_succ];have hbf:Bs (itX l bs bc m).A (itX l bs bc m).F W (pinned (itP bc m)) (itP bc m) W:=zfq (c:=c) hcb hmb h.hc (by obtain⟨es,clock,h,-⟩:=h.hm;exact⟨es,clock,h⟩);have hff:=zv1 h hbs hbc hcb hmb;have hend:q3x s (s.cs.length - i.toNat) c met=[]→j=(yz s c0).length:=fun e=>by
   rw[e] at hdr;have:=List.drop_eq_nil_iff.1 hdr;omega
  have hW:(seqs z5f (.seq (.block 1 itB) itL)).wpIn (FR none) n uA (Exit.then (Code.roundsIn (FR none) n uA itR Q f) Q) a W:=by
   refine q2g z5f ?_;have pre:qat (FR none) n uA (fun e a W=>(e=.ret∨e=.exit 0)∧Q e a W) (z5f++z8m) ((Code.seq itY (.seq r10 r11)).wpIn (FR none) n uA (Exit.inBlock 1 (Exit.then (itL.wpIn (FR none) n uA (Exit.then (Code.roundsIn (FR none) n uA itR Q f) Q)) (Exit.then (Code.roundsIn (FR none) n uA itR Q f) Q)))) a W:=by
    refine qud (c:=itX l bs bc m) none n qbs (qtq l bs bc m) qbx (z5f++z8m) (n:=4) (ann:=z2o) (R:=zv7 s c i) (B:=fun _ _=>False) (ts:=iBt) (ms:=iBm) (kill:=[]) (σk:=sB) (l:=[eS s,eC c,.mp M,.i i]) (σ:=sH) (by
     show(q65 uA q2y z2o 3 _ _ _ _ _).go _ _ _ _
     rw[zog];exact zx0 _) rfl hbf hff h.d h.z (fun st p' W' a' hR hst hb' hf' hd' hz'=>?_) (fun p' W' a' hR hb' hd' hz'=>?_) (fun i' p' W' a' hR hb' hd' hz'=>?_)
    ·rcases hR with⟨rfl,-⟩|⟨rfl,-⟩|⟨nm,tl,vl,hil,hnx,rfl⟩
     ·cases hst
     ·cases hst
     have e1:s.cs.length - i.toNat=(s.cs.length - (i.toNat+1))+1:=by omega
     have hdr1:(yz s c0).drop j=(if hasB met nm then[] else[⟨nm,jl (jk s vl)⟩])++q3x s (s.cs.length - (i.toNat+1)) tl (nm::met):=by
      rw[hdr,e1]
      conv=>lhs;unfold q3x
      rw[hnx]
     have hfy:SF ((itX l bs bc m).at (qf q2y) (ql5 s c M i nm tl [eC vl])) sY p' W' a':=by
      have:=hf';rw[zv0] at this;exact this
     have hi1:i64 (i+1):=by
      have:=qmu so;unfold i64 at this⊢;omega
     refine wpIn_seq (zru (c0:=c0) (j:=j) (N:=N) (met:=met) hk hn hbs hbc hcb hmb so hK hb' hfy hd' hz' (htr nm) (fun hm=>?_) (fun p2 N2 W1 W2 a2 hK2 hbut hb2 hf2 hd2 hz2=>?_) fun W2 a2 hJ hd2 hz2=>?_)
     ·rw[hm] at hdr1;have:=congrArg (fun l=>l[0]?) hdr1;simpa using this
     ·have pre2:qat (FR none) n uA (fun _ _ _=>False) (it3++it4) (Code.roundsIn (FR none) n uA itR Q f) a2 W2:=by
       refine qud (c:=itX l bs bc m) none n qbs (qtq l bs bc m) qbx (it3++it4) (n:=6) (ann:=z2o) (R:=zuf tl (.mp M) (.s nm) i) (B:=fun _ _=>False) (ts:=iPt) (ms:=iPm) (kill:=[]) (σk:=sP') (l:=ql5 s c M i nm tl []) (σ:=sP) (by
        show(q65 uA q2y z2o 3 _ _ _ _ _).go _ _ _ _
        rw[zlc];exact zx8 hi1 _) rfl hb2 hf2 hd2 hz2 (fun st p3 W3 a3 hR3 hst3 hb3 hf3 hd3 hz3=>?_) (fun p3 W3 a3 hR3 hb3 hd3 hz3=>?_) (fun i' p3 W3 a3 hR3 hb3 hd3 hz3=>?_)
       ·have hR3:st=[.mp (mset (.s nm) (.b true) M),.i (i+1),eC tl]:=hR3;subst hR3;have hK3:=hk.step _ _ _ _ hK2 (qd3 (l:=l) (bs:=bs) hb3);obtain⟨-,hs3,hrd3⟩:=hk.rd _ _ _ hK3;have hhd:HdOk NB l bs bc m css s tl (mset (.s nm) (.b true) M) (i+1) a3 W3:=zwo (l6:=ql5 s c M i nm tl []) hb3 rfl rfl hf3 hd3 hz3 hs3 hrd3 so;have e2:(i+1).toNat=i.toNat+1:=by omega
        refine qzh hk hn hbs hbc hcb hmb so hQ f (met:=nm::met) hhd hK3 ?_ ?_ (by omega) (zfc htr) (by rw[e2];omega)
        ·rw[e2];cases hm:hasB met nm with
         |true=>
          rw[hm] at hdr1;simpa[hm] using hdr1
         |false=>
          rw[hm] at hdr1;simp only[gnF,if_false];rw[←vU,hdr1];rfl
        ·cases hm:hasB met nm with
         |true=>simpa using hjl
         |false=>
          rw[hm] at hdr1;have:=congrArg kG hdr1;simp at this⊢;omega
       ·cases hR3
       ·cases hR3
      have pre3:=qcx it3 it4 pre2;refine wpIn_seq (wpIn_mono pre3 fun e a w hq=>?_);cases e with
      | normal =>
       refine wpIn_mono hq fun e a w hq=>?_;cases e with
       |normal=>
        refine wpIn_mono hq fun e a w hq=>?_;cases e with
        |normal=>exact hq
        |_=>exact hq.elim
       |_=>exact hq.elim
      |_=>exact hq.elim
     ·exact hQ _ _ _ (.inl rfl) hd2 hz2 (.inr hJ)
    ·rcases hR with⟨-,hnx⟩|⟨h,-⟩|⟨nm,tl,vl,-,-,h⟩
     ·exact⟨.inl rfl,hQ _ _ _ (.inl rfl) hd' hz' (.inl ⟨N,by rw[←hend (qot hnx _ _)];exact hk.step _ _ _ _ hK (qd3 (l:=l) (bs:=bs) hb')⟩)⟩
     ·cases h
     ·cases h
    ·rcases hR with⟨h,-⟩|⟨h,hil⟩|⟨nm,tl,vl,-,-,h⟩
     ·cases h
     ·injection h with h;injection h with h;have h:i'=0:=Int.ofNat.inj h;subst h;have e0:s.cs.length - i.toNat=0:=by omega
      exact⟨.inr rfl,hQ _ _ _ (.inr rfl) hd' hz' (.inl ⟨N,by rw[←hend (by rw[e0];rfl)];exact hk.step _ _ _ _ hK (qd3 (l:=l) (bs:=bs) hb')⟩)⟩
     ·cases h
   refine q7z (fun e a w hne hq=>?_) z5f (fun a w hp=>?_) (qcx z5f z8m pre)
   ·rcases hq with⟨rfl|rfl,hq⟩<;>exact hq
   ·refine wpIn_seq (wpIn_block ?_);rw[zt0];refine q2g z8m (q7z (fun e a w hne hq=>?_) z8m (fun a w h=>h) hp);rcases hq with⟨rfl|rfl,hq⟩
    ·exact hq
    ·exact hq
  have e:=zso;rw[←e] at hW;exact hW
end
end
variable{css:List Value}
section
open Go.RowKit Go.Shelf
theorem zsb:itC=seqs it1 (.block 0 (.loop itR)):=by kernel_rfl
theorem zg8:vB.body=some itC:=by kernel_rfl
def zod(l bs bc:Nat):Cx:=⟨evl (qf q2y) [],fun _=>True,.no,3,fun _ _=>True,fun _ _ _ _=>trivial,fun t=>if t=0 then yvV l else if t=1 then ptV bs else ptV bc⟩
def sS:St:=q33 iA [] 1 (q28 iA [] [] 1 sA')
theorem sS0:lkA sS.t 0=some (.sn 0 .any):=by kernel_rfl
theorem sS1:lkA sS.t 1=some (.sn 1 (.rd (.tok 0) qe [] none)):=by kernel_rfl
theorem sS2:lkA sS.t 2=some (.sn 2 .any):=by kernel_rfl
theorem sS4:lkA sS.t 4=some (.v (.tok 1) mpT [(0,65)] []):=by kernel_rfl
theorem zwr:lkA sS.t 14=some (.v (.len (.fld (.tok 0) 0)) (.int .i64) [] []):=by kernel_rfl
theorem zxe:lkA sS.t 15=some (.v (.tok 2) (.int .i64) [] []):=by kernel_rfl
theorem ztn{n l bs bc:Nat}(hn:1≤n){W0:World}{s:So}{c0:Ce}(hbs:bs<W0.heap.size)(hcb:bc<W0.heap.size)(hbc:bs≠bc)(hs:∃T,W0.heap[bs]? =some (.cells css.toArray T (0,0)))(rd:Rd W0 (fun b=>b<W0.heap.size∧b≠bc) (eS s) qe css)(so:s.ok)(hc:∃T,qm T=some ql∧W0.heap[bc]? =some (.cells (ceL c0).toArray T (0,0)))(co:c0.ok){R:World→Prop}
  (hK:∀m W1,But Nil W0 W1→W0.heap.size≤m→m<W1.heap.size→∃K J,KOk l n bs bc m W0.heap.size css s c0 K J∧K 0 W1.heap.size W1∧∀W,((∃N,K (yz s c0).length N W)∨J W)→R W):
  CallsIn (FR none) n uA 72 #[yvV l,ptV bs,ptV bc] W0 fun e W=>(∃v,e=.returned v)∧R W:=by
 refine callsIn_of_wp Try.func72 zg8 trivial ?_ rfl;have hW:(seqs it1 (.block 0 (.loop itR))).wpIn (FR none) n uA (bodyPost uA vB fun e W=>(∃v,e=.returned v)∧R W) {tmps:= #[yvV l,ptV bs,ptV bc]++uT (vB.ntmps - (#[yvV l,ptV bs,ptV bc]:Array Value).size) Go.undef,defers:=[]} W0:=by
  rw[Try.ntmps72];have hz0:(#[yvV l,ptV bs,ptV bc]++uT (67 - (#[yvV l,ptV bs,ptV bc]:Array Value).size) Go.undef).size=67:=by simp
  have z0:(#[yvV l,ptV bs,ptV bc]++uT (67 - (#[yvV l,ptV bs,ptV bc]:Array Value).size) Go.undef)[0]? =some (yvV l):=by rw[kD (by simp)];rfl
  have z1:(#[yvV l,ptV bs,ptV bc]++uT (67 - (#[yvV l,ptV bs,ptV bc]:Array Value).size) Go.undef)[1]? =some (ptV bs):=by rw[kD (by simp)];rfl
  have z2:(#[yvV l,ptV bs,ptV bc]++uT (67 - (#[yvV l,ptV bs,ptV bc]:Array Value).size) Go.undef)[2]? =some (ptV bc):=by rw[kD (by simp)];rfl
  generalize #[yvV l,ptV bs,ptV bc]++uT (67 - (#[yvV l,ptV bs,ptV bc]:Array Value).size) Go.undef=tm at hz0 z0 z1 z2⊢;refine q2g it1 (q7z (Q:=fun _ _ _=>False) (fun e a w _ h=>h.elim) it1 (fun a w h=>h) ?_);have hbf:Bs (zod l bs bc).A (zod l bs bc).F W0 (pinned fun _=>none) (fun _=>none) W0:=⟨fun x y b h=>(nomatch h),fun x b h=>(nomatch h),But.refl _ _,fun x b h=>(nomatch h),fun _ _=>⟨trivial,trivial⟩,fun x b h=>(nomatch h),fun x b h=>(nomatch h),Flo.no⟩;refine qud (c:=zod l bs bc) (z:=67) none n qbs (fun _=>uM _) qbx it1 (n:=1) (ann:=z2o) (R:=fun o=>o=[.mp [],.i 0]) (B:=fun _ _=>False) (ts:=iA) (ms:=[]) (kill:=[]) (σk:=sA') (l:=[eS s]) (σ:=sA) (by
   show(q65 uA q2y z2o 3 _ _ _ _ _).go _ _ _ _
   rw[zor];exact zxq _) rfl hbf ?_ rfl hz0 (fun st p' W' a' hR hst hb' hf' hd' hz'=>?_) (fun p' W' a' hR hb' hd' hz'=>by cases hR) (fun i' p' W' a' hR hb' hd' hz'=>by cases hR)
  ·refine⟨fun t x hx=>?_,fun k e he=>by cases he⟩;have hx:=qx hx;simp only[sA,gnM] at hx;rcases hx with⟨rfl,rfl⟩|⟨rfl,rfl⟩|⟨rfl,rfl⟩
   ·exact⟨_,z0,rfl,trivial⟩
   ·exact⟨_,z1,zfu (bc:=bc) (NB:=W0.heap.size) (s:=s) rfl rfl rfl (fun x b h=>by cases h) hbs hbc hs rd⟩
   ·exact⟨_,z2,rfl,trivial⟩
  ·subst hR;have hf':SF ((zod l bs bc).at (qf q2y) [eS s,.mp [],.i 0]) sS p' W' a':=hf';have hbut:But Nil W0 W':=hb'.but.mono fun b h _=>by
    obtain⟨x,hx⟩:=h;cases hx
   obtain⟨v0,t0,e0,-⟩:=hf'.t 0 _ sS0;obtain⟨v1,t1,e1,-⟩:=hf'.t 1 _ sS1;obtain⟨v2,t2,e2,-⟩:=hf'.t 2 _ sS2;obtain⟨v4,t4,h4⟩:=hf'.t 4 _ sS4;obtain⟨v14,t14,h14⟩:=hf'.t 14 _ zwr;obtain⟨v15,t15,h15⟩:=hf'.t 15 _ zxe;subst e0 e1 e2;obtain⟨m,q4,rfl,l4,es,clock,h4e,h4h,h4l⟩:=z7c h4;have h4e:D.mp []=D.mp l4:=h4e;injection h4e with h4e;subst h4e;obtain⟨rfl,-⟩:=qhk (n:=(s.cs.length:Nat)) (by
    show D.i (((eS s).fld 0).rs.length:Nat)=_
    rw[qed,q7i,uF]) h14
   obtain⟨rfl,hi⟩:=qhk (n:=0) rfl h15;have hmb:W0.heap.size≤m:=by
    rcases hb'.pin _ _ q4 with⟨x,hx⟩|h
    ·cases hx
    ·exact h
   have hmW:m<W'.heap.size:=hb'.bd _ _ q4;obtain⟨K,J,hk,hK0,hfin⟩:=hK m W' hbut hmb hmW;obtain⟨-,hs',rd'⟩:=hk.rd _ _ _ hK0;obtain⟨T,hT,hcc⟩:=hc;have hhd:HdOk W0.heap.size l bs bc m css s c0 [] 0 a' W':=⟨hz',hd',t0,t1,t2,t4,t14,t15,hs',rd',⟨T,hT,(hbut.block _ hcb (fun h=>h)).trans hcc⟩,⟨es,clock,h4h,h4l⟩,so,co,hi⟩;refine wpIn_block (wpIn_loop_rounds (s.cs.length+1) (qzh (c0:=c0) (j:=0) (met:=[]) hk hn hbs hbc hcb hmb so (fun e a W he hd hz hKJ=>?_) (s.cs.length+1) hhd hK0 (by rfl) (uM _) (by omega) zop (by simp)));have key:bodyPost uA vB (fun e W=>(∃v,e=.returned v)∧R W) .ret a W:=⟨hd,_,results_none rfl _ _ _,⟨_,rfl⟩,hfin W hKJ⟩;rcases he with rfl|rfl
   ·exact key
   ·exact key
 rw[←zsb] at hW;exact hW
end
section
open Go.RowKit Go.Shelf
def q4e(w:World)(bc m:Nat)(b:Nat):Prop:=b=bc∨b=m∨b=w.heap.size∨b=w.heap.size+1
def KpN(w:World)(bc m N B:Nat)(W W':World):Prop:=W.heap.size≤W'.heap.size∧∀b,b<B→N≤b∨q4e w bc m b→W'.heap[b]? =W.heap[b]?
structure ItOk(w:World)(a:Act)(n bs bc m:Nat)(ti tx:Tmp)(assign body:Code)(css:List Value)(s:So)(c0:Ce)(I:Nat→Nat→World→Prop)(M:Nat→Nat→Nat→Act→World→Prop)(J:World→Prop):Prop where
 rd:∀k N W,I k N W→w.heap.size+2≤N∧N≤W.heap.size∧(∃T,W.heap[bs]? =some (.cells css.toArray T (0,0)))∧Rd W (fun b=>b<w.heap.size+2∧b≠bc) (eS s) qe css
 step:∀k N W W',I k N W→But (q4e w bc m) W W'→I k N W'
 assign:∀k N W x,(yz s c0)[k]? =some x→x.ok→I k N W→assign.wpIn (FR (some (w.heap.size+1))) n uA (Exit.then (fun a1 W1=>M k N W.heap.size a1 W1∧KpN w bc m N W.heap.size W W1) (fun _ _ _=>False)) {tmps:=(a.tmps.setIfInBounds ti (.string x.name)).setIfInBounds tx (.agg (ceL x.val).toArray),defers:=[]} W
 mstep:∀k N B a1 W W',M k N B a1 W→But (q4e w bc m) W W'→M k N B a1 W'
 body:∀k N B a1 W,k<(yz s c0).length→M k N B a1 W→body.wpIn (FR (some (w.heap.size+1))) n uA (fun e a2 W2=>KpN w bc m N B W W2∧(e=.normal∧I (k+1) W2.heap.size W2∨e=.ret∧J W2)) a1 W
 stop:∀W W',J W→But (q4e w bc m) W W'→J W'
theorem qkz{S:Nat→Prop}{W:World}{b:Nat}{o:Obj}(h:S b):But S W (W.putObj b o):=by
 refine⟨rfl,rfl,rfl,by simp,fun k hk hn=>uG (fun e=>hn (by rw[e];exact h))⟩
theorem zdc(args:Array Value)(w:World):(callFunc 72 args).run uA w=.ok (.enter 72 args) w:=by kernel_rfl
theorem zj6{g:Operand}{ti tx:Tmp}{assign body:Code}{w:World}{nn:Nat}(hn:3≤nn){bs bc:Nat}{s:So}{c0:Ce}
  (hg:a.eval g=.func (.func 72) #[] #[ptV bs,ptV bc])(hbc:bs≠bc)(hs:∃T,w.heap[bs]? =some (.cells css.toArray T (0,0)))(rd:Rd w (fun b=>b≠bc) (eS s) qe css)(so:s.ok)(hc:∃T,qm T=some ql∧w.heap[bc]? =some (.cells (ceL c0).toArray T (0,0)))(co:c0.ok)
  (hK:∀m W1,But Nil w W1→w.heap.size+2≤m→m<W1.heap.size→∃I M J,ItOk w a (nn - 1 - 1) bs bc m ti tx assign body css s c0 I M J∧I 0 W1.heap.size W1∧
   (∀N W,I (yz s c0).length N W→W.heap[w.heap.size]? =some (.deferred (some []))→Q .normal {a with defers:={target:=.collected w.heap.size,args:= #[]}::a.defers} W)∧
   (∀W,J W→W.heap[w.heap.size]? =some (.deferred (some []))→Q .ret {a with defers:={target:=.collected w.heap.size,args:= #[]}::a.defers} W)):
  (Code.rangeFunc g #[ti,tx] assign body).wpIn (FR none) nn uA Q a w:=by
 refine wpIn_rangeFunc ?_;intro fn hfn;obtain⟨rec,hrec⟩:∃rec:LoopState→Option Code→Loop,rec=fun st pe=>{state:=st,pending:=pe,fn,tmps:=a.tmps,params:= #[ti,tx],assign,body,defers:=w.heap.size}:=⟨_,rfl⟩;have hD:∀o,(((w.alloc (.deferred (some []))).alloc o).heap[w.heap.size]? =some (.deferred (some []))):=fun o=>by
  rw[hget,if_neg (by simp),hget,if_pos rfl]
 have hL:∀o,(((w.alloc (.deferred (some []))).alloc o).heap[w.heap.size+1]? =some o):=fun o=>by
  rw[hget,if_pos (by simp)]
 refine⟨w.heap.size+1,[{target:=.collected w.heap.size,args:= #[]}],(w.alloc (.deferred (some []))).alloc (.loop (rec .ready none)),{target:=.fn (.func 72) #[ptV bs,ptV bc],args:= #[yvV (w.heap.size+1)]},(w.alloc (.deferred (some []))).alloc (.loop (rec .ready none)),72,
  #[yvV (w.heap.size+1)]++ #[ptV bs,ptV bc],(w.alloc (.deferred (some []))).alloc (.loop (rec .ready none)),?_,?_,?_,?_,fun _=>by omega,?_⟩
 ·rw[hrec];exact run_enterLoop_outer _ _ _ _ _
 ·simp only[resolve,hg];simp[go_sem]
 ·intro f' hf';trivial
 ·simp only[invoke];exact zdc _ _
 ·show CallsIn (FR none) (nn - 1) uA 72 #[yvV (w.heap.size+1),ptV bs,ptV bc] ((w.alloc (.deferred (some []))).alloc (.loop (rec .ready none))) _
  have hsz:((w.alloc (.deferred (some []))).alloc (.loop (rec .ready none))).heap.size=w.heap.size+2:=by simp
  obtain⟨Ts,hs⟩:=hs;obtain⟨Tc,hTc,hc⟩:=hc;have hbs:=qt hs;have hcb:=qt hc;have hkeep:∀b o,w.heap[b]? =some o→((w.alloc (.deferred (some []))).alloc (.loop (rec .ready none))).heap[b]? =some o:=fun b o h=>by
   have hb:b<w.heap.size:=(uB.1 h).1;rw[hget,if_neg (by simp;omega),hget,if_neg (by omega)];exact h
  have hb1:But Nil w ((w.alloc (.deferred (some []))).alloc (.loop (rec .ready none))):=((But.refl _ _).alloc _).alloc _
  refine(ztn (l:=w.heap.size+1) (R:=fun W=>(∃m I M J,ItOk w a (nn - 1 - 1) bs bc m ti tx assign body css s c0 I M J∧(∀N W,I (yz s c0).length N W→W.heap[w.heap.size]? =some (.deferred (some []))→Q .normal {a with defers:={target:=.collected w.heap.size,args:= #[]}::a.defers} W)∧(∀W,J W→W.heap[w.heap.size]? =some (.deferred (some []))→Q .ret {a with defers:={target:=.collected w.heap.size,args:= #[]}::a.defers} W)∧w.heap.size+2≤m∧
    ((∃N,I (yz s c0).length N W∧W.heap[w.heap.size+1]? =some (.loop (rec .ready none))∧W.heap[w.heap.size]? =some (.deferred (some [])))∨(J W∧W.heap[w.heap.size+1]? =some (.loop (rec .done (some .ret)))∧W.heap[w.heap.size]? =some (.deferred (some [])))))) (by omega) (by omega) (by omega) hbc ⟨Ts,hkeep _ _ hs⟩ (Rd.keeps (fun b o hb h=>⟨hkeep b o h,by rw[hsz];have:b<w.heap.size:=(uB.1 h).1;exact⟨by omega,hb⟩⟩) _ rd) so ⟨Tc,hTc,hkeep _ _ hc⟩ co ?_).mono ?_
  ·intro m W1 hbut hm1 hm2;rw[hsz] at hm1;obtain⟨I,M,J,hI,hI0,hq1,hq2⟩:=hK m W1 (hb1.trans_nil hbut) hm1 hm2;refine⟨fun k N W=>I k N W∧W.heap[w.heap.size+1]? =some (.loop (rec .ready none))∧W.heap[w.heap.size]? =some (.deferred (some [])),fun W=>J W∧W.heap[w.heap.size+1]? =some (.loop (rec .done (some .ret)))∧W.heap[w.heap.size]? =some (.deferred (some [])),⟨?_,?_,?_,?_⟩,⟨hI0,?_,?_⟩,?_⟩
   ·rintro k N W⟨h,-,-⟩;obtain⟨-,h2,h3,h4⟩:=hI.rd k N W h;rw[hsz];exact⟨h2,h3,h4⟩
   ·rintro k N W W'⟨h,hl,hd⟩hb;refine⟨hI.step k N W W' h (hb.mono fun b h _=>?_),(hb.block _ (uB.1 hl).1 (by omega)).trans hl,(hb.block _ (uB.1 hd).1 (by omega)).trans hd⟩;rcases h with h|h
    ·exact .inl h
    ·exact .inr (.inl h)
   ·-- one round
    rintro k N W x⟨h,hl,hd⟩hx hxo;obtain⟨hN0,hN,-,-⟩:=hI.rd k N W h;have hy:=run_yield (P:=uA) (args:= #[.string x.name,.agg (ceL x.val).toArray]) hl (by rw[hrec];rfl);rw[hrec] at hy;have hz:((#[ti,tx]:Array Tmp).zip #[Value.string x.name,.agg (ceL x.val).toArray]).foldl (fun tmps(x:Tmp×Value)=>tmps.setIfInBounds x.1 x.2) a.tmps=(a.tmps.setIfInBounds ti (.string x.name)).setIfInBounds tx (.agg (ceL x.val).toArray):=by
     simp
    have ha:=hI.assign k N W x hx hxo h;rw[←hz] at ha;refine⟨fn,_,assign,body,hy,roundIn_of_wpIn hfn (wpIn_mono ha ?_)⟩;rintro e a1 W1 h1;cases e with
    | normal =>
     obtain⟨hm,hk1⟩:=h1;have hl1:W1.heap[w.heap.size+1]? =some (.loop (rec .ready none)):=(hk1.2 _ (uB.1 hl).1 (.inr (.inr (.inr (.inr rfl))))).trans hl;have hd1:W1.heap[w.heap.size]? =some (.deferred (some [])):=(hk1.2 _ (uB.1 hd).1 (.inr (.inr (.inr (.inl rfl))))).trans hd;have hsz1:w.heap.size+1<W1.heap.size:=(uB.1 hl1).1;have hlb:(W1.putObj (w.heap.size+1) (.loop {rec .ready none with state:=.busy})).heap[w.heap.size+1]? =some (.loop {rec .ready none with state:=.busy}):=kJ hsz1;have hdb:(W1.putObj (w.heap.size+1) (.loop {rec .ready none with state:=.busy})).heap[w.heap.size]? =some (.deferred (some [])):=(uG (by omega)).trans hd1;refine⟨_,run_beginRound hl1 (by rw[hrec]),?_⟩;have hkl:k<(yz s c0).length:=(gnH.1 hx).1;refine wpIn_mono (hI.body k N W.heap.size a1 _ hkl (hI.mstep k N _ a1 _ _ hm (qkz (.inr (.inr (.inr rfl)))))) ?_;have hold:∀{W3:World}{o:Obj},KpN w bc m N W.heap.size (W1.putObj (w.heap.size+1) (.loop {rec .ready none with state:=.busy})) W3→∀b,b<W.heap.size→N≤b∨b=bc∨b=m→(W3.putObj (w.heap.size+1) o).heap[b]? =W.heap[b]? :=fun{W3 o}hk3 b hb hbN=>by
      have hne:b≠w.heap.size+1:=by omega
      have hh:N≤b∨q4e w bc m b:=by
       rcases hbN with h|h|h
       ·exact .inl h
       ·exact .inr (.inl h)
       ·exact .inr (.inr (.inl h))
      rw[uG hne,hk3.2 b hb hh,uG hne,hk1.2 b hb hh]
     rintro e a3 W3⟨hk3,⟨rfl,hi3⟩|⟨rfl,hj3⟩⟩
     ·have hl3:W3.heap[w.heap.size+1]? =some (.loop {rec .ready none with state:=.busy}):=(hk3.2 _ (uB.1 hl).1 (.inr (.inr (.inr (.inr rfl))))).trans hlb;have hd3:W3.heap[w.heap.size]? =some (.deferred (some [])):=(hk3.2 _ (uB.1 hd).1 (.inr (.inr (.inr (.inl rfl))))).trans hdb;have hsz3:w.heap.size+1<W3.heap.size:=(uB.1 hl3).1;refine⟨_,_,run_endRound (P:=uA) none hl3,?_,hold hk3,.inl ⟨rfl,?_,?_,(uG (by omega)).trans hd3⟩⟩
      ·have h1:=hk3.1;have h2:=hk1.1;simp at h1⊢;omega
      ·have:=hI.step _ _ _ _ hi3 (qkz (S:=q4e w bc m) (b:=w.heap.size+1) (o:=.loop {(rec .ready none) with state:=if(none:Option Code).isNone then .ready else .done,pending:=none}) (.inr (.inr (.inr rfl))));simpa using this
      ·have:=kJ (w:=W3) (o:=.loop {rec .ready none with state:=.ready,pending:=none}) hsz3;rw[hrec] at this⊢;exact this
     ·have hl3:W3.heap[w.heap.size+1]? =some (.loop {rec .ready none with state:=.busy}):=(hk3.2 _ (uB.1 hl).1 (.inr (.inr (.inr (.inr rfl))))).trans hlb;have hd3:W3.heap[w.heap.size]? =some (.deferred (some [])):=(hk3.2 _ (uB.1 hd).1 (.inr (.inr (.inr (.inl rfl))))).trans hdb;have hsz3:w.heap.size+1<W3.heap.size:=(uB.1 hl3).1;refine⟨_,_,run_endRound (P:=uA) (some .ret) hl3,?_,hold hk3,.inr ⟨rfl,hI.stop _ _ hj3 (qkz (.inr (.inr (.inr rfl)))),?_,(uG (by omega)).trans hd3⟩⟩
      ·have h1:=hk3.1;have h2:=hk1.1;simp at h1⊢;omega
      ·have:=kJ (w:=W3) (o:=.loop {rec .ready none with state:=.done,pending:=some .ret}) hsz3;rw[hrec] at this⊢;exact this
    |_=>exact h1.elim
   ·rintro W W'⟨h,hl,hd⟩hb;exact⟨hI.stop _ _ h hb.of_nil,(hb.block _ (uB.1 hl).1 (fun h=>h)).trans hl,(hb.block _ (uB.1 hd).1 (fun h=>h)).trans hd⟩
   ·exact(hbut.block _ (by rw[hsz];omega) (fun h=>h)).trans (hL _)
   ·exact(hbut.block _ (by rw[hsz];omega) (fun h=>h)).trans (hD _)
   ·intro W hW;exact⟨m,I,M,J,hI,hq1,hq2,hm1,hW⟩
  ·rintro e W2⟨⟨v,rfl⟩,m,I,M,J,hI,hq1,hq2,hm1,⟨N,hi,hl,hd⟩|⟨hj,hl,hd⟩⟩
   ·refine⟨none,_,by have:=run_endLoop (P:=uA) hl (by rw[hrec];simp);rw[hrec] at this;exact this,hq1 N _ (hI.step _ _ _ _ hi (qkz (.inr (.inr (.inr rfl))))) ((uG (by omega)).trans hd)⟩
   ·refine⟨some .ret,_,by have:=run_endLoop (P:=uA) hl (by rw[hrec];simp);rw[hrec] at this;exact this,wpIn_ret (hq2 _ (hI.stop _ _ hj (qkz (.inr (.inr (.inr rfl))))) ((uG (by omega)).trans hd))⟩
end
section
open Go.RowKit Go.Shelf
attribute [local go_sem] Oper.semAt_some
section
variable{A0 A1 A2 A3:Option Addr}{n0 n1 n2 n3 k0 k1 k2 k3:Nat}{x4 x5:Int}
theorem z6y(w:World)(s e:Nat)(T:TypeId)(hs:w.heap[s]? =some (.cells #[.slice A0 n0 k0,.slice A1 n1 k1,.slice A2 n2 k2,.slice A3 n3 k3,.int .i64 x4,.int .i64 x5] T (0,0))):Calls uA 39 #[.pointer (some ⟨s,0,none⟩),.pointer (some ⟨e,0,none⟩)] w fun r w'=>r=.returned (.func (.func 63) #[] #[.pointer (some ⟨w.heap.size+1,0,none⟩),.pointer (some ⟨w.heap.size,0,none⟩),.pointer (some ⟨w.heap.size+2,0,none⟩)])∧w'=((w.alloc (.cells #[.pointer (some ⟨s,0,none⟩)] 37)).alloc (.cells #[.pointer (some ⟨e,0,none⟩)] 83)).alloc (.cells #[.slice A0 n0 k0,.slice A1 n1 k1,.slice A2 n2 k2,.slice A3 n3 k3,.int .i64 x4,.int .i64 x5] 27):=by
 have h0:=cell_of_row w s 0 _ T (0,0) hs;have h1:=cell_of_row w s 1 _ T (0,0) hs;have h2:=cell_of_row w s 2 _ T (0,0) hs;have h3:=cell_of_row w s 3 _ T (0,0) hs;have h4:=cell_of_row w s 4 _ T (0,0) hs;have h5:=cell_of_row w s 5 _ T (0,0) hs;have hlt:=qt hs
 go_enter Try.func39,Try.ntmps39
 go_wp2_with fail
 exact bodyPost_ret (v:=.func (.func 63) #[] #[.pointer (some ⟨w.heap.size+1,0,none⟩),.pointer (some ⟨w.heap.size,0,none⟩),.pointer (some ⟨w.heap.size+2,0,none⟩)]) (by simp[results,Try.results39,go_sem]) rfl ⟨rfl,rfl⟩
theorem z8j{n:Nat}(w:World)(b3 b2 b5 e:Nat)(u:FrameMode)(h3:w.cell? ⟨b3,0,none⟩=some (.pointer (some ⟨e,0,none⟩)))(he:w.cell? ⟨e,0,none⟩=some (.int .i64 0)):CallsDIn (FR none) n uA 63 #[.pointer (some ⟨b3,0,none⟩),.pointer (some ⟨b2,0,none⟩),.pointer (some ⟨b5,0,none⟩)] u w fun r u' w'=>u'=u∧(r=.returned (.tuple #[])∧w'=w):=by
 refine callsDIn_of_wp (F:=FR none) jF rfl trivial ((wpIn_wide (n:=n)).2 ?_);simp only[jD,kF,vQ,vR,vY,vX,vE,vD,vM,vJ,kL,kI]
 go_wp2_with fail
 exact⟨rfl,_,results_none rfl _ _ _,rfl,rfl⟩
variable{m0 m1 m2 m3 l0 l1 l2 l3:Nat}{y4 y5:Int}{B0 B1 B2 B3:Option Addr}
theorem zd6{n:Nat}(w:World)(b3 b2 b5 e s:Nat)(u:FrameMode)(E:Int)(h3:w.cell? ⟨b3,0,none⟩=some (.pointer (some ⟨e,0,none⟩)))(he:w.cell? ⟨e,0,none⟩=some (.int .i64 E))(hE:¬E=0)(h2:w.cell? ⟨b2,0,none⟩=some (.pointer (some ⟨s,0,none⟩)))
  (T T':TypeId)(hs:w.heap[s]? =some (.cells #[.slice A0 n0 k0,.slice A1 n1 k1,.slice A2 n2 k2,.slice A3 n3 k3,.int .i64 x4,.int .i64 x5] T (0,0)))(hw:w.heap[b5]? =some (.cells #[.slice B0 l0 m0,.slice B1 l1 m1,.slice B2 l2 m2,.slice B3 l3 m3,.int .i64 y4,.int .i64 y5] T' (0,0)))
  (hn:b3≠s∧b2≠s∧b5≠s)(hl0:l0≤k0)(hl1:l1≤k1)(hl2:l2≤k2):
  CallsDIn (FR none) n uA 63 #[.pointer (some ⟨b3,0,none⟩),.pointer (some ⟨b2,0,none⟩),.pointer (some ⟨b5,0,none⟩)] u w fun r u' w'=>u'=u∧(r=.returned (.tuple #[])∧But (fun b=>b=s) w w'∧w'.heap[s]? =some (.cells #[.slice A0 l0 k0,.slice A1 l1 k1,.slice A2 l2 k2,.slice A3 n3 k3,.int .i64 y4,.int .i64 x5] T (0,0))):=by
 refine callsDIn_of_wp (F:=FR none) jF rfl trivial ((wpIn_wide (n:=n)).2 ?_);simp only[jD,kF,vQ,vR,vY,vX,vE,vD,vM,vJ,kL,kI];have s0:=cell_of_row w s 0 _ T (0,0) hs;have f0:=frz hs 0;have w0:=cell_of_row w b5 0 _ T' (0,0) hw
 go_wp2_with fail
 go_still_tail 9,(by kernel_rfl)
 change wpList _ _ _ _ _ w.drew
 go_wp2_with fail
 have hb1:But (fun b=>b=s) w ((w.setCell ⟨s,0,none⟩ (.slice A0 l0 k0)).drew):=((But.refl (fun b=>b=s) w).setCell (p:=⟨s,0,none⟩) (.inl rfl) _).drew;have hs1:((w.setCell ⟨s,0,none⟩ (.slice A0 l0 k0)).drew).heap[s]? =some (.cells #[.slice A0 l0 k0,.slice A1 n1 k1,.slice A2 n2 k2,.slice A3 n3 k3,.int .i64 x4,.int .i64 x5] T (0,0)):=by
  show(w.setCell ⟨s,0,none⟩ (.slice A0 l0 k0)).heap[s]? =_
  have:=qru (i:=0) hs (.slice A0 l0 k0);simpa using this
 have hw1:((w.setCell ⟨s,0,none⟩ (.slice A0 l0 k0)).drew).heap[b5]? =some (.cells #[.slice B0 l0 m0,.slice B1 l1 m1,.slice B2 l2 m2,.slice B3 l3 m3,.int .i64 y4,.int .i64 y5] T' (0,0)):=zkf hw hn.2.2;have h21:((w.setCell ⟨s,0,none⟩ (.slice A0 l0 k0)).drew).cell? ⟨b2,0,none⟩=some (.pointer (some ⟨s,0,none⟩)):=hb1.cell hn.2.1 h2;clear s0 f0 w0;generalize (w.setCell ⟨s,0,none⟩ (.slice A0 l0 k0)).drew=W1 at *;have s0:W1.cell? ⟨s,1,none⟩=some (.slice A1 n1 k1):=by have:=cell_of_row W1 s 1 _ T (0,0) hs1;simpa using this
 have f0:=frz hs1 1;have w0:W1.cell? ⟨b5,1,none⟩=some (.slice B1 l1 m1):=by have:=cell_of_row W1 b5 1 _ T' (0,0) hw1;simpa using this
 go_still_tail 9,(by kernel_rfl)
 change wpList _ _ _ _ _ W1.drew
 go_wp2_with fail
 have hb2:But (fun b=>b=s) w ((W1.setCell ⟨s,1,none⟩ (.slice A1 l1 k1)).drew):=(hb1.setCell (p:=⟨s,1,none⟩) (.inl rfl) _).drew;have hs2:((W1.setCell ⟨s,1,none⟩ (.slice A1 l1 k1)).drew).heap[s]? =some (.cells #[.slice A0 l0 k0,.slice A1 l1 k1,.slice A2 n2 k2,.slice A3 n3 k3,.int .i64 x4,.int .i64 x5] T (0,0)):=by
  show(W1.setCell ⟨s,1,none⟩ (.slice A1 l1 k1)).heap[s]? =_
  have:=qru (i:=1) hs1 (.slice A1 l1 k1);simpa using this
 have hw2:((W1.setCell ⟨s,1,none⟩ (.slice A1 l1 k1)).drew).heap[b5]? =some (.cells #[.slice B0 l0 m0,.slice B1 l1 m1,.slice B2 l2 m2,.slice B3 l3 m3,.int .i64 y4,.int .i64 y5] T' (0,0)):=zkf hw1 hn.2.2;have h22:((W1.setCell ⟨s,1,none⟩ (.slice A1 l1 k1)).drew).cell? ⟨b2,0,none⟩=some (.pointer (some ⟨s,0,none⟩)):=hb2.cell hn.2.1 h2;clear s0 f0 w0;generalize (W1.setCell ⟨s,1,none⟩ (.slice A1 l1 k1)).drew=W2 at *;have s0:W2.cell? ⟨s,2,none⟩=some (.slice A2 n2 k2):=by have:=cell_of_row W2 s 2 _ T (0,0) hs2;simpa using this
 have f0:=frz hs2 2;have w0:W2.cell? ⟨b5,2,none⟩=some (.slice B2 l2 m2):=by have:=cell_of_row W2 b5 2 _ T' (0,0) hw2;simpa using this
 go_still_tail 9,(by kernel_rfl)
 have w4:W2.cell? ⟨b5,4,none⟩=some (.int .i64 y4):=by have:=cell_of_row W2 b5 4 _ T' (0,0) hw2;simpa using this
 have s4:W2.cell? ⟨s,4,none⟩=some (.int .i64 x4):=by have:=cell_of_row W2 s 4 _ T (0,0) hs2;simpa using this
 have f4:=frz hs2 4;have q1:¬b5=s:=hn.2.2;have q2:¬b2=s:=hn.2.1;change wpList _ _ _ _ _ W2.drew
 go_wp2_with fail
 refine⟨rfl,_,results_none rfl _ _ _,rfl,((hb2.setCell (p:=⟨s,2,none⟩) (.inl rfl) _).setCell (p:=⟨s,4,none⟩) (.inl rfl) _).drew,?_⟩
 show((W2.setCell ⟨s,2,none⟩ (.slice A2 l2 k2)).setCell ⟨s,4,none⟩ (.int .i64 y4)).heap[s]? =_
 have:=qru (i:=4) (qru (i:=2) hs2 (.slice A2 l2 k2)) (.int .i64 y4);simpa using this
end
end
def yi:Ct:=⟨37,[.val (.st 26),.val (.st 32)],[(.row 81,true)],[],none,[],[]⟩
theorem qvy:EnZ yi:=fun _ _=>by kernel_rfl
variable{o:Option Nat}{c1:List Value}{ds:List D}
section
section
variable{A:Nat→Prop}{p:qj}{w:World}{dep:List Nat}
theorem qrt(h:Fl A p w dep o d (.row E) c1):∃l B cap,d=.r l∧c1=[.slice B l.length cap]∧l.length≤cap∧∀m,m≤l.length→Fl A p w dep o (.r (l.take m)) (.row E) [.slice B m cap]:=by
 cases o with
 | none =>
  have h:Rd w (FFD A p dep) d (.row E) c1:=h;cases d with
  |r l=>
   obtain⟨E',te,B,cap,e1,hte,rfl,h1,h2,h3,h4⟩:=h;injection e1 with e1;subst e1;refine⟨l,B,cap,rfl,rfl,h1,fun m hm=>?_⟩;have hl:(l.take m).length=m:=by simp;omega
   refine⟨E,te,B,cap,rfl,hte,by rw[hl],by rw[hl];omega,by rw[hl];omega,h3,q1r.2 fun j hj=>?_⟩;rw[vN];exact q1r.1 h4 j (by omega)
  |u=>exact h.elim
  |i n=>obtain⟨k,e,-⟩:=h;cases e
  |b x=>obtain⟨e,-⟩:=h;cases e
  |s x=>obtain⟨e,-⟩:=h;cases e
  |a l=>obtain⟨T,fs,e,-⟩:=h;cases e
  |mp l=>obtain⟨K,V,kt,vt,g,es,clock,e,-⟩:=h;cases e
 | some pin =>
  rcases h with⟨E',te,l,v,e1,hte,rfl,rfl,hv⟩|⟨K,V,kt,vt,l,g,es,clock,e,-⟩
  ·injection e1 with e1;subst e1;rcases hv with⟨rfl,rfl⟩|⟨g,cap,cur,rfl,hg,hh,h1,h2,h3,h4,h5⟩
   ·exact⟨[],none,0,rfl,rfl,kB _,fun m hm=>.inl ⟨E,te,[],_,rfl,hte,by simp,rfl,.inl ⟨by simp at hm;rw[hm],rfl⟩⟩⟩
   ·refine⟨l,some ⟨g,0,none⟩,cap,rfl,rfl,h1,fun m hm=>?_⟩;have hl:(l.take m).length=m:=by simp;omega
    refine .inl ⟨E,te,l.take m,_,rfl,hte,rfl,rfl,.inr ⟨g,cap,cur,by rw[hl],hg,hh,by rw[hl];omega,h2,h3,by rw[hl];omega,fun i hi=>?_⟩⟩;obtain⟨cs,q1,q2⟩:=h5 i (by omega);exact⟨cs,q1,by rw[vN];exact q2⟩
  ·cases e
theorem z2b(h:Fl A p w dep o d (.int .i64) c1):∃n,d=.i n∧c1=[.int .i64 n]∧ji .i64 n=true∧∀m,ji .i64 m=true→Fl A p w dep o (.i m) (.int .i64) [.int .i64 m]:=by
 cases o with
 | none =>
  have h:Rd w (FFD A p dep) d (.int .i64) c1:=h;cases d with
  |i n=>
   obtain⟨k,e,rfl,hr⟩:=h;injection e with e;subst e;exact⟨n,rfl,rfl,hr,fun m hm=>⟨.i64,rfl,rfl,hm⟩⟩
  |u=>exact h.elim
  |r l=>obtain⟨E,te,B,cap,e,-⟩:=h;cases e
  |b x=>obtain⟨e,-⟩:=h;cases e
  |s x=>obtain⟨e,-⟩:=h;cases e
  |a l=>obtain⟨T,fs,e,-⟩:=h;cases e
  |mp l=>obtain⟨K,V,kt,vt,g,es,clock,e,-⟩:=h;cases e
 |some pin=>
  rcases h with⟨E',te,l,v,e1,-⟩|⟨K,V,kt,vt,l,g,es,clock,e,-⟩
  ·cases e1
  ·cases e
abbrev qss:TypeId:=match qe with
 |.st S=>S
 |_=>0
theorem qrd:flds qss=some [zl,qo9,z1j,q36,.int .i64,.int .i64]:=by kernel_rfl
theorem q5l{own:List (Nat×Nat)}{t:Ty}(h:Fls A p w dep own j ds (t::ts) cs):∃d ds' c1 c2,ds=d::ds'∧cs=c1++c2∧Fl A p w dep (lkA own j) d t c1∧Fls A p w dep own (j+1) ds' ts c2:=by
 cases ds with
 |nil=>cases h.1
 |cons d ds=>
  obtain⟨t',ts',c1,c2,e,e2,h1,h2⟩:=h;injection e with e1 e1';subst e1 e1';exact⟨d,ds,c1,c2,rfl,e2,h1,h2⟩
theorem zh8{own:List (Nat×Nat)}(h:Fls A p w dep own j ds [] cs):ds=[]∧cs=[]:=by
 cases ds with
 |nil=>exact⟨rfl,h.2⟩
 |cons d ds=>
  obtain⟨t',ts',c1,c2,e,-⟩:=h;cases e
theorem qjw{own:List (Nat×Nat)}(h:Con A p w d qe own dep cs):∃(l0 l1 l2 l3:List D)(B0 B1 B2 B3:Option Addr)(k0 k1 k2 k3:Nat)(x4 x5:Int),d=.a [.r l0,.r l1,.r l2,.r l3,.i x4,.i x5]∧cs=[.slice B0 l0.length k0,.slice B1 l1.length k1,.slice B2 l2.length k2,.slice B3 l3.length k3,.int .i64 x4,.int .i64 x5]∧(l0.length≤k0∧l1.length≤k1∧l2.length≤k2)∧ji .i64 x4=true∧
  ∀m0 m1 m2 y4,m0≤l0.length→m1≤l1.length→m2≤l2.length→ji .i64 y4=true→Con A p w (.a [.r (l0.take m0),.r (l1.take m1),.r (l2.take m2),.r l3,.i y4,.i x5]) qe own dep [.slice B0 m0 k0,.slice B1 m1 k1,.slice B2 m2 k2,.slice B3 l3.length k3,.int .i64 y4,.int .i64 x5]:=by
 have h:Con A p w d (.st qss) own dep cs:=h;obtain⟨fs,ds,hf,rfl,hl⟩:=h;rw[qrd] at hf;injection hf with hf;subst hf;obtain⟨d0,ds,c0,cs,rfl,rfl,h0,hl⟩:=q5l hl;obtain⟨d1,ds,c1,cs,rfl,rfl,h1,hl⟩:=q5l hl;obtain⟨d2,ds,c2,cs,rfl,rfl,h2,hl⟩:=q5l hl;obtain⟨d3,ds,c3,cs,rfl,rfl,h3,hl⟩:=q5l hl;obtain⟨d4,ds,c4,cs,rfl,rfl,h4,hl⟩:=q5l hl;obtain⟨d5,ds,c5,cs,rfl,rfl,h5,hl⟩:=q5l hl;obtain⟨rfl,rfl⟩:=zh8 hl;obtain⟨l0,B0,k0,rfl,rfl,q0,f0⟩:=qrt h0;obtain⟨l1,B1,k1,rfl,rfl,q1,f1⟩:=qrt h1;obtain⟨l2,B2,k2,rfl,rfl,q2,f2⟩:=qrt h2;obtain⟨l3,B3,k3,rfl,rfl,q3,f3⟩:=qrt h3;obtain⟨x4,rfl,rfl,q4,f4⟩:=z2b h4;obtain⟨x5,rfl,rfl,q5,f5⟩:=z2b h5;refine⟨l0,l1,l2,l3,B0,B1,B2,B3,k0,k1,k2,k3,x4,x5,rfl,rfl,⟨q0,q1,q2⟩,q4,fun m0 m1 m2 y4 e0 e1 e2 e4=>?_⟩
 show Con A p w _ (.st qss) own dep _
 exact⟨_,_,qrd,rfl,_,_,_,_,rfl,rfl,f0 m0 e0,_,_,_,_,rfl,rfl,f1 m1 e1,_,_,_,_,rfl,rfl,f2 m2 e2,_,_,_,_,rfl,rfl,h3,_,_,_,_,rfl,rfl,f4 y4 e4,_,_,_,_,rfl,rfl,h5,rfl,rfl⟩
end
def q5c:List D→Option (List D)
 |[e,s,w]=>if e.int=0 then some [s] else if(w.fld 0).rs.length≤(s.fld 0).rs.length∧(w.fld 1).rs.length≤(s.fld 1).rs.length∧(w.fld 2).rs.length≤(s.fld 2).rs.length then some [.a [.r ((s.fld 0).rs.take (w.fld 0).rs.length),.r ((s.fld 1).rs.take (w.fld 1).rs.length),.r ((s.fld 2).rs.take (w.fld 2).rs.length),s.fld 3,w.fld 4,s.fld 5]] else none
 |_=>none
theorem qfu(args:Array Value)(w:World):(callFunc 63 args).run uA w=.ok (.enter 63 args) w:=by kernel_rfl
theorem qu1(args:Array Value)(w:World):(callFunc 39 args).run uA w=.ok (.enter 39 args) w:=by kernel_rfl
def qfm:Ct:={f:=63,ar:=[.val (.st 4242424244)],rs:=[]}
theorem zmk{w:World}{P:Nat→Prop}(h:Rd w P d (.st 4242424244) cs):False:=by
 cases d with
 |a l=>
  obtain⟨T,fs,e,hf,-⟩:=h;injection e with e;subst e;cases hf
 |u=>exact h
 |i n=>obtain⟨k,e,-⟩:=h;cases e
 |b x=>cases h.1
 |s x=>cases h.1
 |r l=>obtain⟨E,te,A,cap,e,-⟩:=h;cases e
 |mp l=>obtain⟨K,V,kt,vt,g,es,clock,e,-⟩:=h;cases e
theorem z2y:FOk qfm q5c:=
 ⟨qfu,(fun A F p w vs us ds outs hg _ _ _ hvl hargs=>by
  obtain⟨v,r,d,ds',e1,e2,⟨cs,h1,h2⟩,-⟩:=hargs;exact(zmk h2).elim),fun h=>absurd rfl h⟩
end
variable{u:FrameMode}
section
def zc5(t:Nat)(σ:St):Option (Nat×St):=match lkA σ.t t with
 |some (.ref k [] 0 ty)=>if Ty.beq ty zy&&(σ.t.all fun e=>q9z e.2) then some (k,⟨q08 σ.t t (.sn (VB+t) (.ref k [] 0 ty)),σ.m⟩) else none
 |_=>none
def zg9(t:Nat)(σ:St):Option (Nat×St):=match lkA σ.t t with
 |some (.sn q (.ref k [] 0 ty))=>if jB q (VB+t)&&Ty.beq ty zy then some (k,⟨q08 σ.t t (.ref k [] 0 ty),σ.m⟩) else none
 |_=>none
def z3c(ks j:Nat)(es:Ent)(ee was:X)(σ:St):St:=⟨q9w (q20 (ks * 16)) no σ.t,q08 (q9x (q20 (ks * 16)) no σ.m) ks ⟨.call j 0 [ee,es.x,was],qe,es.own,es.dep⟩⟩
def z7i(k:Nat)(σ:St):Bool:=σ.t.any fun e=>match lkA σ.t e.1 with
 |some x=>x.has k
 |none=>false
def qio(ct:Ct)(fn:Func)(j ks te:Nat)(was:X):Nat→ResD→St→Tree:=fun n r σ=>match r with
 |.exit i=>.bad (8000000+i)
 | _ => match zg9 te σ with
  |some (ke,σ1)=>(match lkA σ1.m ks,lkA σ1.m ke with
   |some es,some ee=>if Ty.beq es.t qe&&(Ty.beq ee.t zy&&(!zs (es.own.map (·.2)++es.dep) (ks * 16)&&z7i ks σ1)) then .need [.ok j [ee.x,es.x,was]] (qdx ct fn.results.toList n .ret (z3c ks j es ee.x was σ1)) else .bad 9100000
   |_,_=>.bad 9200000)
  |none=>.bad 9300000
def z31(o:Oper):Option (Nat×Operand×Operand×Nat):=match o.op,o.dst,o.guard with
 |.call {callee:=.value y,args:=⟨[x1,.tmp te]⟩,argTypes:=_},some t,none=>some (t,y,x1,te)
 |_,_,_=>none
def zue(P:Program)(tbl:Tbl)(ann:Ann)(ct:Ct)(fn:Func)(j:Nat)(ops:List Oper)(post:Code)(n:Nat)(σ:St):Tree:=match ops with
 | [o1, ck, df] => (match zkp df, z31 ck with
  | some t, some (t', y, x1, te) => if jB t t' && (o1.guard.isNone && (q9o ct.ar.length fn.ntmps o1 && (q9o ct.ar.length fn.ntmps ck && !Nat.beq t te))) then (match stepG P tbl (dsts [o1, ck, df]) σ o1 with
   | some (N, σ1) => (match opd σ1 [] y, opd σ1 [] x1, zc5 te σ1 with
    |some (.fn f []),some (.ref ks [] 0 ty),some (_,σ2)=>(match lkA σ1.m ks with
     |some es=>if jB f 39&&(Ty.beq ty qe&&(Ty.beq es.t qe&&(Nat.blt ks ct.ar.length&&X.upto n es.x))) then z5y N (toT P tbl ann ct.ar.length fn.ntmps post [] n ⟨q08 σ2.t t .any,σ2.m⟩ (qio ct fn j ks te es.x)) else .bad 9400000
     |none=>.bad 9500000)
    |_,_,_=>.bad 9600000)
   |none=>.bad 9700000) else .bad 9800000
  |_,_=>.bad 9900000)
 |_=>.bad 9950000
def z9i(P:Program)(tbl:Tbl)(ann:Ann)(ct:Ct)(fn:Func)(j:Nat)(cd:Code):Tree:=match qie cd with
 |some (xs,_,ops,post)=>q65 P tbl ann ct.ar.length fn.ntmps xs (q7m ct.ars) (qu3 ct) fun n r σ=>match r with
  |.normal=>zue P tbl ann ct fn j ops post n σ
  |r=>qdx ct fn.results.toList n r σ
 |none=>.bad 9990000
theorem z0r{n:Nat}{f:FuncId}{args:Array Value}{w:World}{R:Ending→FrameMode→World→Prop}(h:CallsDIn (FR none) n P f args u w R):CallsD P f args u w R:=fun c cs hu=>
 let ⟨e,u',w',fr,r,s,k,_,g⟩:=h.2 c cs hu (room_wide _)
 ⟨e,u',w',fr,r,comesIn_wide.1 s,k,g⟩
section
variable{c:Cx}{p:qj}{w w0 w':World}{S0:Nat→Prop}{a:Act}{σ σ':St}{d:List Deferred}{z:Nat}{tbl:Tbl}
theorem z6t{t k:Nat}(h:zc5 t σ=some (k,σ'))(hf:SF c σ p w a):SF {c with snap:=fun q=>if q=VB+t then a.eval (.tmp t) else c.snap q} σ' p w a∧∃g,p (k * 16)=some g∧a.eval (.tmp t)=.pointer (some ⟨g,0,none⟩):=by
 unfold zc5 at h;split at h
 ·rename_i k' ty hx;split at h
  ·rename_i hok;simp only[gnB,uN] at hok;simp only[gnS] at h;obtain⟨rfl,rfl⟩:=h;obtain⟨v0,hv0,g0,hg0,e0,-⟩:=hf.t t _ hx;have hev:a.eval (.tmp t)=v0:=by
    show a.tmps.getD t undef=v0
    simp[kX,hv0]
   refine⟨⟨fun k y hy=>?_,fun k e he=>hf.m k e he⟩,g0,hg0,hev.trans e0⟩;by_cases hk:t=k
   ·subst hk;have hy:lkA (q08 σ.t t (.sn (VB+t) (.ref k' [] 0 ty))) t=some y:=hy;rw[q1w] at hy;injection hy with hy;subst hy;obtain⟨v,hv,hp⟩:=hf.t t _ hx;refine⟨v,hv,?_,qbv _ v (hok.2 _ (qx hx)) hp⟩
    show v=if VB+t=VB+t then a.eval (.tmp t) else _
    rw[if_pos rfl]
    show v=a.tmps.getD t undef
    simp[kX,hv]
   ·have hy:lkA (q08 σ.t t (.sn (VB+t) (.ref k' [] 0 ty))) k=some y:=hy;rw[q3z hk] at hy;obtain⟨v,hv,hp⟩:=hf.t k y hy;exact⟨v,hv,qbv y v (hok.2 _ (qx hy)) hp⟩
  ·cases h
 ·cases h
theorem z6u{t k:Nat}(h:zg9 t σ=some (k,σ'))(hf:SF c σ p w a):SF c σ' p w a∧∃g,p (k * 16)=some g∧c.snap (VB+t)=.pointer (some ⟨g,0,none⟩):=by
 unfold zg9 at h;split at h
 ·rename_i q k' ty hx;split at h
  ·rename_i hq;simp only[gnB] at hq;simp only[gnS] at h;obtain⟨rfl,rfl⟩:=h;obtain⟨v,hv,he,g,hg,e,hat⟩:=hf.t t _ hx;have hq:=gnN hq.1;refine⟨⟨fun k y hy=>?_,hf.m⟩,g,hg,by rw[←hq,←he];exact e⟩;by_cases hk:t=k
   ·subst hk;have hy:lkA (q08 σ.t t (.ref k' [] 0 ty)) t=some y:=hy;rw[q1w] at hy;injection hy with hy;subst hy;exact⟨v,hv,g,hg,e,hat⟩
   ·have hy:lkA (q08 σ.t t (.ref k' [] 0 ty)) k=some y:=hy;rw[q3z hk] at hy;exact hf.t k y hy
  ·cases h
 ·cases h
theorem zba{k x:Nat}{l:List Nat}(h:zs l k=false)(hx:x∈l):q20 k x=false:=by
 cases hq:q20 k x with
 |false=>rfl
 |true=>
  exfalso;have e:x=k:=gnN hq;rw[yo.2 (e▸hx)] at h;cases h
theorem z3y{nn:Nat}(hkj:∀l,(qf tbl j) l=q5c l){l:List D}{ks ke:Nat}{es ee:Ent}{was:X}{gs ge b5 b2 b3:Nat}(hb:Bs c.A c.F w0 S0 p w)(hf:SF (c.at (qf tbl) l) σ p w a)(hes:lkA σ.m ks=some es)(hee:lkA σ.m ke=some ee)(ht:es.t=qe)(hte:ee.t=zy)(hown:zs (es.own.map (·.2)++es.dep) (ks * 16)=false)
  (hgs:p (ks * 16)=some gs)(hge:p (ke * 16)=some ge)(hsay:(X.ok j [ee.x,es.x,was]).says (evl (qf tbl) l))
  {m0 m1 m2 m3 l0 l1 l2 l3:Nat}{y4 y5:Int}{B0 B1 B2 B3:Option Addr}{T2 T3 T':TypeId}(h3:w.heap[b3]? =some (.cells #[.pointer (some ⟨ge,0,none⟩)] T3 (0,0)))(h2:w.heap[b2]? =some (.cells #[.pointer (some ⟨gs,0,none⟩)] T2 (0,0)))(hw:w.heap[b5]? =some (.cells #[.slice B0 l0 m0,.slice B1 l1 m1,.slice B2 l2 m2,.slice B3 l3 m3,.int .i64 y4,.int .i64 y5] T' (0,0)))
  (hwas:((was.ev (evl (qf tbl) l)).fld 0).rs.length=l0∧((was.ev (evl (qf tbl) l)).fld 1).rs.length=l1∧((was.ev (evl (qf tbl) l)).fld 2).rs.length=l2∧(was.ev (evl (qf tbl) l)).fld 4=.i y4)(hy4:ji .i64 y4=true)(hn:b3≠gs∧b2≠gs∧b5≠gs):
  CallsDIn (FR none) nn uA 63 #[.pointer (some ⟨b3,0,none⟩),.pointer (some ⟨b2,0,none⟩),.pointer (some ⟨b5,0,none⟩)] u w fun r u' w'=>u'=u∧(r=.returned (.tuple #[])∧Bs c.A c.F w0 S0 p w'∧SF (c.at (qf tbl) l) (z3c ks j es ee.x was σ) p w' a):=by
 obtain⟨g,cs,T,hg,hh,hT,hcon⟩:=hf.m ks _ hes;rw[hgs] at hg;injection hg with hg;subst hg;obtain⟨g',cs',Te,hg',hh',hTe,hcon'⟩:=hf.m ke _ hee;rw[hge] at hg';injection hg' with hg';subst hg';rw[hte] at hcon';obtain⟨E,hE,hcE,-⟩:=Con.int (c:=c) hcon';have hhE:w.cell? ⟨ge,0,none⟩=some (.int .i64 E):=by
  have:=cell_of_row w ge 0 _ Te (0,0) hh';rw[this];have e:cs'= #[.int .i64 E]:=by
   obtain⟨cs'⟩:=cs';have hcE:cs'=[.int .i64 E]:=hcE;rw[hcE]
  rw[e];rfl
 have h3c:w.cell? ⟨b3,0,none⟩=some (.pointer (some ⟨ge,0,none⟩)):=by
  have:=cell_of_row w b3 0 _ T3 (0,0) h3;simpa using this
 have h2c:w.cell? ⟨b2,0,none⟩=some (.pointer (some ⟨gs,0,none⟩)):=by
  have:=cell_of_row w b2 0 _ T2 (0,0) h2;simpa using this
 rw[ht] at hcon;obtain⟨r0,r1,r2,r3,A0,A1,A2,A3,k0,k1,k2,k3,x4,x5,eD,ecs,⟨q0,q1,q2⟩,q4,hcut⟩:=qjw hcon;have ecs:cs= #[.slice A0 r0.length k0,.slice A1 r1.length k1,.slice A2 r2.length k2,.slice A3 r3.length k3,.int .i64 x4,.int .i64 x5]:=by
  obtain⟨cs⟩:=cs;have ecs:cs=_:=ecs;rw[ecs]
 subst ecs;have hE:ee.x.ev (evl (qf tbl) l)=.i E:=hE;have eD:es.x.ev (evl (qf tbl) l)=.a [.r r0,.r r1,.r r2,.r r3,.i x4,.i x5]:=eD;have eN:(X.call j 0 [ee.x,es.x,was]).ev (evl (qf tbl) l)=(((q5c [.i E,.a [.r r0,.r r1,.r r2,.r r3,.i x4,.i x5],was.ev (evl (qf tbl) l)]).getD []).getD 0 .u):=by
  show(((qf tbl j) [ee.x.ev (evl (qf tbl) l),es.x.ev (evl (qf tbl) l),was.ev (evl (qf tbl) l)]).getD []).getD 0 .u=_
  rw[hkj,hE,eD]
 have hsay:(q5c [.i E,.a [.r r0,.r r1,.r r2,.r r3,.i x4,.i x5],was.ev (evl (qf tbl) l)]).isSome=true:=by
  have h:(D.b ((qf tbl j) [ee.x.ev (evl (qf tbl) l),es.x.ev (evl (qf tbl) l),was.ev (evl (qf tbl) l)]).isSome).tt=true:=hsay;rw[hkj,hE,eD] at h;exact h
 have ownZ:∀x∈es.own.map (·.2),(q20 (ks * 16) x=false∧no x=false):=fun x hx=>⟨zba hown (List.mem_append_left _ hx),rfl⟩;have depZ:∀x∈es.dep,(q20 (ks * 16) x=false∧no x=false):=fun x hx=>⟨zba hown (List.mem_append_right _ hx),rfl⟩
 -- what holds where only the store's own block has changed
 have key:∀w' cs',But (fun b=>b=gs) w w'→w'.heap[gs]? =some (.cells cs' T (0,0))→Con c.A p w ((X.call j 0 [ee.x,es.x,was]).ev (evl (qf tbl) l)) qe es.own es.dep cs'.toList→Bs c.A c.F w0 S0 p w'∧SF (c.at (qf tbl) l) (z3c ks j es ee.x was σ) p w' a:=fun w' cs' hbut hnew hcn=>by
  have hst:Stab c.A (q20 (ks * 16)) no p w p w':=by
   refine⟨hbut.size,fun b hlt ha hfr=>⟨hbut.block b hlt fun e=>hfr _ (e▸hgs),hfr⟩,fun x b _ hx=>hx,fun x b hz hx=>hbut.block b (hb.bd x b hx) fun e=>?_⟩;have hxk:=hb.inj x (ks * 16) b hx (e▸hgs);subst hxk;simp[q20] at hz
  refine⟨⟨hb.inj,fun x b hx=>Nat.lt_of_lt_of_le (hb.bd x b hx) hbut.size,hb.but.trans hbut fun b hb' _=>?_,hb.pin,hb.new,hb.pa,fun x b hx=>?_,hb.flo.same fun k hk hfl=>?_⟩,?_⟩
  ·have hb':b=gs:=hb';subst hb';exact hb.pin _ _ hgs
  ·by_cases e:b=gs
   ·subst e;exact .inl ⟨_,_,hnew⟩
   ·exact(hb.obj x b hx).same (hbut.block b (hb.bd x b hx) e)
  ·refine hbut.block k hk fun e=>?_;subst e;obtain⟨c0,c1,T0,te0,-,-,f3,-,f5,f6,f7,-⟩:=hb.flo _ hfl;rw[hh] at f6;injection f6 with f6;injection f6 with f6 f6';subst f6';rw[hT,ht] at f3;injection f3 with f3;subst f3;rw[←f6] at f7;have hw6:qe.w=6:=by kernel_rfl
   unfold FlT at f5;rw[hw6] at f5;simp at f7;rcases f5 with f5|⟨f5,-⟩
   ·omega
   ·have hn:nvB qe=false:=by kernel_rfl
    rw[hn] at f5;cases f5
  ·have hk:=SF.keep hf hst;refine⟨hk.t,fun k e he=>?_⟩;by_cases hks:ks=k
   ·subst hks;have he:lkA (q08 (q9x (q20 (ks * 16)) no σ.m) ks ⟨.call j 0 [ee.x,es.x,was],qe,es.own,es.dep⟩) ks=some e:=he;rw[q1w] at he;injection he with he;subst he;exact⟨gs,cs',T,hgs,hnew,by rw[←ht];exact hT,hcn.kept hst depZ ownZ⟩
   ·have he:lkA (q08 (q9x (q20 (ks * 16)) no σ.m) ks ⟨.call j 0 [ee.x,es.x,was],qe,es.own,es.dep⟩) k=some e:=he;rw[q3z hks] at he;exact hk.m k e he
 by_cases hE0:E=0
 ·subst hE0;refine(z8j w b3 b2 b5 ge u h3c hhE).mono ?_;rintro r u' w'⟨rfl,rfl,rfl⟩;refine⟨rfl,rfl,?_⟩;refine key w' _ (But.refl _ _) hh ?_;rw[eN];have:q5c [.i 0,.a [.r r0,.r r1,.r r2,.r r3,.i x4,.i x5],was.ev (evl (qf tbl) l)]=some [.a [.r r0,.r r1,.r r2,.r r3,.i x4,.i x5]]:=rfl;rw[this];rw[←eD];exact hcon
 ·obtain⟨e0,e1,e2,e4⟩:=hwas;have hE0':¬(D.i E).int=0:=hE0;have hif:l0≤r0.length∧l1≤r1.length∧l2≤r2.length:=by
   simp only[q5c,if_neg hE0',e0,e1,e2] at hsay;split at hsay
   ·rename_i hh;exact hh
   ·cases hsay
  refine(zd6 w b3 b2 b5 ge gs u E h3c hhE hE0 h2c T T' hh hw hn (kC hif.1 q0) (kC hif.2.1 q1) (kC hif.2.2 q2)).mono ?_;rintro r u' w'⟨rfl,rfl,hbut,hnew⟩;refine⟨rfl,rfl,?_⟩;refine key w' _ hbut hnew ?_;rw[eN];have:q5c [.i E,.a [.r r0,.r r1,.r r2,.r r3,.i x4,.i x5],was.ev (evl (qf tbl) l)]=some [.a [.r (r0.take l0),.r (r1.take l1),.r (r2.take l2),.r r3,.i y4,.i x5]]:=by
   simp only[q5c,if_neg hE0',e0,e1,e2,e4];exact if_pos hif
  rw[this];exact hcut l0 l1 l2 y4 hif.1 hif.2.1 hif.2.2 hy4
end
end
end Go.Proofs.Ytdaadonfbnedaaa
