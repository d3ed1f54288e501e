/-
 Lemmas of the walk and plain laws, put together. No condition.
-/
import Derived.Defers
import Derived.Recover
import Derived.TacticsInMore
import Derived.WalkLawsBesides
import Derived.Test.YtbmaffphliignaaKe
namespace Go.Proofs.Ytbmaffphliignaa
open Go.RowKit
set_option linter.unusedVariables false
set_option linter.unusedSimpArgs false
set_option maxRecDepth 100000
open _root_.Option.some renaming injEq→uA
open _root_.Option renaming ite_none_right_eq_some→uB,isSome_some→uK,getD_some→uL,map_eq_some_iff→uO
open _root_.List renaming getD_cons_zero→uC,getD_cons_succ→uD,length_map→uF,map_cons→uG,map_append→uI,take_length→uM,map_nil→uN,length_cons→uP,mem_cons_of_mem→uQ,mem_cons_self→uR,length_take→uS,length_nil→uT,mem_cons→uV,length_append→uW,map_map→uX,cons_append→uZ,map_id→kA,length_eq_zero_iff→kD,take_append_drop→kE,foldl_append→kI,not_mem_nil→kJ,drop_length→kK,all_eq_true→kL,nil_append→kN,append_nil→kO
open _root_.Go.Proofs.Try renaming prog→uE,ntmps93→kV,func93→kW,f94→kX
open _root_.Nat renaming le_refl→uH,zero_le→uJ
open _root_.Bool renaming or_eq_true→uU,eq_iff_iff→kB,not_eq_false'→kH,false_and→kP,true_and→kQ,and_self→kR,or_true→kS
open Sem renaming run_bind→uY,run_pure→kT,run→kU
section
def Two(b c:Nat):Nat→Prop:=fun k=>k=b∨k=c
abbrev q0i:Array Value:= #[.int .i64 0,.int .i64 0,.string ⟨#[]⟩,.slice none 0 0]
theorem qve(v:Value)(w:World):(Instr.typeAssert (.iface 113 v) 20 113 true).run uE w=.ok (.tuple #[v,.bool true]) w:=by
 have hu:uE.underlying 113=some (.struct #[]):=by kernel_rfl
 simp[Instr.typeAssert,run_underlying hu]
section
variable{P:Program}{ops:Array Oper}{Q:Exit→Act→World→Prop}{a:Act}{w w':World}{K:Act→World→Prop}
theorem q2j{i:Nat}{rest:List Nat}(o:Oper)(ho:ops[i]? =some o)(hg:o.guard=none)(h:o.wp P a w (wpOps P ops Q rest) Q):wpOps P ops Q (i::rest) a w:=by
 simp only[wpOps,ho];rw[if_pos (by simp[Region.wanted,hg])];exact .inl h
theorem qct{o:Oper}{v:Value}(h:(execOp a.eval o).run P w=.ok (.value v) w')(hk:K (a.put o.dst v) w'):o.wp P a w K Q:=by
 unfold Oper.wp;rw[h];exact hk
theorem z3h{o:Oper}(h:(execOp a.eval o).run P w=.ok .skip w')(hk:K (a.put o.dst undef) w'):o.wp P a w K Q:=by
 unfold Oper.wp;rw[h];exact hk
end
theorem q1d{a b:Act}{l:List Nat}{P:Program}{ops:Array Oper}{Q:Exit→Act→World→Prop}{w:World}(h:a=b)(hk:wpOps P ops Q l b w):wpOps P ops Q l a w:=h▸hk
theorem qov{x:Sem Value}{w w':World}{v:Value}(h:x.run uE w=.ok v w'):(x>>= fun v=>pure (.value v)).run uE w=.ok (Next.value v) w':=by
 rw[uY,h];rfl
theorem qtv{x:Sem Unit}{w w':World}(h:x.run uE w=.ok () w'):(x>>= fun _=>pure .skip).run uE w=.ok Next.skip w':=by
 rw[uY,h];rfl
theorem q33{T:TypeId}{w:World}{g:Nat}{cur cs:Array Value}{T':TypeId}(hg:w.heap[g]? =some (.cells cur T' (0,0))){i:TypeInfo}(hi:uE.info? T=some i)(h1:i.size=cs.size)(h2:cur.size=cs.size)(hone:∀x∈cs.toList,x.oneCell'=true){v:Value}(hc:v.cells=cs):
  (Instr.storeAt T (.pointer (some ⟨g,0,none⟩)) v).run uE w=.ok () (w.setRow g cs):=by
 have hst:=run_storeCells_at uE g 0 T' cs.toList 0 cur w hg (by simp;omega) hone;have e1:(cur.toList.take (0+0)++cs.toList++cur.toList.drop (0+0+cs.toList.length))=cs.toList:=by
  rw[List.drop_eq_nil_of_le (by simp;omega)];simp
 rw[e1] at hst;simp only[Instr.storeAt,Instr.sureAddr,uY,kT,Result.andThen_ok,storeVar,sizeOf,typeInfo,run_program,hi,hc];rw[if_neg (by omega)];simpa using hst
theorem z32:(uE.info? 113).map (fun i=>(i.size,i.zero))=some (0,some (.agg #[])):=by kernel_rfl
theorem qh4:(uE.info? 24).map (fun i=>(i.size,i.zero))=some (4,some (.agg q0i)):=by kernel_rfl
theorem qp1:(uE.info? 4).map (fun i=>(i.size,i.zero))=some (1,some (.bool false)):=by kernel_rfl
theorem qvq(w:World):(Instr.build 24 #[]).run uE w=.ok (.agg q0i) w:=by
 obtain⟨i24,hi24,e24⟩:=uO.1 qh4;simp only[Prod.mk.injEq] at e24;have hT:(qw 24).isSome=true:=by kernel_rfl
 have hS:(qw 24).map qbv=some true:=by kernel_rfl
 obtain⟨t,ht⟩:=Option.isSome_iff_exists.1 hT;rw[ht] at hS;have hS:qbv t=true:=by simpa using hS
 obtain⟨S,rfl⟩:∃S,t=.st S:=by cases t<;>first|exact⟨_,rfl⟩|(simp[qbv] at hS;done)
 obtain⟨fields,fs,zc,i,hu,hf,hfb,hi,hs,hz,-⟩:=q2y ht;obtain⟨places,hpr,hpl⟩:=run_places (w:=w) hfb;have hzv:(zeroValue 24).run uE w=.ok (.agg q0i) w:=by simp[zeroValue,typeInfo,hi24,e24.2]
 simp only[Instr.build,uY,hzv,run_underlying hu,Result.andThen_ok,hpr,Value.cells,Instr.fill,kT]
theorem quz{ps:Array (Nat×Value)}(w:World)(h:ps= #[]):(Instr.build 24 ps).run uE w=.ok (.agg q0i) w:=by rw[h];exact qvq w
theorem q2e{w:World}{g k:Nat}{cs:Array Value}(h:k≠g):(w.setRow g cs).heap[k]? =w.heap[k]? :=setRow_other w g k cs h
theorem qzd(b2 b3:Nat)(w:World){c2 c3:Array Value}(h2:w.heap[b2]? =some (.cells c2 24 (0,0)))(hc2:c2.size=4)(h3:w.heap[b3]? =some (.cells c3 4 (0,0)))(hc3:c3.size=1)(hne:b2≠b3):
  CallsD uE 93 #[.pointer (some ⟨b2,0,none⟩),.pointer (some ⟨b3,0,none⟩)] (.panicking (q93 113)) w fun e u' w'=>
   e=.returned (.tuple #[])∧(∃v,u'=.panicking [{v:=v,recovered:=true}])∧But (Two b2 b3) w w'∧w'.heap[b2]? =some (.cells q0i 24 (0,0))∧w'.heap[b3]? =some (.cells #[.bool false] 4 (0,0)):=by
 obtain⟨i73,hi73,e73⟩:=uO.1 z32;obtain⟨i24,hi24,e24⟩:=uO.1 qh4;obtain⟨i4,hi4,e4⟩:=uO.1 qp1;simp only[Prod.mk.injEq] at e73 e24 e4;refine callsD_of_wpS kW rfl fun c₀ cs hu=>?_;apply wpS_seq;apply wpS_region;simp[wpOpsS,go_sem,recoverD,hu,kV,Exit.thenS,q93];apply wpS_seq;apply wpS_region;simp[wpOpsS,go_sem,Exit.thenS];refine wpS_cond (t:=true) (by simp[Act.eval,Array.replicate]) ?_;simp only[if_true];refine wpS_of_wp ?_;refine wp_seq (wp_seq (wp_region ?_));refine q1d (b:={tmps:= #[.pointer (some ⟨b2,0,none⟩),.pointer (some ⟨b3,0,none⟩),.iface 113 (.agg #[]),undef,undef,.iface 113 (.agg #[]),.iface 113 (.agg #[]),.bool true,undef,undef,undef,undef,undef,undef,undef,undef,undef],defers:=[]}) (by kernel_rfl) ?_;refine q2j _ rfl rfl (qct (w':=w) (v:=.iface 113 (.agg #[])) (by kernel_rfl) ?_);refine q1d (b:={tmps:= #[.pointer (some ⟨b2,0,none⟩),.pointer (some ⟨b3,0,none⟩),.iface 113 (.agg #[]),undef,undef,.iface 113 (.agg #[]),.iface 113 (.agg #[]),.bool true,undef,(.iface 113 (.agg #[])),undef,undef,undef,undef,undef,undef,undef],defers:=[]}) (by kernel_rfl) ?_;refine q2j _ rfl rfl (qct (w':=w) (v:=.tuple #[.agg #[],.bool true]) (qov (qve (.agg #[]) w)) ?_);refine q1d (b:={tmps:= #[.pointer (some ⟨b2,0,none⟩),.pointer (some ⟨b3,0,none⟩),.iface 113 (.agg #[]),undef,undef,.iface 113 (.agg #[]),.iface 113 (.agg #[]),.bool true,undef,(.iface 113 (.agg #[])),(.tuple #[.agg #[],.bool true]),undef,undef,undef,undef,undef,undef],defers:=[]}) (by kernel_rfl) ?_;refine q2j _ rfl rfl (qct (w':=w) (v:=.tuple #[.agg #[],.bool true]) (by kernel_rfl) ?_);refine q1d (b:={tmps:= #[.pointer (some ⟨b2,0,none⟩),.pointer (some ⟨b3,0,none⟩),.iface 113 (.agg #[]),undef,undef,.iface 113 (.agg #[]),.iface 113 (.agg #[]),.bool true,(.tuple #[.agg #[],.bool true]),(.iface 113 (.agg #[])),(.tuple #[.agg #[],.bool true]),undef,undef,undef,undef,undef,undef],defers:=[]}) (by kernel_rfl) ?_;refine q2j _ rfl rfl (qct (w':=w) (v:=.agg #[]) (by kernel_rfl) ?_);refine q1d (b:={tmps:= #[.pointer (some ⟨b2,0,none⟩),.pointer (some ⟨b3,0,none⟩),.iface 113 (.agg #[]),undef,undef,.iface 113 (.agg #[]),.iface 113 (.agg #[]),.bool true,(.tuple #[.agg #[],.bool true]),(.iface 113 (.agg #[])),(.tuple #[.agg #[],.bool true]),(.agg #[]),undef,undef,undef,undef,undef],defers:=[]}) (by kernel_rfl) ?_;refine q2j _ rfl rfl (qct (w':=w) (v:=.bool true) (by kernel_rfl) ?_);refine q1d (b:={tmps:= #[.pointer (some ⟨b2,0,none⟩),.pointer (some ⟨b3,0,none⟩),.iface 113 (.agg #[]),undef,undef,.iface 113 (.agg #[]),.iface 113 (.agg #[]),.bool true,(.tuple #[.agg #[],.bool true]),(.iface 113 (.agg #[])),(.tuple #[.agg #[],.bool true]),(.agg #[]),(.bool true),undef,undef,undef,undef],defers:=[]}) (by kernel_rfl) ?_;refine q2j _ rfl rfl (qct (w':=(w.alloc (.cells #[] 113))) (v:=.pointer (some ⟨w.heap.size,0,none⟩)) (by simp[execOp,Instr.alloc,zeroValue,typeInfo,hi73,e73.2,newVar,newRow,newObj,Value.cells,kU]) ?_)
 refine q1d (b:={tmps:= #[.pointer (some ⟨b2,0,none⟩),.pointer (some ⟨b3,0,none⟩),.iface 113 (.agg #[]),(.pointer (some ⟨w.heap.size,0,none⟩)),undef,.iface 113 (.agg #[]),.iface 113 (.agg #[]),.bool true,(.tuple #[.agg #[],.bool true]),(.iface 113 (.agg #[])),(.tuple #[.agg #[],.bool true]),(.agg #[]),(.bool true),undef,undef,undef,undef],defers:=[]}) (by kernel_rfl) ?_;refine q2j _ rfl rfl (z3h (w':=((w.alloc (.cells #[] 113)).setRow w.heap.size #[])) (qtv (q33 (T:=113) (cur:= #[]) (cs:= #[]) (q1h rfl) hi73 e73.1 rfl (fun x hx=>by cases hx) (v:=.agg #[]) rfl)) ?_);refine q1d (b:={tmps:= #[.pointer (some ⟨b2,0,none⟩),.pointer (some ⟨b3,0,none⟩),.iface 113 (.agg #[]),(.pointer (some ⟨w.heap.size,0,none⟩)),undef,.iface 113 (.agg #[]),.iface 113 (.agg #[]),.bool true,(.tuple #[.agg #[],.bool true]),(.iface 113 (.agg #[])),(.tuple #[.agg #[],.bool true]),(.agg #[]),(.bool true),undef,undef,undef,undef],defers:=[]}) (by kernel_rfl) ?_;refine q2j _ rfl rfl (qct (w':=((w.alloc (.cells #[] 113)).setRow w.heap.size #[])) (v:=.bool true) (by kernel_rfl) ?_);refine q1d (b:={tmps:= #[.pointer (some ⟨b2,0,none⟩),.pointer (some ⟨b3,0,none⟩),.iface 113 (.agg #[]),(.pointer (some ⟨w.heap.size,0,none⟩)),(.bool true),.iface 113 (.agg #[]),.iface 113 (.agg #[]),.bool true,(.tuple #[.agg #[],.bool true]),(.iface 113 (.agg #[])),(.tuple #[.agg #[],.bool true]),(.agg #[]),(.bool true),undef,undef,undef,undef],defers:=[]}) (by kernel_rfl) ?_
 show Code.wp uE (.seq (.region 3 _ _) _) _ _ _
 refine wp_seq (wp_region ?_);refine q2j _ rfl rfl (qct (w':=((w.alloc (.cells #[] 113)).setRow w.heap.size #[])) (v:=.bool true) (by kernel_rfl) ?_);refine q1d (b:={tmps:= #[.pointer (some ⟨b2,0,none⟩),.pointer (some ⟨b3,0,none⟩),.iface 113 (.agg #[]),(.pointer (some ⟨w.heap.size,0,none⟩)),(.bool true),.iface 113 (.agg #[]),.iface 113 (.agg #[]),.bool true,(.tuple #[.agg #[],.bool true]),(.iface 113 (.agg #[])),(.tuple #[.agg #[],.bool true]),(.agg #[]),(.bool true),(.bool true),undef,undef,undef],defers:=[]}) (by kernel_rfl) ?_;refine q2j _ rfl rfl (qct (w':=((w.alloc (.cells #[] 113)).setRow w.heap.size #[])) (v:=.bool false) (by kernel_rfl) ?_);refine q1d (b:={tmps:= #[.pointer (some ⟨b2,0,none⟩),.pointer (some ⟨b3,0,none⟩),.iface 113 (.agg #[]),(.pointer (some ⟨w.heap.size,0,none⟩)),(.bool true),.iface 113 (.agg #[]),.iface 113 (.agg #[]),.bool true,(.tuple #[.agg #[],.bool true]),(.iface 113 (.agg #[])),(.tuple #[.agg #[],.bool true]),(.agg #[]),(.bool true),(.bool true),(.bool false),undef,undef],defers:=[]}) (by kernel_rfl) ?_;refine wp_cond (t:=false) (by kernel_rfl) ?_;simp only[gnF,if_false];refine wp_skip ?_
 show Code.wp uE (.region 5 _ _) _ _ _
 refine wp_region ?_;refine q2j _ rfl rfl (qct (w':=((w.alloc (.cells #[] 113)).setRow w.heap.size #[])) (v:=.agg q0i) (qov (quz _ (by simp))) ?_);refine q1d (b:={tmps:= #[.pointer (some ⟨b2,0,none⟩),.pointer (some ⟨b3,0,none⟩),.iface 113 (.agg #[]),(.pointer (some ⟨w.heap.size,0,none⟩)),(.bool true),.iface 113 (.agg #[]),.iface 113 (.agg #[]),.bool true,(.tuple #[.agg #[],.bool true]),(.iface 113 (.agg #[])),(.tuple #[.agg #[],.bool true]),(.agg #[]),(.bool true),(.bool true),(.bool false),undef,(.agg q0i)],defers:=[]}) (by kernel_rfl) ?_;have hlt2:=yf h2;have hlt3:=yf h3;have g2:((w.alloc (.cells #[] 113)).setRow w.heap.size #[]).heap[b2]? =some (.cells c2 24 (0,0)):=by
  rw[q2e (by omega)];exact q0o h2
 refine q2j _ rfl rfl (z3h (w':=((w.alloc (.cells #[] 113)).setRow w.heap.size #[]).setRow b2 q0i) (qtv (q33 (T:=24) (cs:=q0i) g2 hi24 e24.1 hc2 (by simp[Value.oneCell']) (v:=.agg q0i) rfl)) ?_);have g3:(((w.alloc (.cells #[] 113)).setRow w.heap.size #[]).setRow b2 q0i).heap[b3]? =some (.cells c3 4 (0,0)):=by
  rw[q2e (fun e=>hne e.symm),q2e (by omega)];exact q0o h3
 refine q2j _ rfl rfl (z3h (w':=(((w.alloc (.cells #[] 113)).setRow w.heap.size #[]).setRow b2 q0i).setRow b3 #[.bool false]) (qtv (q33 (T:=4) (cs:= #[.bool false]) g3 hi4 e4.1 hc3 (by simp[Value.oneCell']) (v:=.bool false) rfl)) ?_);refine⟨rfl,_,rfl,.tuple #[],by kernel_rfl,rfl,⟨_,rfl⟩,?_,?_,setRow_heap _ _ _ _ _ _ g3⟩
 ·exact q4p (q4p (q4p ((But.refl _ w).alloc _) (.inr (uH _)) _) (.inl (.inl rfl)) _) (.inl (.inr rfl)) _
 ·rw[q2e hne];exact setRow_heap _ _ _ _ _ _ g2
theorem qvh(b2 b3:Nat)(w:World):
  CallsD uE 93 #[.pointer (some ⟨b2,0,none⟩),.pointer (some ⟨b3,0,none⟩)] .returning w fun e u' w'=>e=.returned (.tuple #[])∧u'=.returning∧w'=w:=by
 refine callsD_of_wpS kW rfl fun c₀ cs hu=>?_;apply wpS_seq;apply wpS_region;simp[wpOpsS,go_sem,recoverD,hu,kV,Exit.thenS];apply wpS_seq;apply wpS_region;simp[wpOpsS,go_sem,Exit.thenS];refine wpS_cond (t:=false) (by simp[Act.eval,Array.replicate]) ?_;simp only[gnF,if_false];refine wpS_of_wp (wp_skip ?_);cases c₀;simp_all [bodyPostS,results,Try.results93]
def z2e(g:List D→Option (List D)):List D→Option (List D):=fun ds=>match g ds with
 |some [.u]=>some [.a [.i 0,.i 0,.s ⟨#[]⟩,.r []],.b false]
 |some [d]=>some [d,.b true]
 |_=>none
theorem qyc{o:Oper}{a:Act}{w w':World}{K:Act→World→Prop}{Q:Exit→Act→World→Prop}{f:FuncId}{args:Array Value}{R:Ending→World→Prop}(h:(execOp a.eval o).run uE w=.ok (.enter f args) w')(hc:Calls uE f args w' R)
  (hr:∀v w'',R (.returned v) w''→K (a.put o.dst v) w'')(hp:∀ch w'',R (.panicked ch) w''→Q (.panic ch) a w'')(ho:∀w'',¬R .outgrown w''):o.wp uE a w K Q:=by
 unfold Oper.wp;rw[h];refine hc.mono ?_;intro e w'' hR;cases e with
 |returned v=>exact hr v w'' hR
 |panicked ch=>exact hp ch w'' hR
 |outgrown=>exact(ho w'' hR).elim
theorem qrh:qw 24=some q2g:=by kernel_rfl
theorem z4v:qw 4=some .bool:=by kernel_rfl
theorem z3g{t:Ty}{cs:List Value}{v v':Value}(h:yh t cs v)(h':yh t cs v'):v'=v:=by
 unfold yh at h h';split at h
 ·rw[h,h']
 ·rename_i hn;have h2:cs=[v']:=by
   cases t<;>first|exact h'|exact absurd rfl (hn _)
  rw[h] at h2;injection h2 with h2;exact h2.symm
theorem qcf{T:TypeId}{t:Ty}(h:qw T=some t){w:World}{F:Nat→Prop}{d:D}{cs:List Value}{v:Value}(hd:Rd w F d t cs)(hp:yh t cs v){b:Nat}{T':TypeId}(hb:w.heap[b]? =some (.cells cs.toArray T' (0,0))):(Instr.loadAt T (.pointer (some ⟨b,0,none⟩))).run uE w=.ok v w:=by
 have hr:w.rangeAt b 0 cs:=fun j u hj=>by
  rw[cell_of_row w b (0+j) _ T' (0,0) hb];simpa using hj
 obtain⟨v',h1,h2⟩:=q89 h hr hd;rw[←z3g hp h2];exact h1
theorem zbf{o:Oper}{a:Act}{w w':World}{K:Act→World→Prop}{Q:Exit→Act→World→Prop}{d:Deferred}(h:(execOp a.eval o).run uE w=.ok (.defer d) w')(hk:K ({a with defers:=d::a.defers}.put o.dst undef) w'):o.wp uE a w K Q:=by
 unfold Oper.wp;rw[h];exact hk
theorem qvx{T:TypeId}{v:Value}{cs:Array Value}{w:World}(hc:v.cells=cs):(Instr.box T v).run uE w=.ok (.pointer (some ⟨w.heap.size,0,none⟩)) (w.alloc (.cells cs T)):=by
 simp[Instr.box,newVar,newRow,newObj,hc,kU]
theorem qha{T:TypeId}{z:Value}{w:World}{i:TypeInfo}(hi:uE.info? T=some i)(hz:i.zero=some z){n:Nat}(hn:n=w.heap.size):(Instr.alloc T true (.tuple #[])).run uE w=.ok (.pointer (some ⟨n,0,none⟩)) (w.alloc (.cells z.cells T)):=by
 subst hn;simp[Instr.alloc,zeroValue,typeInfo,hi,hz,newVar,newRow,newObj,kU]
theorem qib{g:List D→Option (List D)}(hB:FOk jl g):FOk q0w (z2e g):=by
 refine⟨qdd,fun A F0 p w vs us ds outs hg hflo hfo hpre hvl hargs=>?_,fun h=>absurd rfl h⟩;obtain⟨i24,hi24,e24⟩:=uO.1 qh4;obtain⟨i4,hi4,e4⟩:=uO.1 qp1;simp only[Prod.mk.injEq] at e24 e4;obtain⟨v,r,d,ds',hvs,rfl,⟨cs,hpk,hrd⟩,hr⟩:=hargs;obtain⟨rfl,rfl⟩:r=[]∧ds'=[]:=hr;obtain⟨rfl,rfl⟩:vs=[v]∧us=[]:=by
  cases vs with
  |nil=>cases hvl
  |cons a l=>
   have hl:l=[]:=kD.1 (Nat.succ.inj hvl);subst hl;simp only[uZ,kN,List.cons.injEq] at hvs;exact⟨by rw[hvs.1],hvs.2⟩
 obtain⟨hlen,hone⟩:=Rd.len _ hrd;have hcells:v.cells=cs.toArray:=hpk.cells hone;have hrd3:=Rd.keeps (F':=FFD A p []) (w':=((w.alloc (.cells cs.toArray 24)).alloc (.cells q0i 24)).alloc (.cells #[.bool false] 4)) (fun b o hb ho=>⟨q0o (q0o (q0o ho)),hb⟩) _ hrd
 show Calls uE 69 #[v] w _
 refine calls_of_wp_defers Try.func69 rfl ?_;refine wp_seq (wp_region ?_);refine q1d (b:={tmps:= #[v,undef,undef,undef,undef,undef,undef],defers:=[]}) (by kernel_rfl) ?_;refine q2j _ rfl rfl (qct (w':=(w.alloc (.cells cs.toArray 24))) (v:=.pointer (some ⟨w.heap.size,0,none⟩)) (qov (qvx hcells)) ?_);refine q1d (b:={tmps:= #[v,(.pointer (some ⟨w.heap.size,0,none⟩)),undef,undef,undef,undef,undef],defers:=[]}) (by kernel_rfl) ?_;refine q2j _ rfl rfl (qct (w':=((w.alloc (.cells cs.toArray 24)).alloc (.cells q0i 24))) (v:=.pointer (some ⟨w.heap.size+1,0,none⟩)) (qov (qha hi24 e24.2 (by simp))) ?_);refine q1d (b:={tmps:= #[v,(.pointer (some ⟨w.heap.size,0,none⟩)),(.pointer (some ⟨w.heap.size+1,0,none⟩)),undef,undef,undef,undef],defers:=[]}) (by kernel_rfl) ?_;refine q2j _ rfl rfl (qct (w':=(((w.alloc (.cells cs.toArray 24)).alloc (.cells q0i 24)).alloc (.cells #[.bool false] 4))) (v:=.pointer (some ⟨w.heap.size+2,0,none⟩)) (qov (qha hi4 e4.2 (by simp))) ?_);refine q1d (b:={tmps:= #[v,(.pointer (some ⟨w.heap.size,0,none⟩)),(.pointer (some ⟨w.heap.size+1,0,none⟩)),(.pointer (some ⟨w.heap.size+2,0,none⟩)),undef,undef,undef],defers:=[]}) (by kernel_rfl) ?_;refine wp_seq (wp_region ?_);refine q2j _ rfl rfl (qct (w':=(((w.alloc (.cells cs.toArray 24)).alloc (.cells q0i 24)).alloc (.cells #[.bool false] 4))) (v:=.func (.func 93) #[] #[.pointer (some ⟨w.heap.size+1,0,none⟩),.pointer (some ⟨w.heap.size+2,0,none⟩)]) (by kernel_rfl) ?_);refine q1d (b:={tmps:= #[v,(.pointer (some ⟨w.heap.size,0,none⟩)),(.pointer (some ⟨w.heap.size+1,0,none⟩)),(.pointer (some ⟨w.heap.size+2,0,none⟩)),(.func (.func 93) #[] #[.pointer (some ⟨w.heap.size+1,0,none⟩),.pointer (some ⟨w.heap.size+2,0,none⟩)]),undef,undef],defers:=[]}) (by kernel_rfl) ?_;refine q2j _ rfl rfl (zbf (w':=(((w.alloc (.cells cs.toArray 24)).alloc (.cells q0i 24)).alloc (.cells #[.bool false] 4))) (d:={target:=.fn (.func 93) #[.pointer (some ⟨w.heap.size+1,0,none⟩),.pointer (some ⟨w.heap.size+2,0,none⟩)],args:= #[]}) (by kernel_rfl) ?_);refine q1d (b:={tmps:= #[v,(.pointer (some ⟨w.heap.size,0,none⟩)),(.pointer (some ⟨w.heap.size+1,0,none⟩)),(.pointer (some ⟨w.heap.size+2,0,none⟩)),(.func (.func 93) #[] #[.pointer (some ⟨w.heap.size+1,0,none⟩),.pointer (some ⟨w.heap.size+2,0,none⟩)]),undef,undef],defers:=[{target:=.fn (.func 93) #[.pointer (some ⟨w.heap.size+1,0,none⟩),.pointer (some ⟨w.heap.size+2,0,none⟩)],args:= #[]}]}) (by kernel_rfl) ?_;refine wp_seq (wp_region ?_);refine q2j _ rfl rfl (qct (w':=(((w.alloc (.cells cs.toArray 24)).alloc (.cells q0i 24)).alloc (.cells #[.bool false] 4))) (v:=v) (qov (qcf qrh hrd3 hpk (q0o (q0o (q1h rfl))))) ?_)
 refine q1d (b:={tmps:= #[v,(.pointer (some ⟨w.heap.size,0,none⟩)),(.pointer (some ⟨w.heap.size+1,0,none⟩)),(.pointer (some ⟨w.heap.size+2,0,none⟩)),(.func (.func 93) #[] #[.pointer (some ⟨w.heap.size+1,0,none⟩),.pointer (some ⟨w.heap.size+2,0,none⟩)]),v,undef],defers:=[{target:=.fn (.func 93) #[.pointer (some ⟨w.heap.size+1,0,none⟩),.pointer (some ⟨w.heap.size+2,0,none⟩)],args:= #[]}]}) (by kernel_rfl) ?_;have hB2:(((w.alloc (.cells cs.toArray 24)).alloc (.cells q0i 24)).alloc (.cells #[.bool false] 4)).heap[w.heap.size+1]? =some (.cells q0i 24 (0,0)):=q0o (q1h (by simp));have hB3:(((w.alloc (.cells cs.toArray 24)).alloc (.cells q0i 24)).alloc (.cells #[.bool false] 4)).heap[w.heap.size+2]? =some (.cells #[.bool false] 4 (0,0)):=q1h (by simp);have hsz3:(((w.alloc (.cells cs.toArray 24)).alloc (.cells q0i 24)).alloc (.cells #[.bool false] 4)).heap.size=w.heap.size+3:=by simp
 have hbut3:But (pinned p) w (((w.alloc (.cells cs.toArray 24)).alloc (.cells q0i 24)).alloc (.cells #[.bool false] 4)):=(((But.refl _ w).alloc _).alloc _).alloc _;have hall3:∀b,b<w.heap.size→(((w.alloc (.cells cs.toArray 24)).alloc (.cells q0i 24)).alloc (.cells #[.bool false] 4)).heap[b]? =w.heap[b]? :=fun b hb=>((((But.refl Nil w).alloc _).alloc _).alloc _).block b hb id;have hold:∀b o,w.heap[b]? =some o→(((w.alloc (.cells cs.toArray 24)).alloc (.cells q0i 24)).alloc (.cells #[.bool false] 4)).heap[b]? =some o:=fun b o h=>q0o (q0o (q0o h));clear hrd3;generalize (((w.alloc (.cells cs.toArray 24)).alloc (.cells q0i 24)).alloc (.cells #[.bool false] 4))=w3 at *;have hb2:w3.heap[w.heap.size+1]? =some (.cells q0i 24 (0,0)):=hB2
 have hpre2:Pre jl.ar.length (fun b=>A b∧q9h p b∧b≠w.heap.size+1∧b≠w.heap.size+2) .no (fun _=>none) w3:=
  ⟨(fun x y b h=>by cases h),(fun x b h=>by cases h),(fun x b h=>by cases h),(fun x b h=>by cases h),(fun b hb=>⟨⟨(hpre.new b (by omega)).1,(fun x hx=>by have:=hpre.bd x b hx;omega),by omega,by omega⟩,trivial⟩),(fun x b h=>by cases h)⟩
 have hrd2:Rd w3 (FFD (fun b=>A b∧q9h p b∧b≠w.heap.size+1∧b≠w.heap.size+2) (fun _=>none) []) d q2g cs:=Rd.keeps (F:=FFD A p []) (w:=w) (fun b o hb ho=>⟨hold b o ho,by
  have hlt:=yf ho;rcases hb with⟨h1,h2⟩|⟨x,hx,-⟩
  ·exact .inl ⟨⟨h1,h2,by omega,by omega⟩,fun x hx=>by cases hx⟩
  ·cases hx⟩) _ hrd
 have hen:∀(args:Array Value)(w:World),(callFunc 94 args).run uE w=.ok (.enter 94 args) w:=q4h;have hcall:∀o1,g [d]=some o1→_:=fun o1 h1=>hB.call (fun b=>A b∧q9h p b∧b≠w.heap.size+1∧b≠w.heap.size+2) .no (fun _=>none) w3 [v] [] [d] o1 h1 (qd5.of0 fun _=>rfl) Flo.no hpre2 rfl ⟨v,[],d,[],rfl,rfl,⟨cs,hpk,hrd2⟩,rfl,rfl⟩
 have hrun6:∀(w':World)(c2:List Value)(b:Bool)(d2:D)(F:Nat→Prop),w'.heap[w.heap.size+1]? =some (.cells c2.toArray 24 (0,0))→Rd w' F d2 q2g c2→w'.heap[w.heap.size+2]? =some (.cells #[.bool b] 4 (0,0))→
   ∀tmps:Array Value,tmps.getD 2 undef=.pointer (some ⟨w.heap.size+1,0,none⟩)→tmps.getD 3 undef=.pointer (some ⟨w.heap.size+2,0,none⟩)→(results Try.f69 tmps).run uE w'=.ok (qkk [.agg c2.toArray,.bool b]) w':=by
  intro w' c2 b d2 F h2 hd2 h3 tmps e2 e3;refine qhj ?_;rw[Try.results69];refine⟨_,_,rfl,?_,_,_,rfl,?_,rfl⟩
  ·show(do loadVar 24 (←asAddr (tmps.getD 2 undef))).run _ _=_
   rw[e2];have:=qcf qrh hd2 (v:=.agg c2.toArray) rfl h2;simpa[asAddr,Instr.loadAt,Instr.sureAddr] using this
  ·show(do loadVar 4 (←asAddr (tmps.getD 3 undef))).run _ _=_
   rw[e3];have:=qcf (w:=w') (F:=F) (d:=.b b) z4v ⟨rfl,rfl⟩ (v:=.bool b) rfl h3;simpa[asAddr,Instr.loadAt,Instr.sureAddr] using this
 have hfinBs:∀w',But (pinned p) w w'→(∀b,b<w.heap.size→w'.heap[b]? =w.heap[b]?)→Bs A F0 w (pinned p) p w':=fun w' hb hs=>
  ⟨hpre.inj,(fun x b hx=>Nat.lt_of_lt_of_le (hpre.bd x b hx) hb.size),hb,(fun x b hx=>.inl ⟨x,hx⟩),hpre.new,hpre.pa,(fun x b hx=>(hpre.obj x b hx).same (hs b (hpre.bd x b hx))),hfo.same fun k hk _=>hs k hk⟩
 have hz:∀(w':World)(F:Nat→Prop),Rd w' F (.a [.i 0,.i 0,.s ⟨#[]⟩,.r []]) q2g q0i.toList:=fun w' F=>
  ⟨_,[.int .i64,.int .i64,.str,q87],rfl,rfl,_,_,[.int .i64 0],_,rfl,rfl,.inl ⟨.i64,rfl,rfl,rfl⟩,_,_,[.int .i64 0],_,rfl,rfl,.inl ⟨.i64,rfl,rfl,rfl⟩,_,_,[.string ⟨#[]⟩],_,rfl,rfl,⟨rfl,rfl,uJ _⟩,
   _,_,[.slice none 0 0],_,rfl,rfl,⟨_,q2g,none,0,rfl,qrh,rfl,uH _,uJ _,uJ _,trivial⟩,rfl,rfl⟩
 have hnp:∀b,¬pinned (fun _=>none) b:=fun b⟨x,hx⟩=>by cases hx
 have hpn:∀k,¬pinned p (w.heap.size+k):=fun k⟨x,hx⟩=>by have:=hpre.bd x _ hx;omega
 have hex:(execOp (({tmps:= #[v,.pointer (some ⟨w.heap.size,0,none⟩),.pointer (some ⟨w.heap.size+1,0,none⟩),.pointer (some ⟨w.heap.size+2,0,none⟩),(.func (.func 93) #[] #[.pointer (some ⟨w.heap.size+1,0,none⟩),.pointer (some ⟨w.heap.size+2,0,none⟩)]),v,undef],defers:=[{target:=.fn (.func 93) #[.pointer (some ⟨w.heap.size+1,0,none⟩),.pointer (some ⟨w.heap.size+2,0,none⟩)],args:= #[]}]}:Act)).eval {dst:=some 6,op:=.call {callee:=.value (.func 94),args:= #[.tmp 5],argTypes:= #[24]},type:=24,pos:= "body.go:46",after:= #[{on:=0,ground:=Ground.data}],guard:=none}).run uE w3=.ok (.enter 94 #[v]) w3:=by
  simp[execOp,resolve,Deferred.ofValue,invoke,hen,Act.eval]
 unfold z2e at hg;split at hg
 ·rename_i hgd;injection hg with hg;subst hg;refine q2j _ rfl rfl (qyc hex (hcall _ hgd) ?_ ?_ ?_)
  ·rintro v4 w4(⟨T,-,-,e,-⟩|⟨rs,p',e,hbs,⟨v5,r5,d5,ds5,rfl,hd5,⟨cs5,hpk5,hcon5⟩,-⟩,-⟩)
   ·cases e
   ·exfalso;injection hd5 with hd5 _;subst hd5;obtain⟨fs,dd,-,e,-⟩:=hcon5;cases e
  ·rintro ch w4(⟨T,hT,-,e,hb4⟩|⟨rs,p',e,-⟩)
   ·injection e with e;subst e;injection hT with hT;subst hT;refine leaves_cons (f:=93) (args:= #[.pointer (some ⟨w.heap.size+1,0,none⟩),.pointer (some ⟨w.heap.size+2,0,none⟩)]) (by simp) (by kernel_rfl) ?_;refine(qzd (w.heap.size+1) (w.heap.size+2) w4 (hb4.heap (hnp _) hB2) rfl (hb4.heap (hnp _) hB3) rfl (by omega)).mono ?_;rintro e u' w'⟨rfl,⟨v',rfl⟩,hbt,h2,h3⟩;have hall:∀b,b<w.heap.size→w'.heap[b]? =w.heap[b]? :=fun b hb=>by
     rw[hbt.block b (by have:=hb4.size;omega) (by rintro(h|h)<;>omega),hb4.block b (by omega) (hnp b)];exact hall3 b hb
    have hbw:But (pinned p) w w':=(hbut3.trans (hb4.mono (S':=pinned p) fun k hk _=>(hnp k hk).elim) fun k hk _=>.inl hk).trans hbt fun k hk _=>.inr (by rcases hk with h|h<;>omega);refine⟨_,hrun6 w' q0i.toList false _ _ h2 (hz w' (FFD A p [])) h3 _ (by kernel_rfl) (by kernel_rfl),.inr ⟨[.agg q0i,.bool false],p,rfl,hfinBs w' hbw hall,?_,rfl⟩⟩;exact⟨_,_,_,_,rfl,rfl,⟨q0i.toList,rfl,Con.of_rd (hz w' _)⟩,_,_,_,_,rfl,rfl,⟨[.bool false],rfl,⟨rfl,rfl⟩⟩,rfl⟩
   ·cases e
  ·rintro w4(⟨T,-,-,e,-⟩|⟨rs,p',e,-⟩)<;>cases e
 ·rename_i d1 hd1 hgd;injection hg with hg;subst hg;refine q2j _ rfl rfl (qyc hex (hcall _ hgd) ?_ ?_ ?_)
  ·rintro v4 w4(⟨T,-,-,e,-⟩|⟨rs,p',e,hbs,⟨v5,r5,d5,ds5,rfl,hd5,⟨cs5,hpk5,hcon5⟩,hr5⟩,-⟩)
   ·cases e
   ·obtain rfl:r5=[]:=hr5;injection e with e;obtain rfl:v4=v5:=e;injection hd5 with hd5 _;subst hd5;have hcon5:Con _ p' w4 d1 q2g [] [] cs5:=hcon5;obtain⟨hlen5,hone5⟩:=hcon5.len;have hw4:q2g.w=4:=by kernel_rfl
    rw[hw4] at hlen5;have hb4:=hbs.but;have hg2:w4.heap[w.heap.size+1]? =some (.cells q0i 24 (0,0)):=hb4.heap (hnp _) hB2;have hg3:w4.heap[w.heap.size+2]? =some (.cells #[.bool false] 4 (0,0)):=hb4.heap (hnp _) hB3;refine q1d (b:={tmps:= #[v,.pointer (some ⟨w.heap.size,0,none⟩),.pointer (some ⟨w.heap.size+1,0,none⟩),.pointer (some ⟨w.heap.size+2,0,none⟩),(.func (.func 93) #[] #[.pointer (some ⟨w.heap.size+1,0,none⟩),.pointer (some ⟨w.heap.size+2,0,none⟩)]),v,v4],defers:=[{target:=.fn (.func 93) #[.pointer (some ⟨w.heap.size+1,0,none⟩),.pointer (some ⟨w.heap.size+2,0,none⟩)],args:= #[]}]}) (by kernel_rfl) ?_;refine q2j _ rfl rfl (z3h (w':=w4.setRow (w.heap.size+1) cs5.toArray) (qtv (q33 (T:=24) (cs:=cs5.toArray) hg2 hi24 (by simp[e24.1,hlen5]) (by simp[hlen5]) hone5 (v:=v4) (hpk5.cells hone5))) ?_);have hg3':(w4.setRow (w.heap.size+1) cs5.toArray).heap[w.heap.size+2]? =some (.cells #[.bool false] 4 (0,0)):=by
     rw[q2e (by omega)];exact hg3
    refine q2j _ rfl rfl (z3h (w':=(w4.setRow (w.heap.size+1) cs5.toArray).setRow (w.heap.size+2) #[.bool true]) (qtv (q33 (T:=4) (cs:= #[.bool true]) hg3' hi4 e4.1 rfl (by simp[Value.oneCell']) (v:=.bool true) rfl)) ?_)
    show Code.wp uE .ret _ _ _
    refine wp_ret ?_;refine leaves_cons (f:=93) (args:= #[.pointer (some ⟨w.heap.size+1,0,none⟩),.pointer (some ⟨w.heap.size+2,0,none⟩)]) (by simp) (by kernel_rfl) ?_;refine(qvh (w.heap.size+1) (w.heap.size+2) _).mono ?_;rintro e u' w'⟨rfl,rfl,rfl⟩;have hall:∀b,b≠w.heap.size+1→b≠w.heap.size+2→((w4.setRow (w.heap.size+1) cs5.toArray).setRow (w.heap.size+2) #[.bool true]).heap[b]? =w4.heap[b]? :=fun b h1 h2=>by
     rw[q2e h2,q2e h1]
    have h3:=setRow_heap _ _ _ #[.bool true] _ _ hg3';have h2:((w4.setRow (w.heap.size+1) cs5.toArray).setRow (w.heap.size+2) #[.bool true]).heap[w.heap.size+1]? =some (.cells cs5.toArray 24 (0,0)):=by
     rw[q2e (by omega)];exact setRow_heap _ _ _ _ _ _ hg2
    have hbw:But (pinned p) w ((w4.setRow (w.heap.size+1) cs5.toArray).setRow (w.heap.size+2) #[.bool true]):=
     q4p (q4p (hbut3.trans (hb4.mono (S':=pinned p) fun k hk _=>(hnp k hk).elim) fun k hk _=>.inl hk) (.inr (by omega)) _) (.inr (by omega)) _
    have hrd5:Rd ((w4.setRow (w.heap.size+1) cs5.toArray).setRow (w.heap.size+2) #[.bool true]) (FFD A p []) d1 q2g cs5:=Rd.keeps (F:=FFD _ p' []) (w:=w4) (fun b o hb ho=>by
     rcases hb with⟨⟨h1,h2,h3,h4⟩,-⟩|⟨x,hx,-⟩
     ·exact⟨(hall b h3 h4).trans ho,.inl ⟨h1,h2⟩⟩
     ·cases hx) _ (hcon5.rd (dep':=[]) (fun x hx=>by cases hx) (fun x hx=>by cases hx))
    refine⟨_,hrun6 _ cs5 true _ _ h2 hrd5 h3 _ (by kernel_rfl) (by kernel_rfl),.inr ⟨[.agg cs5.toArray,.bool true],p,rfl,hfinBs _ hbw (fun b hb=>?_),?_,rfl⟩⟩
    ·rw[hall b (by omega) (by omega),hb4.block b (by omega) (hnp b)];exact hall3 b hb
    ·exact⟨_,_,_,_,rfl,rfl,⟨cs5,rfl,Con.of_rd hrd5⟩,_,_,_,_,rfl,rfl,⟨[.bool true],rfl,⟨rfl,rfl⟩⟩,rfl⟩
  ·rintro ch w4(⟨T,hT,e0,e,hb4⟩|⟨rs,p',e,-⟩)
   ·injection e0 with e0;exact(hd1 e0).elim
   ·cases e
  ·rintro w4(⟨T,-,-,e,-⟩|⟨rs,p',e,-⟩)<;>cases e
 ·cases hg
end
abbrev qhm:ByteArray:=⟨#[99,97,108,108]⟩
abbrev q24:ByteArray:=⟨#[44]⟩
abbrev q26:ByteArray:=⟨#[59]⟩
abbrev ju:ByteArray:=⟨#[45,62]⟩
abbrev z74:ByteArray:=⟨#[116,114,117,101]⟩
abbrev qxu:ByteArray:=⟨#[33]⟩
theorem qp9{k n:Int}{s:ByteArray}{l:List Te}(h:zu (.mk k n s l)=true){a:Te}(ha:a∈l):zu a=true:=by
 rw[q3b] at h⊢;obtain⟨h1,h2⟩:=h;rw[szT] at h1;rw[yi,gnB] at h2;have:=qkd ha;exact⟨by omega,q3l.1 h2.2 a ha⟩
theorem q7e{t:Te}(h:zu t=true){j:Nat}(hj:j<t.l.length):zu (t.l.getD j default)=true:=by
 cases t with
 |mk k n s l=>exact qp9 h (qkw hj)
def isT(t:Te)(s:ByteArray)(n:Int):Bool:=((decide (t.k=2)||decide (t.k=3))&&decide (t.s=s))&&decide ((t.l.length:Int)=n)
def gIs:List D→Option (List D)
 |[t,s,n]=>some [.b (isT (dT t) s.str n.int)]
 |_=>none
theorem qrn:FOk q1q gIs:=qqq fun ds outs hw hg=>by
 obtain⟨d,r,rfl,hd,e,r',rfl,he,e2,r2,rfl,he2,rfl⟩:=hw;obtain⟨t,rfl,ht⟩:=wfT hd;obtain⟨s,rfl,hs⟩:=he.str;obtain⟨n,rfl,hn⟩:=wfI he2;simp only[gIs,zm,qew,q04,uA] at hg;subst hg;simp only[q8a,gnZ,gnT,isT]
def q9g(t:Te):Bool:=(isT t q24 2||isT t q26 2)||isT t ju 2
theorem qmd:FOk q07 (gTb q9g):=qiz qrn fun ds outs hw hg=>by
 obtain⟨d,r,rfl,hd,rfl⟩:=hw;obtain⟨t,rfl,ht⟩:=wfT hd;simp only[gTb,zm,uA] at hg;subst hg;simp only[q4z,gnZ,gnT,gIs,q9g]
def q02(t:Te):Bool:=(decide (t.k=3)&&decide ((t.l.length:Int)=2))&&((decide (t.s=q24)||decide (t.s=q26))||decide (t.s=ju))
theorem q6o:FOk yv (gTb q02):=qhx fun ds outs hw hg=>by
 obtain⟨d,r,rfl,hd,rfl⟩:=hw;obtain⟨t,rfl,ht⟩:=wfT hd;simp only[gTb,zm,uA] at hg;subst hg;simp only[q4v,gnZ,gnT,q02]
def q9u(t:Te):Bool:=decide (t.k=2)||decide (t.k=3)
theorem q4x:FOk yd (gTb q9u):=qer fun ds outs hw hg=>by
 obtain⟨d,r,rfl,hd,rfl⟩:=hw;obtain⟨t,rfl,ht⟩:=wfT hd;simp only[gTb,zm,uA] at hg;subst hg;simp only[q3c,gnZ,gnT,q9u]
mutual
/-- The conversion to a goal. -/
def j3:Te→Option Te
 | .mk k n s l => if k = 0 then some (.mk 3 0 qhm [.mk k n s l])
  else if q02 (.mk k n s l) then(match q0q l with
   |some m=>some (.mk 3 0 s m)
   |none=>none)
  else if q9u (.mk k n s l) then some (.mk k n s l) else none
def q0q:List Te→Option (List Te)
 |[]=>some []
 |t::l=>match j3 t,q0q l with
  |some x,some m=>some (x::m)
  |_,_=>none
end
theorem q94(t:Te):j3 t=if t.k=0 then some (.mk 3 0 qhm [t]) else if q02 t then(match q0q t.l with|some m=>some (.mk 3 0 t.s m)|none=>none) else if q9u t then some t else none:=by
 cases t;rw[j3];rfl
theorem q2c{t:Te}(h:q02 t=true):t.l.length=2∧t.k=3:=by
 simp only[q02,gnB,gnD] at h;exact⟨by omega,h.1.1⟩
theorem z01{l:List Te}(h:l.length=2):l=[l.getD 0 default,l.getD 1 default]:=by
 match l,h with
 |[a,b],_=>rfl
def q79:List D→Option (List D)
 |[t]=>if zu (dT t) then(match j3 (dT t) with
  |some u=>some [eT u]
  |none=>some [.u]) else none
 |_=>none
def gR(g:List D→Option (List D)):List D→Option (List D):=fun ds=>match g ds with
 |some [.u]=>none
 |r=>r
theorem z84{g:List D→Option (List D)}{ds outs:List D}(h:gR g ds=some outs):g ds=some outs:=by
 unfold gR at h;split at h
 ·cases h
 ·exact h
theorem z9g{g:List D→Option (List D)}{ds:List D}:gR g ds≠some [.u]:=by
 unfold gR;split
 ·simp
 ·rename_i h;exact fun e=>h e
theorem zaj:z8v jl [.u]:=fun A p w n rs h=>by
 obtain⟨v,r,d,ds',-,e,⟨cs,-,hc⟩,-⟩:=h;have e:[D.u]=d::ds':=e;injection e with e _;subst e;obtain⟨fs,dd,-,e,-⟩:=hc;cases e
theorem z4m{a b c x y:D}(h:x=.u∨y=.u):z8v jl [.a [a,b,c,.r [x,y]]]:=fun A p w n rs hr=>by
 obtain⟨v,r,d,ds',-,e,⟨cs,-,hc⟩,-⟩:=hr;have e:[D.a [a,b,c,.r [x,y]]]=d::ds':=e;injection e with e _;subst e;have hrd:Rd w (FFD A p []) (D.a [a,b,c,.r [x,y]]) q2g cs:=hc.rd (fun x hx=>by cases hx) (fun x hx=>by cases hx);obtain⟨T,fs,-,-,t1,ts1,c1,c2,-,-,-,t2,ts2,c3,c4,-,-,-,t3,ts3,c5,c6,-,-,-,t4,ts4,c7,c8,-,-,h4,-⟩:=hrd;obtain⟨E,te,A',cap,-,-,-,-,-,-,⟨b1,o1,cs1,-,-,-,q1⟩,⟨b2,o2,cs2,-,-,-,q2⟩,-⟩:=h4;rcases h with rfl|rfl
 ·exact q1
 ·exact q2
theorem qmz:FOk jl q79:=q29 (m:=mT) q4h fun N ih=>FOk.of_at q4h fun ds outs hw hg=>by
 obtain⟨d,r,rfl,hd,rfl⟩:=hw;obtain⟨t,rfl,ht⟩:=wfT hd;simp only[jt,mT,q79,uC,zm,uB] at hg;obtain⟨hsz,hv,hg⟩:=hg;have arg:∀j,j<t.l.length→jt mT N q79 [eT (t.l.getD j default)]=(match j3 (t.l.getD j default) with|some u=>some [eT u]|none=>some [.u]):=fun j hj=>by
  have:=q37 hj;simp only[jt,mT,uC,zm,if_pos (show szT (t.l.getD j default)<N by omega),q79,q7e hv hj,if_true]
 have two:q02 t=true→q0q t.l=match j3 (t.l.getD 0 default),j3 (t.l.getD 1 default) with|some x,some y=>some [x,y]|_,_=>none:=fun hb=>by
  have:=z01 (q2c hb).1;generalize t.l.getD 0 default=a at *;generalize t.l.getD 1 default=b at *;rw[this];simp only[q0q];cases j3 a<;>cases j3 b<;>rfl
 rw[q94] at hg;cases hb:j3 t with
 | some u =>
  rw[q94] at hb;rw[hb] at hg;simp only[uA] at hg;subst hg;refine z4i (tbl:=[(yv,gTb q02),(jl,gR (jt mT N q79)),(yd,gTb q9u),(y8,gTT q1s)]) q6y kX _ (.cons q6o (.cons (ih.sub fun _ _ h=>z84 h) (.cons q4x (.cons q3v .nil)))) rfl rfl (by decide) (fun e he ds hp=>?_) (by cases u;simp[eT]) ?_
  ·simp only[uV,kJ,or_false] at he;rcases he with rfl|rfl|rfl|rfl
   ·exact absurd rfl hp
   ·exact z9g
   ·exact absurd rfl hp
   ·exact absurd rfl hp
  rw[qa0 _ _ _ _ _ rfl];rw[q5x,yb];refine⟨fun h=>?_,fun h=>?_⟩
  ·simp only[gnZ,gnT] at h;rw[if_pos h,uA] at hb;subst hb;simp only[gnZ,gnT,q64,uG,uN];rfl
  ·simp only[gnZ,gnT] at h;rw[if_neg h] at hb;simp only[gnZ,gnT,gTb,gTT];refine⟨fun hbr=>?_,fun hbr=>⟨fun hc=>?_,fun hc=>?_⟩⟩
   ·obtain⟨h2,h3⟩:=q2c hbr;rw[if_pos hbr,two hbr] at hb;have a0:=arg 0 (by omega);have a1:=arg 1 (by omega);cases b0:j3 (t.l.getD 0 default) with
    |none=>rw[b0] at hb;cases hb
    | some x =>
     cases b1:j3 (t.l.getD 1 default) with
     |none=>rw[b0,b1] at hb;cases hb
     |some y=>
      rw[b0,b1] at hb;simp only[uA] at hb;subst hb;rw[b0] at a0;rw[b1] at a1;have g0:(D.r (t.l.map eT)).get 0=eT (t.l.getD 0 default):=q1j (k:=0) (by omega);have g1:(D.r (t.l.map eT)).get 1=eT (t.l.getD 1 default):=q1j (k:=1) (by omega);have r0:gR (jt mT N q79) [eT (t.l.getD 0 default)]=some [eT x]:=by unfold gR;rw[a0];cases x;simp[eT]
      have r1:gR (jt mT N q79) [eT (t.l.getD 1 default)]=some [eT y]:=by unfold gR;rw[a1];cases y;simp[eT]
      have hl2:(t.l.length:Int)=2:=by omega
      simp only[gnZ,gnT,g0,g1,r0,r1,q64,uG,uN,z87,hl2];exact⟨by decide,rfl⟩
   ·rw[if_neg (by simp[hbr]),if_pos hc,uA] at hb;subst hb;simp only[gnZ,gnT,gTT,qgm hv]
   ·rw[if_neg (by simp[hbr]),if_neg (by simp[hc])] at hb;cases hb
 | none =>
  rw[q94] at hb;rw[hb] at hg;simp only[uA] at hg;subst hg;refine z61 (tbl:=[(yv,gTb q02),(jl,jt mT N q79),(yd,gTb q9u),(y8,gTT q1s)]) q6y kX _ (.cons q6o (.cons ih (.cons q4x (.cons q3v .nil)))) rfl rfl (by decide) rfl (fun e he T' hT=>?_) ?_
  ·simp only[uV,kJ,or_false] at he;rcases he with rfl|rfl|rfl|rfl
   ·cases hT
   ·injection hT with hT;exact hT.symm
   ·cases hT
   ·cases hT
  rw[qa0 _ _ _ _ _ rfl];rw[q5x,yb];refine⟨fun h=>?_,fun h=>?_⟩
  ·simp only[gnZ,gnT] at h;rw[if_pos h] at hb;cases hb
  ·simp only[gnZ,gnT] at h;rw[if_neg h] at hb;simp only[gnZ,gnT,gTb,gTT];refine⟨fun hbr=>?_,fun hbr=>⟨fun hc=>?_,fun hc=>?_⟩⟩
   ·obtain⟨h2,h3⟩:=q2c hbr;rw[if_pos hbr,two hbr] at hb;have a0:=arg 0 (by omega);have a1:=arg 1 (by omega);have g0:(D.r (t.l.map eT)).get 0=eT (t.l.getD 0 default):=q1j (k:=0) (by omega);have g1:(D.r (t.l.map eT)).get 1=eT (t.l.getD 1 default):=q1j (k:=1) (by omega);have ok0:(jt mT N q79 [eT (t.l.getD 0 default)]).isSome=true:=by rw[a0];cases j3 (t.l.getD 0 default)<;>rfl
    have ok1:(jt mT N q79 [eT (t.l.getD 1 default)]).isSome=true:=by rw[a1];cases j3 (t.l.getD 1 default)<;>rfl
    simp only[gnZ,gnT,g0,g1,ok0,ok1];refine⟨by simp;omega,?_⟩;refine z4m ?_;rw[a0,a1];cases b0:j3 (t.l.getD 0 default) with
    |none=>exact .inl rfl
    |some x=>
     cases b1:j3 (t.l.getD 1 default) with
     |none=>exact .inr rfl
     |some y=>rw[b0,b1] at hb;cases hb
   ·rw[if_neg (by simp[hbr]),if_pos hc] at hb;cases hb
   ·exact zaj
def z0x(t:Te):Te×Bool:=match j3 t with
 |some u=>(u,true)
 |none=>(zT,false)
def gCv(f:Te→Te×Bool):List D→Option (List D)
 |[t]=>if zu (dT t) then some [eT (f (dT t)).1,.b (f (dT t)).2] else none
 |_=>none
theorem qpf:FOk q0w (gCv z0x):=(qib qmz).subW fun ds outs hw hg=>by
 obtain⟨d,r,rfl,hd,rfl⟩:=hw;obtain⟨t,rfl,ht⟩:=wfT hd;simp only[gCv,zm,uB,uA] at hg;obtain⟨hv,rfl⟩:=hg;unfold z2e z0x;simp only[q79,zm,hv,if_true];cases j3 t with
 |none=>rfl
 |some u=>
  cases u;simp[eT]
mutual
def q9w:Te→Te×Bool
 |.mk k n s l=>if k=0 then(.mk 3 0 qhm [.mk k n s l],true) else if k=1 then(zT,false)
  else if q9g (.mk k n s l) then(.mk 3 0 s ((q5r l).map (·.1)),(q5r l).all (·.2)) else(q1s (.mk k n s l),true)
def q5r:List Te→List (Te×Bool)
 |[]=>[]
 |t::l=>q9w t::q5r l
end
theorem z4p(t:Te):q9w t=if t.k=0 then(.mk 3 0 qhm [t],true) else if t.k=1 then(zT,false) else if q9g t then(.mk 3 0 t.s ((q5r t.l).map (·.1)),(q5r t.l).all (·.2)) else(q1s t,true):=by
 cases t;rw[q9w];rfl
theorem qym{t:Te}(h:q9g t=true):t.l.length=2:=by
 simp only[q9g,isT,uU,gnB,gnD] at h;omega
theorem qz0:FOk jj (gCv q9w):=q29 (m:=mT) q61 fun N ih=>qf0 qmd qmo ih fun ds outs hw hg=>by
 obtain⟨d,r,rfl,hd,rfl⟩:=hw;obtain⟨t,rfl,ht⟩:=wfT hd;simp only[jt,mT,gCv,uC,zm,uB,uA] at hg;obtain⟨hsz,hv,rfl⟩:=hg;rw[q3d,z4p,yb];refine⟨fun h=>?_,fun h=>?_⟩
 ·simp only[gnZ,gnT] at h;rw[if_pos h];simp only[gnZ,gnT,q64,uG,uN];rfl
 ·simp only[gnZ,gnT] at h;rw[if_neg h,yb];refine⟨fun h1=>?_,fun h1=>?_⟩
  ·simp only[gnZ,gnT] at h1;rw[if_pos h1];simp only[gnZ,gnT]
  ·simp only[gnZ,gnT] at h1;rw[if_neg h1];simp only[gnZ,gnT,gTb,gTT];refine⟨fun hj=>?_,fun hj=>?_⟩
   ·rw[if_neg (by simpa using hj)]
   ·have hj:q9g t=true:=by simpa using hj
    have hl:=qym hj;rw[if_pos hj];have s0:=q37 (t:=t) (k:=0) (by omega);have s1:=q37 (t:=t) (k:=1) (by omega);have g0:(D.r (t.l.map eT)).get 0=eT (t.l.getD 0 default):=q1j (k:=0) (by omega);have g1:(D.r (t.l.map eT)).get 1=eT (t.l.getD 1 default):=q1j (k:=1) (by omega);have e:=z01 hl;have v0:=q7e hv (j:=0) (by omega);have v1:=q7e hv (j:=1) (by omega);have hl2:(t.l.length:Int)=2:=by omega
    have ec:q5r t.l=[q9w (t.l.getD 0 default),q9w (t.l.getD 1 default)]:=by
     generalize t.l.getD 0 default=a at *;generalize t.l.getD 1 default=b at *;rw[e];rfl
    simp only[gnZ,gnT,g0,g1,jt,mT,gCv,if_pos (show szT (t.l.getD 0 default)<N by omega),if_pos (show szT (t.l.getD 1 default)<N by omega),v0,v1,if_true,hl2,ec,q64,uG,uN,z87];refine⟨by decide,?_⟩;simp;rfl
theorem qm4{t:Te}(h:zu t=true):t.k=0∨t.k=1∨(t.k=2∧t.l.length=0)∨(t.k=3∧1≤t.l.length):=by
 have h:=((q6g t).1 (q3b.1 h).2).1;unfold q88 at h;split at h
 ·exact .inl (by assumption)
 split at h
 ·exact .inr (.inl (by assumption))
 split at h
 ·rename_i h2;simp only[gnB,gnD] at h;exact .inr (.inr (.inl ⟨h2,by omega⟩))
 split at h
 ·rename_i h3;simp only[gnB,gnD] at h;exact .inr (.inr (.inr ⟨h3,by omega⟩))
 ·cases h
theorem qqr{t:Te}(h:zu t=true):q9g t=q02 t:=by
 have hk:=qm4 h;rw[kB];simp only[q9g,isT,q02,uU,gnB,gnD];constructor
 ·rintro((⟨⟨h1,h2⟩,h3⟩|⟨⟨h1,h2⟩,h3⟩)|⟨⟨h1,h2⟩,h3⟩)
  ·exact⟨⟨by omega,by omega⟩,.inl (.inl h2)⟩
  ·exact⟨⟨by omega,by omega⟩,.inl (.inr h2)⟩
  ·exact⟨⟨by omega,by omega⟩,.inr h2⟩
 ·rintro⟨⟨h1,h2⟩,(h3|h3)|h3⟩
  ·exact .inl (.inl ⟨⟨.inr h1,h3⟩,by omega⟩)
  ·exact .inl (.inr ⟨⟨.inr h1,h3⟩,by omega⟩)
  ·exact .inr ⟨⟨.inr h1,h3⟩,by omega⟩
mutual
theorem z4e:∀(t:Te),zu t=true→(match j3 t with|some u=>q9w t=(u,true)|none=>(q9w t).2=false)
 | .mk k n s l, hv => by
  have hj:=qqr hv;have hk:=qm4 hv;rw[j3,q9w];by_cases h0:k=0
  ·rw[if_pos h0,if_pos h0]
  rw[if_neg h0,if_neg h0];by_cases h1:k=1
  ·subst h1;rw[if_pos rfl,if_neg (by simp[q02,Te.k]),if_neg (by simp[q9u,Te.k])]
  rw[if_neg h1,hj];by_cases hb:q02 (.mk k n s l)=true
  ·rw[if_pos hb,if_pos hb];have ih:=qsm l fun a ha=>qp9 hv ha;cases hm:q0q l with
   |some m=>
    rw[hm] at ih
    show(_,_)=_
    rw[ih.1,ih.2]
   |none=>
    rw[hm] at ih;exact ih
  ·rw[if_neg hb,if_neg hb];have hc:q9u (.mk k n s l)=true:=by
    have hk:k=0∨k=1∨(k=2∧l.length=0)∨(k=3∧1≤l.length):=hk;have hk:k=2∨k=3:=by omega
    show(decide (k=2)||decide (k=3))=true
    rw[uU,gnD,gnD];exact hk
   rw[if_pos hc]
   show(q1s _,true)=_
   rw[qgm hv]
theorem qsm:∀(l:List Te),(∀a∈l,zu a=true)→(match q0q l with|some m=>(q5r l).map (·.1)=m∧(q5r l).all (·.2)=true|none=>(q5r l).all (·.2)=false)
 |[],_=>⟨rfl,rfl⟩
 | t :: l, hv => by
  have h1:=z4e t (hv t uR);have h2:=qsm l fun a ha=>hv a (uQ _ ha);rw[q0q,q5r];cases ht:j3 t with
  |none=>
   rw[ht] at h1
   show((q9w t).2&&_)=false
   rw[h1];rfl
  | some x =>
   rw[ht] at h1;cases hl:q0q l with
   |none=>
    rw[hl] at h2
    show((q9w t).2&&(q5r l).all (·.2))=false
    rw[h2,Bool.and_false]
   | some m =>
    rw[hl] at h2;refine⟨?_,?_⟩
    ·rw[uG,h1,h2.1]
    ·show((q9w t).2&&(q5r l).all (·.2))=true
     rw[h1,h2.2];rfl
end
def q2q(t:Te):Te×Bool:=if zu t then(match j3 t with
 |some u=>if 2000<szT u then(zT,false) else(u,true)
 |none=>(zT,false)) else(zT,false)
def qe2(f:Te→Te×Bool):List D→Option (List D)
 |[t]=>some [eT (f (dT t)).1,.b (f (dT t)).2]
 |_=>none
theorem q9r:FOk yo (qe2 q2q):=qnr q12 qpf q6c fun ds outs hw hg=>by
 obtain⟨d,r,rfl,hd,rfl⟩:=hw;obtain⟨t,rfl,ht⟩:=wfT hd;simp only[qe2,zm,uA] at hg;subst hg;simp only[q6p,gnZ,gnT,gTb];refine⟨fun h=>?_,fun h=>?_⟩
 ·have h:zu t=false:=by simpa using h
  simp only[q2q,h];rfl
 have h:zu t=true:=by simpa using h
 simp only[gnZ,gnT,gTb,gCv,gTi,h,if_true,q2q,z0x];cases j3 t with
 |none=>simp
 | some u =>
  by_cases hz:2000<szT u
  ·have:(2000:Int)<min (szT u:Int) 2001:=by omega
   simp[hz,this]
  ·have:¬(2000:Int)<min (szT u:Int) 2001:=by omega
   simp[hz,this]
mutual
def qe4:Te→Bool
  |.mk k n s l=>if k=2 then decide (s=qxu) else if q02 (.mk k n s l) then(if s=ju then(qfp l).getD 1 false else(qfp l).getD 0 false||(qfp l).getD 1 false) else false
def qfp:List Te→List Bool
 |[]=>[]
 |t::l=>qe4 t::qfp l
end
theorem qd3:∀(l:List Te)(j:Nat),j<l.length→(qfp l).getD j false=qe4 (l.getD j default)
 |t::l,0,_=>rfl
 |t::l,j+1,h=>by
  rw[qfp,uD,uD];exact qd3 l j (by simpa using h)
theorem z4z{t:Te}:qe4 t=if t.k=2 then decide (t.s=qxu) else if q02 t then(if t.s=ju then qe4 (t.l.getD 1 default) else qe4 (t.l.getD 0 default)||qe4 (t.l.getD 1 default)) else false:=by
 cases t with
 | mk k n s l =>
  rw[qe4];by_cases hb:q02 (.mk k n s l)=true
  ·have hl:=(q2c hb).1;have hl:l.length=2:=hl;rw[qd3 l 0 (by omega),qd3 l 1 (by omega)];rfl
  ·rw[if_neg hb,if_neg hb];rfl
def gCu:List D→Option (List D)
 |[t]=>if zu (dT t) then some [.b (qe4 (dT t))] else none
 |_=>none
theorem qrc:FOk jn gCu:=q29 (m:=mT) q9y fun N ih=>qmy q6o ih fun ds outs hw hg=>by
 obtain⟨d,r,rfl,hd,rfl⟩:=hw;obtain⟨t,rfl,ht⟩:=wfT hd;simp only[jt,mT,gCu,uC,zm,uB,uA] at hg;obtain⟨hsz,hv,rfl⟩:=hg;rw[q7b,z4z,yb];refine⟨fun h=>?_,fun h=>?_⟩
 ·simp only[gnZ,gnT] at h;rw[if_pos h];simp only[gnZ,gnT]
 simp only[gnZ,gnT] at h;rw[if_neg h];simp only[gnZ,gnT,gTb];refine⟨fun hb=>?_,fun hb=>?_⟩
 ·rw[if_neg (by simpa using hb)]
 have hb:q02 t=true:=by simpa using hb
 have hl:=(q2c hb).1;have s0:=q37 (t:=t) (k:=0) (by omega);have s1:=q37 (t:=t) (k:=1) (by omega);have g0:(D.r (t.l.map eT)).get 0=eT (t.l.getD 0 default):=q1j (k:=0) (by omega);have g1:(D.r (t.l.map eT)).get 1=eT (t.l.getD 1 default):=q1j (k:=1) (by omega);have v0:=q7e hv (j:=0) (by omega);have v1:=q7e hv (j:=1) (by omega);have hl2:(t.l.length:Int)=2:=by omega
 simp only[hb,if_true,gnZ,gnT,g0,g1,jt,mT,gCu,if_pos (show szT (t.l.getD 0 default)<N by omega),if_pos (show szT (t.l.getD 1 default)<N by omega),v0,v1,hl2];refine⟨fun ha=>?_,fun ha=>?_⟩
 ·rw[if_pos ha];simp
 ·rw[if_neg ha];simp
def q63(t:Te):Bool:=zu t&&qe4 t
theorem q42:FOk zq (gTb q63):=qmx q12 qrc fun ds outs hw hg=>by
 obtain⟨d,r,rfl,hd,rfl⟩:=hw;obtain⟨t,rfl,ht⟩:=wfT hd;simp only[gTb,zm,uA] at hg;subst hg;simp only[q6i,gnZ,gnT,gTb,gCu,q63];cases zu t<;>simp[qdc]
def z9j:List D→D→Int
 |[],_=> -1
 |a::l,x=>if a=x then 0 else if z9j l x<0 then -1 else z9j l x+1
def zbk:List D→Option (List D)
 |[l,x]=>some [.i (z9j l.rs x)]
 |_=>none
abbrev z6w:ByteArray:=⟨#[102,97,105,108]⟩
abbrev za6:ByteArray:=⟨#[92,43]⟩
abbrev z79:ByteArray:=⟨#[111,110,99,101]⟩
def qbx(s:ByteArray)(n:Int):Bool:=decide ((s=z74∨s=z6w∨s=qxu)∧n=0∨(s=q24∨s=q26∨s=ju)∧n=2∨(s=za6∨s=z79)∧n=1)
def z83:List D→Option (List D)
 |[s,n]=>some [.b (qbx s.str n.int)]
 |_=>none
theorem qf7:FOk jf z83:=qey fun ds outs hw hg=>by
 obtain⟨d,r,rfl,hd,e,r',rfl,he,rfl⟩:=hw;obtain⟨s,rfl,hs⟩:=hd.str;obtain⟨n,rfl,hn⟩:=wfI he;simp only[z83,qew,q04,uA] at hg;subst hg;by_cases h1:s=z74
 ·subst h1;simp[zz,gnZ,gnT,qbx]
 by_cases h2:s=z6w
 ·subst h2;simp[zz,gnZ,gnT,qbx]
 by_cases h3:s=qxu
 ·subst h3;simp[zz,gnZ,gnT,qbx]
 by_cases h4:s=q24
 ·subst h4;simp[zz,gnZ,gnT,qbx]
 by_cases h5:s=q26
 ·subst h5;simp[zz,gnZ,gnT,qbx]
 by_cases h6:s=ju
 ·subst h6;simp[zz,gnZ,gnT,qbx]
 by_cases h7:s=za6
 ·subst h7;simp[zz,gnZ,gnT,qbx]
 by_cases h8:s=z79
 ·subst h8;simp[zz,gnZ,gnT,qbx]
 ·simp[zz,gnZ,gnT,h1,h2,h3,h4,h5,h6,h7,h8,qbx]
def qav:Nat→List Int→List D
 |_,[]=>[]
 |i,v::l=>.a [.i v,.i (i:Nat)]::qav (i+1) l
def qad(vs:List Int):D:=.mp (qav 0 vs)
def qzo(d:D):List Int:=d.ms.map fun p=>(p.fld 0).int
theorem zao:∀(i:Nat)(l:List Int),(qav i l).map (fun p=>(p.fld 0).int)=l
 |_,[]=>rfl
 |i,v::l=>by rw[qav,uG,zao (i+1) l];rfl
theorem q8p(vs:List Int):qzo (qad vs)=vs:=zao 0 vs
theorem qsw:∀(i:Nat)(l:List Int),(qav i l).length=l.length
 |_,[]=>rfl
 |i,v::l=>by rw[qav,uP,qsw (i+1) l];rfl
theorem qgz:∀(i:Nat)(l:List Int)(x:Int),mfind (.i x) (qav i l)=if x∈l then some (.i (i+q5t l x)) else none
 |_,[],x=>by simp[qav,mfind]
 | i, v :: l, x => by
  rw[qav,mfind];have e:(D.a [.i v,.i (i:Nat)]).fld 0=.i v:=rfl;have e1:(D.a [.i v,.i (i:Nat)]).fld 1=.i (i:Nat):=rfl;rw[e,e1];by_cases h:v=x
  ·subst h;rw[if_pos rfl,if_pos uR];unfold q5t;rw[if_pos rfl,Int.add_zero]
  ·rw[if_neg (by simpa using h),qgz (i+1) l x];by_cases hx:x∈l
   ·have:=(qs0 hx).1;rw[if_pos hx,if_pos (uQ _ hx)];have e2:q5t (v::l) x=q5t l x+1:=by
     conv=>lhs;unfold q5t
     rw[if_neg h,if_neg (by omega)]
    rw[e2]
    congr 2
    push_cast
    omega
   ·rw[if_neg hx,if_neg fun q=>by
     rcases uV.1 q with q|q
     ·exact h q.symm
     ·exact hx q]
theorem qsc:∀(i:Nat)(l:List Int)(x:Int),x∉l→mset (.i x) (.i ((i+l.length:Nat):Int)) (qav i l)=qav i (l++[x])
 |i,[],x,_=>rfl
 |i,v::l,x,h=>by
  rw[qav,mset];have e:(D.a [.i v,.i (i:Nat)]).fld 0=.i v:=rfl;have hv:v≠x:=fun e=>h (by rw[e];exact uR);rw[e,if_neg (by simpa using hv),uZ,qav,uP,show i+(l.length+1)=(i+1)+l.length by omega,qsc (i+1) l x fun q=>h (uQ _ q)]
theorem qsp(vs:List Int)(x:Int):fnD 1 [qad vs,.i x]=.b (decide (x∈vs)):=by
 show D.b (mfind (.i x) (qav 0 vs)).isSome=_
 rw[qgz];by_cases h:x∈vs<;>simp[h]
theorem z24{vs:List Int}{x:Int}(h:x∈vs):fnD 0 [qad vs,.i x,.i 0]=.i (q5t vs x):=by
 show(mfind (.i x) (qav 0 vs)).getD (.i 0)=_
 rw[qgz,if_pos h];simp
theorem z00{vs:List Int}{x:Int}(h:x∉vs):fnD 2 [qad vs,.i x,.i (vs.length:Nat)]=qad (vs++[x]):=by
 show D.mp (mset (.i x) (.i (vs.length:Nat)) (qav 0 vs))=_
 have:=qsc 0 vs x h;rw[Nat.zero_add] at this;rw[this];rfl
theorem qeb(vs:List Int):fnD 3 [qad vs]=.i (vs.length:Nat):=by
 show D.i ((qav 0 vs).length:Nat)=_
 rw[qsw]
def okM(m:D)(n:Nat):Bool:=decide (m=qad (qzo m))&&decide ((qzo m).length+n≤1000000)
def ql7:List D→Option (List D)
 |[t,m]=>if okM m (szT (dT t)) then some [eT (qs9 (j5 (qzo m) (dT t)) (dT t)),qad (j5 (qzo m) (dT t))] else none
 |_=>none
theorem qru{vs W:List Int}{t:Te}{m:List Int}(h:W=j5 vs t++m):qs9 (j5 vs t) t=qs9 W t:=
 qko (V:=j5 vs t) (fun x hx=>by rw[h,qkl hx]) t (qm3 t vs)
theorem qmi:FOk y5 ql7:=q29 (m:=mT) q84 fun N ih=>qht ih fun ds outs hw hg=>by
 obtain⟨d,r,rfl,hd,e,r',rfl,he,rfl⟩:=hw;obtain⟨t,rfl,ht⟩:=wfT hd;simp only[jt,mT,ql7,uC,zm,uB,uA,okM,gnB,gnD] at hg;obtain⟨hsz,⟨hm,hlen⟩,rfl⟩:=hg;generalize qzo e=vs at *;subst hm;have hl:=ht.l;have hs:=qwm t
 have key:∀(x y:X)(V:List Int)(n:Int),V.length+q2x t.l≤1000000→ym V t.l=j5 vs t→(n=if t.k=0 then q5t (j5 vs t) t.n else t.n)→
   x.ev (evl (yx [(y5,jt mT N ql7)]) [eT t,qad vs])=qad V→y.ev (evl (yx [(y5,jt mT N ql7)]) [eT t,qad vs])=eT (.mk t.k n t.s [])→
   Tree.go (yx [(y5,jt mT N ql7)]) (fun o=>o=[eT (qs9 (j5 vs t) t),qad (j5 vs t)]) (.loop 9 2 [(.lit (.i 0)),x,y] (qpx q1l)) [eT t,qad vs] fun _ _=>False:=by
  intro x y V n hV1 hV2 hn hx hy;rw[j4];simp only[qpx,q1l];refine⟨fun st=>∃k:Nat,k≤t.l.length∧st=[.i k,qad (ym V (t.l.take k)),eT (.mk t.k n t.s ((t.l.take k).map (qs9 (j5 vs t))))],fun st=>t.l.length - (st.getD 0 .u).int.toNat,⟨0,uJ _,by simp only[X.evs,hx,hy,X.ev];rfl⟩,?_⟩;rintro st - ⟨k,hk,rfl⟩;rw[yb];refine⟨fun hlt=>?_,fun hlt=>?_⟩
  ·simp only[gnZ,gnT] at hlt;have hkl':k<t.l.length:=by omega
   have ha:=q37 hkl';have h1:=q9m (t.l.take k) V;have h2:=qx0 hkl';have hok:okM (qad (ym V (t.l.take k))) (szT (t.l.getD k default))=true:=by
    rw[okM,q8p,gnB];exact⟨decide_eq_true rfl,decide_eq_true (by omega)⟩
   have hW:∃m,j5 vs t=j5 (ym V (t.l.take k)) (t.l.getD k default)++m:=by
    rw[←hV2,←qrl hkl'];have e:t.l=t.l.take (k+1)++t.l.drop (k+1):=(kE _ _).symm;obtain⟨m,hm⟩:=q77 (t.l.drop (k+1)) (ym V (t.l.take (k+1)));refine⟨m,?_⟩
    conv=>lhs;rw[e,q6u]
    exact hm
   obtain⟨m,hm⟩:=hW;simp only[gnZ,gnT,q1j hkl',jt,mT,ql7,q8p,hok,if_true,if_pos (show szT (t.l.getD k default)<N by omega),z64,uS];refine⟨⟨by omega,by omega⟩,by omega,⟨by omega,by omega⟩,?_⟩;rw[q0t,if_pos rfl];refine⟨⟨k+1,by omega,?_⟩,?_⟩
   ·rw[ji hkl',q6u,uI,qja,qru hm];rfl
   ·simp[D.int];omega
  ·simp only[gnZ,gnT] at hlt⊢;have:k=t.l.length:=by omega
   subst this;rw[uM,hV2,hn,qs9,z94]
 rw[q1l,yb];refine⟨fun h=>?_,fun h=>?_⟩
 ·simp only[gnZ,gnT] at h;rw[yb];have hwin:t.n∈j5 vs t:=by
   have:=qm3 t vs;cases t with
   |mk k n s l=>exact this.1 h
  refine⟨fun hh=>?_,fun hh=>?_⟩
  ·simp only[gnZ,gnT,qsp,gnD,Bool.not_eq_true',decide_eq_false_iff_not] at hh;have e1:ym (vs++[t.n]) t.l=j5 vs t:=by rw[qe5,if_pos ⟨h,hh⟩]
   have e2:q5t (j5 vs t) t.n=vs.length:=by
    obtain⟨m,hm⟩:=q77 t.l (vs++[t.n]);rw[←e1,hm,qkl (by simp),qpc hh]
   rw[yp];refine⟨by simp only[gnZ,gnT,qeb];omega,key _ _ (vs++[t.n]) vs.length (by simp only[uW,uP,uT];omega) e1 (by rw[if_pos h,e2]) ?_ ?_⟩
   ·simp only[gnZ,gnT,qeb,z00 hh]
   ·simp only[gnZ,gnT,qeb,q64];rfl
  ·simp only[gnZ,gnT,qsp,gnD,kH] at hh;have e1:ym vs t.l=j5 vs t:=by rw[qe5,if_neg fun q=>q.2 hh]
   have e2:q5t (j5 vs t) t.n=q5t vs t.n:=by
    obtain⟨m,hm⟩:=qh5 t vs;rw[hm,qkl hh]
   refine key _ _ vs (q5t vs t.n) (by omega) e1 (by rw[if_pos h,e2]) ?_ ?_
   ·simp only[gnZ,gnT]
   ·simp only[gnZ,gnT,z24 hh,q64];rfl
 ·simp only[gnZ,gnT] at h;refine key _ _ vs t.n (by omega) (by rw[qe5,if_neg fun q=>h q.1]) (by rw[if_neg h]) ?_ ?_
  ·simp only[gnZ,gnT]
  ·simp only[gnZ,gnT,q64];rfl
abbrev Cla:=Te×Te
def eK(c:Cla):D:=.a [eT c.1,eT c.2]
def dK(d:D):Cla:=(dT (d.fld 0),dT (d.fld 1))
theorem qhc(c:Cla):dK (eK c)=c:=by
 show(dT (eT c.1),dT (eT c.2))=c
 rw[zm,zm]
theorem qa9(c:Cla):(eK c).fld 0=eT c.1:=rfl
theorem qj3(c:Cla):(eK c).fld 1=eT c.2:=rfl
theorem zag(a b:Te):D.a [eT a,eT b]=eK (a,b):=rfl
def zK:Cla:=(zT,zT)
theorem zbe:D.a [eT zT,eT zT]=eK zK:=rfl
theorem zaq:D.a [.a [.i 0,.i 0,.s ⟨#[]⟩,.r []],.a [.i 0,.i 0,.s ⟨#[]⟩,.r []]]=eK zK:=rfl
theorem z9i(a b:Te):D.a (((eK zK).fs.set 0 (eT a)).set 1 (eT b))=eK (a,b):=rfl
theorem wfK{d:D}(h:Wf d z42):∃c:Cla,d=eK c∧okT c.1∧okT c.2:=by
 obtain⟨ds,rfl,hl⟩:=h.st_of (fs:=[q2g,q2g]) rfl;obtain⟨a,b,rfl,ha,hb⟩:=quv hl;obtain⟨x,rfl,hx⟩:=wfT ha;obtain⟨y,rfl,hy⟩:=wfT hb;exact⟨(x,y),rfl,hx,hy⟩
def qh6(c:Cla):Bool:=decide (min (szT c.1:Int) 2001+min (szT c.2:Int) 2001≤2000)
theorem qtt(c:Cla):qh6 c=true↔szT c.1+szT c.2≤2000:=by
 have h1:=qje c.1;have h2:=qje c.2;simp only[qh6,gnD];omega
def gKb(f:Cla→Bool):List D→Option (List D)
 |[c]=>some [.b (f (dK c))]
 |_=>none
theorem qpv:FOk q11 (gKb qh6):=qn9 q6c fun ds outs hw hg=>by
 obtain⟨d,r,rfl,hd,rfl⟩:=hw;obtain⟨c,rfl,h1,h2⟩:=wfK hd;simp only[gKb,qhc,uA] at hg;subst hg;simp only[q7c,gnZ,gnT,qa9,qj3,gTi,qh6];omega
def qcc(c:Cla):List Int:=ym [] [c.1,c.2]
def qto(c:Cla):Cla:=(qs9 (qcc c) c.1,qs9 (qcc c) c.2)
def szK(c:Cla):Nat:=szT c.1+szT c.2
def z3c:List D→Option (List D)
 |[c]=>if szK (dK c)≤10000 then some [eK (qto (dK c)),.i ((qcc (dK c)).length:Nat)] else none
 |_=>none
theorem z88:D.mp []=qad []:=rfl
theorem qeu:FOk j7 z3c:=qd1 qmi fun ds outs hw hg=>by
 obtain⟨d,r,rfl,hd,rfl⟩:=hw;obtain⟨⟨a,b⟩,rfl,h1,h2⟩:=wfK hd;simp only[z3c,qhc,uB,uA] at hg;obtain⟨hsz,rfl⟩:=hg;have hsz:szT a+szT b≤10000:=hsz;have l1:=qbj a [];have l2:=qbj b (j5 [] a);simp only[uT] at l1;have o1:okM (qad []) (szT a)=true:=by
  rw[okM,q8p,gnB];exact⟨decide_eq_true rfl,decide_eq_true (by simp;omega)⟩
 have o2:okM (qad (j5 [] a)) (szT b)=true:=by
  rw[okM,q8p,gnB];exact⟨decide_eq_true rfl,decide_eq_true (by omega)⟩
 have ev:qcc (a,b)=j5 (j5 [] a) b:=rfl;obtain⟨m,hm⟩:=qh5 b (j5 [] a);simp only[q2v,gnZ,gnT,qa9,qj3,z88,ql7,o1,o2,if_true,q8p,qeb,zaq,zbe,z9i,z87];refine⟨by omega,?_⟩;rw[qru hm,qto,ev]
theorem z8s{head g:Te}(h:szT head+szT g≤2000):z3c [D.a [eT head,eT g]]=some [eK (qto (head,g)),.i ((qcc (head,g)).length:Nat)]:=by
 have:szK (head,g)≤10000:=by show szT head+szT g≤10000;omega
 simp only[z3c,zag,qhc,if_pos this]
def q1r(c:Cla):Bool:=(zu c.1&&q9u c.1)&&(qh6 c&&(zu c.2&&(decide (j3 c.2=some c.2)&&(decide ((qcc c).length≤64)&&decide (qto c=c)))))
theorem qeg{t u:Te}(h:zu t=true):q6q u t=decide (u=t):=by
 rw[kB];simp only[q6q,gnB,gnD,qbi];exact⟨fun q=>q.2.2,fun q=>⟨by rw[q];exact h,h,q⟩⟩
theorem z6i(c:Cla):decide (qto c=c)=(decide ((qto c).1=c.1)&&decide ((qto c).2=c.2)):=by
 rw[kB];simp only[gnB,gnD];exact⟨fun h=>⟨by rw[h],by rw[h]⟩,fun h=>Prod.ext h.1 h.2⟩
theorem qyx{t:Te}(hv:zu t=true):((q2q t).2&&q6q (q2q t).1 t)=decide (j3 t=some t):=by
 rw[qeg hv];have hz:=(q3b.1 hv).1;simp only[q2q,hv,if_true];cases hb:j3 t with
 |none=>simp
 | some u =>
  by_cases h:u=t
  ·subst h;have:¬2000<szT u:=by omega
   simp[this]
  ·by_cases h2:2000<szT u
   ·simp[h2,h]
   ·simp[h2,h]
theorem qmv:FOk q0j (gKb q1r):=ql5 q12 q4x qpv q9r qex qeu fun ds outs hw hg=>by
 obtain⟨d,r,rfl,hd,rfl⟩:=hw;obtain⟨c,rfl,-⟩:=wfK hd;simp only[gKb,qhc,uA] at hg;subst hg;have hfo:gKb qh6 [eK c]=some [.b (qh6 c)]:=by simp only[gKb,qhc]
 cases hv:zu c.1 with
 |false=>simp[j2,gnZ,gnT,qa9,qj3,gTb,hv,q1r,hfo]
 | true =>
  cases hc:q9u c.1 with
  |false=>simp[j2,gnZ,gnT,qa9,qj3,gTb,hv,hc,q1r,hfo]
  | true =>
   cases hf:qh6 c with
   |false=>simp[j2,gnZ,gnT,qa9,qj3,gTb,hv,hc,q1r,hfo,hf,qdc]
   | true =>
    have hz:=(qtt c).1 hf;have hco:z3c [eK c]=some [eK (qto c),.i ((qcc c).length:Nat)]:=z8s (head:=c.1) (g:=c.2) hz;cases hv2:zu c.2 with
    |false=>
     have:(q2q c.2).2=false:=by simp[q2q,hv2]
     simp[j2,gnZ,gnT,qa9,qj3,gTb,hv,hc,q1r,hfo,hf,qdc,qe2,this,hv2]
    | true =>
     have hgs:=qyx hv2;cases hg2:(q2q c.2).2 with
     |false=>
      rw[hg2,kP] at hgs;simp[j2,gnZ,gnT,qa9,qj3,gTb,hv,hc,q1r,hfo,hf,qdc,qe2,hg2,hv2,←hgs]
      all_goals exact fun q=>absurd q (of_decide_eq_false hgs.symm)
     | true =>
      rw[hg2,kQ] at hgs;cases hs:q6q (q2q c.2).1 c.2 with
      |false=>
       rw[hs] at hgs;simp[j2,gnZ,gnT,qa9,qj3,gTb,hv,hc,q1r,hfo,hf,qdc,qe2,hg2,hv2,q7n,hs]
       all_goals exact fun q=>absurd q (of_decide_eq_false hgs.symm)
      | true =>
       rw[hs] at hgs;have hbb:=of_decide_eq_true hgs.symm;by_cases h64:(qcc c).length≤64
       ·have h65:((qcc c).length:Int)≤64:=by omega
        simp[j2,gnZ,gnT,qa9,qj3,gTb,hv,hc,q1r,hfo,hf,qdc,qe2,hg2,hv2,q7n,hs,hco,h64,h65,hbb,qeg hv,qeg hv2,z6i]
       ·have h65:¬((qcc c).length:Int)≤64:=by omega
        simp[j2,gnZ,gnT,qa9,qj3,gTb,hv,hc,q1r,hfo,hf,qdc,qe2,hg2,hv2,q7n,hs,hco,h64,h65]
def enV(l:List Int):D:=.mp (l.map fun v=>.a [.i v,.i 1])
theorem qxw:∀(l:List Int)(x:Int),mfind (.i x) (l.map fun v=>D.a [.i v,.i 1])=if x∈l then some (.i 1) else none
 |[],x=>rfl
 | v :: l, x => by
  rw[uG,mfind];have e:(D.a [.i v,.i 1]).fld 0=.i v:=rfl;have e1:(D.a [.i v,.i 1]).fld 1=.i 1:=rfl;rw[e,e1];by_cases h:v=x
  ·subst h;rw[if_pos rfl,if_pos uR]
  ·rw[if_neg (by simpa using h),qxw l x];by_cases hx:x∈l
   ·rw[if_pos hx,if_pos (uQ _ hx)]
   ·rw[if_neg hx,if_neg fun q=>by
     rcases uV.1 q with q|q
     ·exact h q.symm
     ·exact hx q]
theorem z36:∀(l:List Int)(x:Int),x∉l→mset (.i x) (.i 1) (l.map fun v=>D.a [.i v,.i 1])=(l++[x]).map fun v=>D.a [.i v,.i 1]
 |[],x,_=>rfl
 |v::l,x,h=>by
  rw[uG,mset];have e:(D.a [.i v,.i 1]).fld 0=.i v:=rfl;have hv:v≠x:=fun e=>h (by rw[e];exact uR);rw[e,if_neg (by simpa using hv),z36 l x fun q=>h (uQ _ q)];rfl
theorem vget(vs:List Int)(x:Int):fnD 0 [enV vs,.i x,.i 0]=.i (if x∈vs then 1 else 0):=by
 show(mfind (.i x) (vs.map fun v=>D.a [.i v,.i 1])).getD (.i 0)=_
 rw[qxw];by_cases h:x∈vs
 ·rw[if_pos h,if_pos h];rfl
 ·rw[if_neg h,if_neg h];rfl
theorem vput{vs:List Int}{x:Int}(h:x∉vs):fnD 2 [enV vs,.i x,.i 1]=enV (vs++[x]):=by
 show D.mp (mset (.i x) (.i 1) (vs.map fun v=>D.a [.i v,.i 1]))=_
 rw[z36 vs x h];rfl
def okV(m r:D)(n:Nat):Bool:=decide (m=enV (dIs r))&&decide ((dIs r).length+n≤1000000)
def z4g:List D→Option (List D)
 |[t,m,r]=>if okV m r 1 then some (if(dT t).n∈dIs r then[t,m,r] else[t,enV (dIs r++[(dT t).n]),eIs (dIs r++[(dT t).n])]) else none
 |_=>none
theorem qai:FOk yy z4g:=qhp fun ds outs hw hg=>by
 obtain⟨d,r,rfl,hd,e,r',rfl,he,f,r'',rfl,hf,rfl⟩:=hw;obtain⟨t,rfl,ht⟩:=wfT hd;obtain⟨vs,rfl,-,-⟩:=zab z2h hf;simp only[z4g,zm,qf6,uB,uA,okV,gnB,gnD] at hg;obtain⟨⟨rfl,hlen⟩,rfl⟩:=hg;rw[q4o,yb];refine⟨fun hh=>?_,fun hh=>?_⟩
 ·simp only[gnZ,gnT,vget] at hh;have hn:t.n∉vs:=fun q=>by rw[if_pos q] at hh;omega
  rw[if_neg hn];simp only[gnZ,gnT,q9s,vput hn,z0c,and_true];omega
 ·simp only[gnZ,gnT,vget] at hh;have hn:t.n∈vs:=Classical.byContradiction fun q=>by rw[if_neg q] at hh;exact hh rfl
  rw[if_pos hn];simp only[gnZ,gnT]
theorem z1d{t:Te}(h:yi t=true)(hk:t.k=0):t=.mk 0 t.n ⟨#[]⟩ []:=by
 cases t with
 |mk k n s l=>
  have hk:k=0:=hk;subst hk;rw[yi] at h;simp only[q88,Te.k,Te.n,Te.s,Te.l,gnB,if_true,gnD] at h;have h1:s=⟨#[]⟩:=of_decide_eq_true h.1.2.2.1;have h2:l=[]:=kD.1 (by have:=of_decide_eq_true h.1.2.2.2;omega);rw[h1,h2];rfl
theorem z1b{t:Te}(h:yi t=true){k:Nat}(hk:k<t.l.length):yi (t.l.getD k default)=true:=((q6g t).1 h).2 k hk
theorem qza{t:Te}(h:yi t=true)(hk:t.k=0)(vs:List Int):j5 vs t=if t.n∈vs then vs else vs++[t.n]:=by
 have hl:t.l=[]:=by rw[z1d h hk];rfl
 rw[qe5,hl,ym];by_cases hn:t.n∈vs
 ·rw[if_neg fun q=>q.2 hn,if_pos hn]
 ·rw[if_pos ⟨hk,hn⟩,if_neg hn]
def z1y:List D→Option (List D)
 |[t,m,r]=>if okV m r (szT (dT t))&&yi (dT t) then some [t,enV (j5 (dIs r) (dT t)),eIs (j5 (dIs r) (dT t))] else none
 |_=>none
theorem qr6{vs:List Int}{n:Nat}(h:vs.length+n≤1000000):okV (enV vs) (eIs vs) n=true:=by
 rw[okV,qf6,gnB];exact⟨decide_eq_true rfl,decide_eq_true h⟩
theorem qhz:FOk yk z1y:=q29 (m:=mT) q75 fun N ih=>qfc qai ih fun ds outs hw hg=>by
 obtain⟨d,r,rfl,hd,e,r',rfl,he,f,r'',rfl,hf,rfl⟩:=hw;obtain⟨t,rfl,ht⟩:=wfT hd;obtain⟨vs,rfl,-,-⟩:=zab z2h hf;simp only[jt,mT,z1y,uC,zm,qf6,uB,uA,okV,gnB,gnD] at hg;obtain⟨hsz,⟨⟨rfl,hlen⟩,hnod⟩,rfl⟩:=hg;have hl:=ht.l;have hs:=qwm t;rw[q40,yb];refine⟨fun h=>?_,fun h=>?_⟩
 ·simp only[gnZ,gnT] at h;have hq:z4g [eT t,enV vs,eIs vs]=some [eT t,enV (j5 vs t),eIs (j5 vs t)]:=by
   simp only[z4g,zm,qf6,qr6 (vs:=vs) (n:=1) (by omega),if_true];rw[qza hnod h];by_cases hin:t.n∈vs
   ·rw[if_pos hin,if_pos hin]
   ·rw[if_neg hin,if_neg hin]
  simp only[gnZ,gnT,hq]
 ·simp only[gnZ,gnT] at h;have hV2:ym vs t.l=j5 vs t:=by rw[qe5,if_neg fun q=>h q.1]
  rw[j4];refine⟨fun st=>∃k:Nat,k≤t.l.length∧st=[.i k,eT (.mk t.k t.n t.s (t.l.take k)),enV (ym vs (t.l.take k)),eIs (ym vs (t.l.take k))],fun st=>t.l.length - (st.getD 0 .u).int.toNat,⟨0,uJ _,by simp only[X.evs,X.ev,evl,uC,uD,z0e,z1e,z3q,q64];rfl⟩,?_⟩;rintro st - ⟨k,hk,rfl⟩;rw[yb];refine⟨fun hlt=>?_,fun hlt=>?_⟩
  ·simp only[gnZ,gnT] at hlt;have hkl':k<t.l.length:=by omega
   have ha:=q37 hkl';have h1:=q9m (t.l.take k) vs;have h2:=qx0 hkl';have hno:=z1b hnod hkl';have hok:okV (enV (ym vs (t.l.take k))) (eIs (ym vs (t.l.take k))) (szT (t.l.getD k default))=true:=qr6 (by omega);simp only[gnZ,gnT,q1j hkl',jt,mT,z1y,qf6,hok,hno,kR,if_true,if_pos (show szT (t.l.getD k default)<N by omega),z64,uS];refine⟨⟨by omega,by omega⟩,by omega,⟨by omega,by omega⟩,?_⟩;rw[q0t,if_pos rfl];refine⟨⟨k+1,by omega,?_⟩,?_⟩
   ·rw[ji hkl',q6u,qja];rfl
   ·simp[D.int];omega
  ·simp only[gnZ,gnT] at hlt⊢;have:k=t.l.length:=by omega
   subst this;rw[uM,hV2];cases t;rfl
def q65(t:Te):List Int:=if zu t then j5 [] t else[]
def qtf(f:Te→List Int):List D→Option (List D)
 |[t]=>some [eIs (f (dT t))]
 |_=>none
theorem qem:FOk jm (qtf q65):=qnn qai q12 qhz fun ds outs hw hg=>by
 obtain⟨d,r,rfl,hd,rfl⟩:=hw;obtain⟨t,rfl,ht⟩:=wfT hd;simp only[qtf,zm,uA] at hg;subst hg;cases hv:zu t with
 |false=>simp[q44,gnZ,gnT,gTb,zm,hv,q65,D.tt,eIs]
 | true =>
  have hv':=hv;simp only[zu,gnB,gnD] at hv';have hq:z1y [eT t,.mp [],.r []]=some [eT t,enV (j5 [] t),eIs (j5 [] t)]:=by
   have:okV (.mp []) (.r []) (szT t)=true:=qr6 (vs:=[]) (by simp;omega);simp only[z1y,zm,this,hv'.2,kR,if_true];rfl
  simp[q44,gnZ,gnT,gTb,zm,hv,q65,D.tt,hq]
theorem qgb(t:Te):(q65 t).length≤2000:=by
 unfold q65;split
 ·rename_i h;simp only[zu,gnB,gnD] at h;have:=qbj t [];simp only[uT] at this;omega
 ·exact uJ _
def q2t(n:Int):Te:=if 0≤n∧n≤1099511627776 then .mk 0 n ⟨#[]⟩ [] else zT
def isNum(n:Int):Bool:=decide (0≤n)&&decide (n≤1099511627776)
theorem qoh{n:Int}:isNum n=true↔0≤n∧n≤1099511627776:=by rw[isNum,gnB,gnD,gnD]
def gNb(f:Int→Bool):List D→Option (List D)
 |[n]=>some [.b (f n.int)]
 |_=>none
def gNT(f:Int→Te):List D→Option (List D)
 |[n]=>some [eT (f n.int)]
 |_=>none
theorem qkx:FOk q03 (gNb isNum):=qia fun ds outs hw hg=>by
 obtain⟨d,r,rfl,hd,rfl⟩:=hw;obtain⟨n,rfl,hn⟩:=wfI hd;simp only[gNb,q04,uA] at hg;subst hg;simp only[q4d,gnZ,gnT]
 try rfl
theorem q3j:FOk zo (gNT q2t):=qpj qkx fun ds outs hw hg=>by
 obtain⟨d,r,rfl,hd,rfl⟩:=hw;obtain⟨n,rfl,hn⟩:=wfI hd;simp only[gNT,q04,uA] at hg;subst hg;rw[q8f,yp,yb];refine⟨by simp only[gnZ,gnT,gNb],fun h=>?_,fun h=>?_⟩
 ·simp only[gnZ,gnT,gNb] at h;have hn:¬(0≤n∧n≤1099511627776):=fun q=>by
   rw[qoh.2 q] at h;cases h
  rw[q2t,if_neg hn];simp only[gnZ,gnT]
 ·simp only[gnZ,gnT,gNb] at h;have h:isNum n=true:=by simpa using h
  rw[q2t,if_pos (qoh.1 h)];simp only[gnZ,gnT];rfl
def gLL(f:List Te→List Te):List D→Option (List D)
 |[l]=>some [.r ((f (l.rs.map dT)).map eT)]
 |_=>none
theorem q10:FOk z3 (gLL id):=qa7 fun ds outs hw hg=>by
 obtain⟨d,r,rfl,hd,rfl⟩:=hw;obtain⟨l,rfl,hl,-⟩:=qq1 hd;simp only[gLL,q7p,q4g,uA] at hg;subst hg;refine⟨fun h=>?_,fun _=>?_⟩
 ·have h1:(l.map eT:List D)=[]:=h rfl;rw[List.map_eq_nil_iff] at h1;subst h1;rfl
 ·rw[yp];refine⟨by simp only[gnZ,gnT];omega,?_⟩;simp only[gnZ,gnT,id]
structure Pr where
 s:ByteArray
 a:Int
 x:Int
structure FG where
 k:Int
 p:Pr
 l:List Te
 v:Int
structure FC where
 p:Pr
 l:List Te
 g:List FG
instance:Inhabited Pr:=⟨⟨⟨#[]⟩,0,0⟩⟩
instance:Inhabited FG:=⟨⟨0,default,[],0⟩⟩
instance:Inhabited FC:=⟨⟨default,[],[]⟩⟩
def zPr:Pr:=⟨⟨#[]⟩,0,0⟩
def ePr(p:Pr):D:=.a [.s p.s,.i p.a,.i p.x]
def eFG(g:FG):D:=.a [.i g.k,ePr g.p,.r (g.l.map eT),.i g.v]
def eFC(f:FC):D:=.a [ePr f.p,.r (f.l.map eT),.r (f.g.map eFG)]
def dPr(d:D):Pr:=⟨(d.fld 0).str,(d.fld 1).int,(d.fld 2).int⟩
def dFG(d:D):FG:=⟨(d.fld 0).int,dPr (d.fld 1),(d.fld 2).rs.map dT,(d.fld 3).int⟩
def dFC(d:D):FC:=⟨dPr (d.fld 0),(d.fld 1).rs.map dT,(d.fld 2).rs.map dFG⟩
theorem qg(p:Pr):dPr (ePr p)=p:=rfl
theorem qi(g:FG):dFG (eFG g)=g:=by
 show(⟨g.k,dPr (ePr g.p),(g.l.map eT).map dT,g.v⟩:FG)=g
 rw[q4g,qg]
theorem z5w(l:List FG):(l.map eFG).map dFG=l:=by
 rw[uX];have:dFG ∘ eFG=id:=funext fun _=>qi _;rw[this,kA]
theorem qh(f:FC):dFC (eFC f)=f:=by
 show(⟨dPr (ePr f.p),(f.l.map eT).map dT,(f.g.map eFG).map dFG⟩:FC)=f
 rw[q4g,qg,z5w]
theorem qxh(l:List FC):(l.map eFC).map dFC=l:=by
 rw[uX];have:dFC ∘ eFC=id:=funext fun _=>qh _;rw[this,kA]
theorem qr(p:Pr):(ePr p).fld 0=.s p.s:=rfl
theorem ql(p:Pr):(ePr p).fld 1=.i p.a:=rfl
theorem qj(p:Pr):(ePr p).fld 2=.i p.x:=rfl
theorem qu(p:FG):(eFG p).fld 0=.i p.k:=rfl
theorem qk(p:FG):(eFG p).fld 1=ePr p.p:=rfl
theorem qt(p:FG):(eFG p).fld 2=.r (p.l.map eT):=rfl
theorem qq(p:FG):(eFG p).fld 3=.i p.v:=rfl
theorem qm(p:FC):(eFC p).fld 0=ePr p.p:=rfl
theorem qn(p:FC):(eFC p).fld 1=.r (p.l.map eT):=rfl
theorem qo(p:FC):(eFC p).fld 2=.r (p.g.map eFG):=rfl
theorem qd(p q:Pr):(ePr p=ePr q)=(p=q):=propext ⟨fun h=>by rw[←qg p,h,qg],fun h=>h▸rfl⟩
theorem z80(p q:FG):(eFG p=eFG q)=(p=q):=propext ⟨fun h=>by rw[←qi p,h,qi],fun h=>h▸rfl⟩
theorem qp:D.a [.s ⟨#[]⟩,.i 0,.i 0]=ePr zPr:=rfl
instance:DecidableEq Pr:=fun p q=>decidable_of_iff (ePr p=ePr q) (by rw[qd])
instance:DecidableEq FG:=fun p q=>decidable_of_iff (eFG p=eFG q) (by rw[z80])
def z9d(p:Pr):Prop:=p.s.size≤LIM∧i64 p.a∧i64 p.x
def z4y(g:FG):Prop:=i64 g.k∧z9d g.p∧(g.l.length≤2513169434843∧∀t∈g.l,okT t)∧i64 g.v
def z97(f:FC):Prop:=z9d f.p∧(f.l.length≤2513169434843∧∀t∈f.l,okT t)∧(f.g.length≤1954687338211∧∀g∈f.g,z4y g)
theorem z54{d:D}(h:Wf d qut):∃p:Pr,d=ePr p∧z9d p:=by
 obtain⟨ds,rfl,hl⟩:=h.st_of (fs:=[.str,.int .i64,.int .i64]) rfl;obtain⟨d0,r,rfl,h0,hl⟩:=q76 hl;obtain⟨d1,d2,rfl,h1,h2⟩:=quv hl;obtain⟨s,rfl,hs⟩:=h0.str;obtain⟨k,rfl,hk⟩:=wfI h1;obtain⟨n,rfl,hn⟩:=wfI h2;exact⟨⟨s,k,n⟩,rfl,hs,hk,hn⟩
theorem zbh{d:D}(h:Wf d qcq):∃g:FG,d=eFG g∧z4y g:=by
 obtain⟨ds,rfl,hl⟩:=h.st_of (fs:=[.int .i64,qut,q87,.int .i64]) rfl;obtain⟨d0,r,rfl,h0,hl⟩:=q76 hl;obtain⟨d1,r,rfl,h1,hl⟩:=q76 hl;obtain⟨d2,d3,rfl,h2,h3⟩:=quv hl;obtain⟨k,rfl,hk⟩:=wfI h0;obtain⟨p,rfl,hp⟩:=z54 h1;obtain⟨l,rfl,hl1,hl2⟩:=qq1 h2;obtain⟨n,rfl,hn⟩:=wfI h3;exact⟨⟨k,p,l,n⟩,rfl,hk,hp,⟨hl1,hl2⟩,hn⟩
theorem z9x{d:D}(h:Wf d qh7):∃l:List FG,d=.r (l.map eFG)∧l.length≤1954687338211∧∀g∈l,z4y g:=by
 obtain⟨l,rfl,h1,h2⟩:=h.row_of (te:=qcq) rfl;obtain⟨m,rfl,h3⟩:=qgd (e:=eFG) (P:=z4y) fun x hx=>zbh (h2 x hx);have e:LM qcq=1954687338211:=by kernel_rfl
 rw[uF] at h1;exact⟨m,rfl,by omega,h3⟩
theorem z7y{d:D}(h:Wf d qvo):∃f:FC,d=eFC f∧z97 f:=by
 obtain⟨ds,rfl,hl⟩:=h.st_of (fs:=[qut,q87,qh7]) rfl;obtain⟨d0,r,rfl,h0,hl⟩:=q76 hl;obtain⟨d1,d2,rfl,h1,h2⟩:=quv hl;obtain⟨p,rfl,hp⟩:=z54 h0;obtain⟨l,rfl,hl1,hl2⟩:=qq1 h1;obtain⟨g,rfl,hg1,hg2⟩:=z9x h2;exact⟨⟨p,l,g⟩,rfl,hp,⟨hl1,hl2⟩,hg1,hg2⟩
theorem z7d{d:D}(h:Wf d qf3):∃l:List FC,d=.r (l.map eFC)∧l.length≤1759218604390∧∀g∈l,z97 g:=by
 obtain⟨l,rfl,h1,h2⟩:=h.row_of (te:=qvo) rfl;obtain⟨m,rfl,h3⟩:=qgd (e:=eFC) (P:=z97) fun x hx=>z7y (h2 x hx);have e:LM qvo=1759218604390:=by kernel_rfl
 rw[uF] at h1;exact⟨m,rfl,by omega,h3⟩
def qhh(p:Pr):Bool:=if p.x=0 then decide ((p.s.size:Int)≤100)&&decide (0≤p.a)&&decide (p.a≤8)
 else decide (p.s=⟨#[]⟩)&&decide (1≤p.x)&&decide (p.x≤1099511627776)&&decide (0≤p.a)&&decide (p.a≤4096)
def gPb(f:Pr→Bool):List D→Option (List D)
 |[p]=>some [.b (f (dPr p))]
 |_=>none
theorem qdn:FOk j8 (gPb qhh):=qd7 fun ds outs hw hg=>by
 obtain⟨d,r,rfl,hd,rfl⟩:=hw;obtain⟨p,rfl,hp⟩:=z54 hd;simp only[gPb,qg,uA] at hg;subst hg;simp only[q2w,gnZ,gnT,qr,ql,qj,qd,qp,qu,qk,qt,qq,qm,qn,qo,qg,qi,qh,qhh];refine⟨fun h=>?_,fun h=>?_⟩
 ·rw[if_pos h]
 ·rw[if_neg h]
def q1x:Int→List Te→Int×Bool
 |left,[]=>(left,true)
 |left,t::l=>if zu t then(if left - szT t<0 then(left - szT t,false) else q1x (left - szT t) l) else(left,false)
theorem qrq{t:Te}(h:zu t=true):szT t≤2000:=by
 simp only[zu,gnB,gnD] at h;exact h.1
theorem qsh:∀{l:List Te}{left:Int},0≤left→(q1x left l).1≤left∧-2000≤(q1x left l).1∧((q1x left l).2=true→0≤(q1x left l).1)
 |[],left,h=>⟨Int.le_refl _,by show -2000≤left;omega,fun _=>h⟩
 | t :: l, left, h => by
  have hp:=qje t;unfold q1x;split
  ·rename_i hv;have:=qrq hv;split
   ·refine⟨?_,?_,fun q=>by cases q⟩
    ·show left - szT t≤left;omega
    ·show -2000≤left - szT t;omega
   ·obtain⟨h1,h2,h3⟩:=qsh (l:=l) (left:=left - szT t) (by omega);exact⟨by omega,h2,h3⟩
  ·refine⟨Int.le_refl _,?_,fun q=>by cases q⟩
   show -2000≤left;omega
theorem qg3{α:Type}[Inhabited α]{l:List α}{k:Nat}(h:k<l.length):l.drop k=l.getD k default::l.drop (k+1):=by
 rw[List.drop_eq_getElem_cons h,gnG,gnK h];rfl
def qwp:List D→Option (List D)
 |[n,l]=>if 0≤n.int∧n.int≤1000000 then some [.b (q1x n.int (l.rs.map dT)).2,.i (q1x n.int (l.rs.map dT)).1] else none
 |_=>none
theorem qr3:FOk q0y qwp:=qn2 q12 q6c fun ds outs hw hg=>by
 obtain⟨d,r,rfl,hd,e,r',rfl,he,rfl⟩:=hw;obtain⟨n,rfl,hn⟩:=wfI hd;obtain⟨l,rfl,hl,-⟩:=qq1 he;simp only[qwp,q04,q7p,q4g,uB,uA] at hg;obtain⟨hn2,rfl⟩:=hg;rw[q6v,j4];refine⟨fun st=>∃(k:Nat)(m:Int),k≤l.length∧st=[.b false,.i k,.i m]∧0≤m∧m≤1000000∧q1x n l=q1x m (l.drop k),fun st=>l.length - (st.getD 1 .u).int.toNat,⟨0,n,uJ _,rfl,by omega,by omega,rfl⟩,?_⟩;rintro st - ⟨k,m,hk,rfl,hm0,hm1,hP⟩;rw[yb];refine⟨fun hlt=>?_,fun hlt=>?_⟩
 ·simp only[gnZ,gnT] at hlt;have hkl:k<l.length:=by omega
  rw[qg3 hkl,q1x] at hP;simp only[gnZ,gnT,q1j hkl,gTb,gTi];refine⟨⟨by omega,by omega⟩,fun hv=>?_,fun hv=>?_⟩
  ·have hv:zu (l.getD k default)=false:=by simpa using hv
   rw[if_neg (by rw[hv];decide)] at hP;rw[hP]
  ·have hv:zu (l.getD k default)=true:=by simpa using hv
   have hs:=qrq hv;rw[if_pos hv] at hP;have e:min (szT (l.getD k default):Int) 2001=szT (l.getD k default):=by omega
   rw[e];refine⟨⟨by omega,by omega⟩,fun hx=>?_,fun hx=>⟨⟨by omega,by omega⟩,?_⟩⟩
   ·rw[if_pos hx] at hP;rw[hP]
   ·rw[if_neg hx] at hP;rw[q0t,if_pos rfl];refine⟨⟨k+1,_,by omega,rfl,by omega,by omega,hP⟩,?_⟩;simp[D.int];omega
 ·simp only[gnZ,gnT] at hlt⊢;have:k=l.length:=by omega
  subst this;rw[kK] at hP;rw[hP];rfl
theorem qax{α:Type}[Inhabited α](e:α→D){l:List α}{k:Nat}(h:k<l.length):(D.r (l.map e)).get (k:Int)=e (l.getD k default):=by
 show(l.map e).getD k .u=_
 simp[gnG,h]
def z2l(g:FG):Bool:=decide (g.p=zPr)&&decide ((g.l.length:Int)=0)
def qo3(g:FG):Bool:=z2l g&&decide (0≤g.v)&&decide (g.v≤1099511627776)
def qa1(left:Int)(called:Bool)(g:FG):Option (Int×Bool):=
 if g.k=1 then(if qhh g.p&&decide ((g.l.length:Int)=g.p.a)&&decide (g.v=0)&&(q1x left g.l).2 then some ((q1x left g.l).1,true) else none)
 else if g.k=2 then(if qo3 g&& !called then some (left,called) else none)
 else if g.k=3 then(if qo3 g then some (left,called) else none)
 else if g.k=4 then(if qo3 g then some (left,called) else none)
 else if g.k=5 then(if z2l g&&decide (g.v=0) then some (left,called) else none)
 else none
def q78:Int→Bool→List FG→Bool
 |_,_,[]=>true
 |left,called,g::l=>match qa1 left called g with
  |some (a,b)=>q78 a b l
  |none=>false
def qp8(f:FC):Bool:=(qhh f.p&&decide ((f.l.length:Int)=f.p.a))&&(q1x 131072 f.l).2
def q3e(f:FC):Bool:=qp8 f&&q78 (q1x 131072 f.l).1 false f.g
def gFb(f:FC→Bool):List D→Option (List D)
 |[d]=>some [.b (f (dFC d))]
 |_=>none
theorem qw1{left:Int}{c:Bool}{l:List FG}{k:Nat}(hk:k<l.length){r:Bool}(hP:r=q78 left c (l.drop k))(h:qa1 left c (l.getD k default)=none):r=false:=by
 rw[hP,qg3 hk,q78,h]
theorem qv4{left:Int}{c:Bool}{l:List FG}{k:Nat}(hk:k<l.length){r:Bool}(hP:r=q78 left c (l.drop k)){a:Int}{b:Bool}(h:qa1 left c (l.getD k default)=some (a,b)):r=q78 a b (l.drop (k+1)):=by
 rw[hP,qg3 hk,q78,h]
theorem z7f(left:Int)(l:List Te)(h:0≤left∧left≤131072)(ht:(q1x left l).2=true):0≤(q1x left l).1∧(q1x left l).1≤131072:=by
 obtain⟨h1,h2,h3⟩:=qsh (l:=l) h.1;exact⟨h3 ht,by omega⟩
theorem qxl{left:Int}{l:List Te}(h:0≤left∧left≤131072):qwp [.i left,.r (l.map eT)]=some [.b (q1x left l).2,.i (q1x left l).1]:=by
 simp only[qwp,q04,q7p,q4g,if_pos (show 0≤left∧left≤1000000 by omega)]
theorem qt8(f:Pr→Bool)(p:Pr):gPb f [ePr p]=some [.b (f p)]:=rfl
theorem qms:FOk q0e (gFb q3e):=qk9 qdn qr3 fun ds outs hw hg=>by
 obtain⟨d,r,rfl,hd,rfl⟩:=hw;obtain⟨f,rfl,hp,⟨hl,-⟩,hgl,hgo⟩:=z7y hd;simp only[gFb,qh,uA] at hg;subst hg;have e131:=qxl (left:=131072) (l:=f.l) (by omega);rw[q5u,yp];refine⟨by simp[gnZ,gnT,qr,ql,qj,qd,qp,qu,qk,qt,qq,qm,qn,qo,qg,qi,qh,qt8,e131],?_⟩;rw[yb];refine⟨fun h=>?_,fun h=>?_⟩
 ·simp only[gnZ,gnT,qr,ql,qj,qd,qp,qu,qk,qt,qq,qm,qn,qo,qg,qi,qh,qt8,e131] at h;have hh:qp8 f=false:=by
   unfold qp8;cases h1:qhh f.p<;>cases h2:decide ((f.l.length:Int)=f.p.a)<;>cases h3:(q1x 131072 f.l).2<;>simp_all
  rw[q3e,hh];simp only[gnZ,gnT,qr,ql,qj,qd,qp,qu,qk,qt,qq,qm,qn,qo,qg,qi,qh,kP]
 ·simp only[gnZ,gnT,qr,ql,qj,qd,qp,qu,qk,qt,qq,qm,qn,qo,qg,qi,qh,qt8,e131] at h;have hh:qp8 f=true:=by
   unfold qp8;cases h1:qhh f.p<;>cases h2:decide ((f.l.length:Int)=f.p.a)<;>cases h3:(q1x 131072 f.l).2<;>simp_all
  rw[q3e,hh,kQ];have hh2:=hh;simp only[qp8,gnB] at hh2;obtain⟨⟨q1,q2⟩,q3⟩:=hh2;have hr:=z7f 131072 f.l (by omega) q3;generalize hV:q78 (q1x 131072 f.l).1 false f.g=r;rw[j4];refine⟨fun st=>∃(k:Nat)(c:Bool)(left:Int),k≤f.g.length∧st=[.b c,.b false,.i k,.i left]∧(0≤left∧left≤131072)∧r=q78 left c (f.g.drop k),fun st=>f.g.length - (st.getD 2 .u).int.toNat,⟨0,false,_,uJ _,?_,hr,hV.symm⟩,?_⟩
  ·simp[gnZ,gnT,qr,ql,qj,qd,qp,qu,qk,qt,qq,qm,qn,qo,qg,qi,qh,qt8,e131,q1,of_decide_eq_true q2]
  rintro st - ⟨k,c,left,hk,rfl,hleft,hP⟩;rw[yb];refine⟨fun hlt=>?_,fun hlt=>?_⟩
  ·simp only[gnZ,gnT,qr,ql,qj,qd,qp,qu,qk,qt,qq,qm,qn,qo,qg,qi,qh] at hlt;have hkl:k<f.g.length:=by omega
   have hstep:∀a b,qa1 left c (f.g.getD k default)=some (a,b)→0≤a∧a≤131072→q0t (fun _ _=>False) 6 (fun st'=>(∃(k:Nat)(c:Bool)(left:Int),k≤f.g.length∧st'=[.b c,.b false,.i k,.i left]∧(0≤left∧left≤131072)∧r=q78 left c (f.g.drop k))∧f.g.length - (st'.getD 2 .u).int.toNat<f.g.length - (k:Int).toNat) 6 [.b b,.b false,.i ((k:Int)+1),.i a]:=fun a b hs ha=>by
    rw[q0t,if_pos rfl];refine⟨⟨k+1,b,a,by omega,rfl,ha,qv4 hkl hP hs⟩,?_⟩;simp[D.int];omega
   have hno:qa1 left c (f.g.getD k default)=none→r=false:=qw1 hkl hP;have arm:∀(C:Bool)(a:Int)(b:Bool),qa1 left c (f.g.getD k default)=(if C then some (a,b) else none)→(C=true→0≤a∧a≤131072)→((!C)=true→[D.b false]=[D.b r])∧((!C)=false→(-9223372036854775808≤(k:Int)+1∧(k:Int)+1≤9223372036854775807)∧q0t (fun _ _=>False) 6 (fun st'=>(∃(k:Nat)(c:Bool)(left:Int),k≤f.g.length∧st'=[.b c,.b false,.i k,.i left]∧(0≤left∧left≤131072)∧r=q78 left c (f.g.drop k))∧f.g.length - (st'.getD 2 .u).int.toNat<f.g.length - (k:Int).toNat) 6 [.b b,.b false,.i ((k:Int)+1),.i a]):=fun C a b hs ha=>by
    cases C with
    |true=>exact⟨fun h=>by simp at h,fun _=>⟨⟨by omega,by omega⟩,hstep a b (by rw[hs,if_pos rfl]) (ha rfl)⟩⟩
    |false=>exact⟨fun _=>by rw[hno (by rw[hs];rfl)],fun h=>by simp at h⟩
   clear hstep;simp only[gnZ,gnT,qr,ql,qj,qd,qp,qu,qk,qt,qq,qm,qn,qo,qg,qi,qh,qax eFG hkl,qt8];generalize f.g.getD k default=g at *;have eR:=qxl (left:=left) (l:=g.l) hleft;refine⟨⟨by omega,by omega⟩,fun h1=>?_,fun h1=>⟨fun h2=>?_,fun h2=>⟨fun h3=>⟨fun _=>?_,fun q=>absurd h3 q⟩,fun h3=>⟨fun h4=>?_,fun h4=>⟨fun h5=>?_,fun h5=>?_⟩⟩⟩⟩⟩
   ·simp only[eR,uK,uL,qdc,kS,true_and,uC,uD,q04];have q:=arm (qhh g.p&&decide ((g.l.length:Int)=g.p.a)&&decide (g.v=0)&&(q1x left g.l).2) (q1x left g.l).1 true (by unfold qa1;rw[if_pos h1]) (fun q=>by simp only[gnB] at q;exact z7f left g.l hleft q.2);refine⟨q.1,fun h=>?_⟩;have q2:=q.2 h;have h':(qhh g.p&&decide ((g.l.length:Int)=g.p.a)&&decide (g.v=0))=true:=by
     simp only[kH,gnB] at h;simp only[gnB];exact h.1
    rw[if_pos h'];exact q2
   ·exact arm (qo3 g&& !c) left c (by unfold qa1;rw[if_neg h1,if_pos h2]) fun _=>hleft
   ·exact arm (qo3 g) left c (by unfold qa1;rw[if_neg h1,if_neg h2,if_pos h3]) fun _=>hleft
   ·exact arm (qo3 g) left c (by unfold qa1;rw[if_neg h1,if_neg h2,if_neg h3,if_pos h4]) fun _=>hleft
   ·exact arm (z2l g&&decide (g.v=0)) left c (by unfold qa1;rw[if_neg h1,if_neg h2,if_neg h3,if_neg h4,if_pos h5]) fun _=>hleft
   ·rw[hno (by unfold qa1;rw[if_neg h1,if_neg h2,if_neg h3,if_neg h4,if_neg h5])]
  ·simp only[gnZ,gnT,qr,ql,qj,qd,qp,qu,qk,qt,qq,qm,qn,qo,qg,qi,qh] at hlt⊢;have:k=f.g.length:=by omega
   subst this;rw[kK] at hP;rw[hP];rfl
def qb0:ByteArray:=⟨#[116,114,117,101]⟩
def qc3:ByteArray:=⟨#[102,97,105,108]⟩
def qpm:ByteArray:=⟨#[33]⟩
def qdf:ByteArray:=⟨#[92,43]⟩
def q7y:ByteArray:=⟨#[111,110,99,101]⟩
abbrev ag(t:Te)(j:Nat):Te:=t.l.getD j default
def qi2(t:Te):Bool:=isT t q24 2||isT t q26 2||isT t ju 2||isT t qdf 1||isT t q7y 1
mutual
/-- How many goals the parts of a goal are, at most. -/
def rho:Te→Nat
 |.mk k n s l=>if qi2 (.mk k n s l) then rhos l+1 else 1
def rhos:List Te→Nat
 |[]=>0
 |t::l=>rho t+rhos l
end
theorem qrx(t:Te):rho t=if qi2 t then rhos t.l+1 else 1:=by cases t;rw[rho];rfl
theorem zw(t:Te):1≤rho t:=by rw[qrx];split<;>omega
mutual
theorem z35:∀t:Te,rho t≤szT t
 |.mk k n s l=>by
  rw[rho,szT];have:=qws l;split<;>omega
theorem qws:∀l:List Te,rhos l≤q2x l
 |[]=>uH _
 |t::l=>by
  have h1:=z35 t;have h2:=qws l;rw[rhos,q2x];omega
end
theorem qxz{t:Te}{s:ByteArray}{n:Int}(h:isT t s n=true):(t.l.length:Int)=n:=by
 simp only[isT,gnB,gnD] at h;exact h.2
theorem z1g{t:Te}{s:ByteArray}{n:Int}(h:isT t s n=true):t.s=s:=by
 simp only[isT,gnB,gnD] at h;exact h.1.2
theorem q2r{t:Te}(h:isT t q24 2=true∨isT t q26 2=true∨isT t ju 2=true):rho t=rho (ag t 0)+rho (ag t 1)+1∧t.l.length=2:=by
 have hl:t.l.length=2:=by rcases h with h|h|h<;>(have:=qxz h;omega)
 have hc:qi2 t=true:=by
  unfold qi2;rcases h with h|h|h<;>simp[h]
 refine⟨?_,hl⟩;rw[qrx,if_pos hc];have e:=z01 hl;unfold ag;generalize t.l.getD 0 default=a at *;generalize t.l.getD 1 default=b at *;rw[e];simp only[rhos];omega
theorem qa2{t:Te}(h:isT t qdf 1=true∨isT t q7y 1=true):rho t=rho (ag t 0)+1∧t.l.length=1:=by
 have hl:t.l.length=1:=by rcases h with h|h<;>(have:=qxz h;omega)
 have hc:qi2 t=true:=by
  unfold qi2;rcases h with h|h<;>simp[h]
 refine⟨?_,hl⟩;rw[qrx,if_pos hc];unfold ag
 match ht:t.l,hl with
 |[a],_=>simp[rhos]
theorem qte(a:Te):rho (.mk 3 0 qhm [a])=1:=by
 rw[qrx,if_neg];simp[qi2,isT,Te.k,Te.s,Te.l,qhm,q24,q26,ju,qdf,q7y]
theorem qvt{t:Te}(h:q02 t=true):isT t q24 2=true∨isT t q26 2=true∨isT t ju 2=true:=by
 simp only[q02,gnB,uU,gnD] at h;obtain⟨⟨h1,h2⟩,(h3|h3)|h3⟩:=h
 ·exact .inl (by simp[isT,h1,h2,h3])
 ·exact .inr (.inl (by simp[isT,h1,h2,h3]))
 ·exact .inr (.inr (by simp[isT,h1,h2,h3]))
mutual
theorem qp3:∀(t u:Te),j3 t=some u→rho u=rho t
 | .mk k n s l, u, h => by
  rw[j3] at h;split at h
  ·rename_i hk;injection h with h;subst h;rw[qte,qrx,if_neg];simp[qi2,isT,Te.k,hk]
  ·split at h
   ·rename_i hb;split at h
    ·rename_i m hm;injection h with h;subst h;obtain⟨e1,e2⟩:=qm8 l m hm;have hc:=qvt hb;have hc1:qi2 (.mk k n s l)=true:=by
      unfold qi2;rcases hc with h|h|h<;>simp[h]
     have hk3:k=3:=(q2c hb).2;have hc2:qi2 (.mk 3 0 s m)=true:=by
      have:∀q z,isT (.mk 3 0 s m) q z=isT (.mk k n s l) q z:=fun q z=>by
       subst hk3
       show(((decide ((3:Int)=2)||decide ((3:Int)=3))&&decide (s=q))&&decide ((m.length:Int)=z))=(((decide ((3:Int)=2)||decide ((3:Int)=3))&&decide (s=q))&&decide ((l.length:Int)=z))
       rw[e2]
      unfold qi2 at hc1⊢;rw[this,this,this,this,this];exact hc1
     rw[rho,rho,if_pos hc1,if_pos hc2,e1]
    ·cases h
   ·split at h
    ·injection h with h;subst h;rfl
    ·cases h
theorem qm8:∀(l m:List Te),q0q l=some m→rhos m=rhos l∧m.length=l.length
 |[],m,h=>by
  rw[q0q] at h;injection h with h;subst h;exact⟨rfl,rfl⟩
 | t :: l, m, h => by
  rw[q0q] at h;split at h
  ·rename_i x y hx hy;injection h with h;subst h;obtain⟨e1,e2⟩:=qm8 l y hy;have e3:=qp3 t x hx;exact⟨by rw[rhos,rhos,e1,e3],by simp[e2]⟩
  ·cases h
end
def q08(a:Te):Te:=if(q2q a).2 then(q2q a).1 else .mk 3 0 qhm [a]
theorem qm2{a:Te}(h:(q2q a).2=true):j3 a=some (q2q a).1:=by
 unfold q2q at h⊢;cases hv:zu a with
 |false=>rw[hv] at h;cases h
 | true =>
  rw[hv] at h;simp only[if_true] at h⊢;cases hb:j3 a with
  |none=>rw[hb] at h;cases h
  |some u=>
   rw[hb] at h;simp only at h⊢;by_cases hs:2000<szT u
   ·rw[if_pos hs] at h;cases h
   ·rw[if_neg hs]
theorem q22(a:Te):rho (q08 a)≤rho a:=by
 unfold q08;have:=zw a;split
 ·rename_i h;rw[qp3 a _ (qm2 h)];exact uH _
 ·rw[qte];exact this
structure X24 where
 nv:Int
 na:Int
 tr:Bool
 aux:List (List FC)
abbrev Rec:=X24→Te→Int→List FG×X24
def opG(k v:Int):FG:=⟨k,zPr,[],v⟩
def q31(p:Pr)(l:List Te):FG:=⟨1,p,l.map q1s,0⟩
def X24.var(x:X24):X24:=⟨x.nv+1,x.na,x.tr,x.aux⟩
def X24.pred(x:X24):X24:=⟨x.nv,x.na+1,x.tr,x.aux++[[]]⟩
def X24.put(x:X24)(n:Nat)(l:List FC):X24:=⟨x.nv,x.na,x.tr,x.aux.set n l⟩
def q1z(r:List FG×X24)(f:X24→List FG×X24):List FG×X24:=(r.1++(f r.2).1,(f r.2).2)
def qn5(r:List FG×X24)(f:X24→List FG×X24):List (List FG)×X24:=([r.1,(f r.2).1],(f r.2).2)
def qo2(r:List FG×X24):List (List FG)×X24:=([r.1],r.2)
def noX(r:List FG×X24):List (List FG)×X24:=([r.1,[]],r.2)
def qt3(rec:Rec)(x:X24)(a b:Te)(cut:Int):List FG×X24:=
 q1z (q1z (q1z ([opG 2 x.nv,opG 3 (x.nv+1)],x.var.var) fun y=>rec y a (x.nv+1)) fun y=>([opG 4 x.nv],y)) fun y=>rec y b cut
def q18(rec:Rec)(x:X24)(g:Te)(cut:Int):List (List FG)×X24:=
 if isT (ag g 0) ju 2 then qn5 (qt3 rec x (ag (ag g 0) 0) (ag (ag g 0) 1) cut) fun y=>rec y (ag g 1) cut
 else qn5 (rec x (ag g 0) cut) fun y=>rec y (ag g 1) cut
def q3a(rec:Rec)(x:X24)(g:Te):List FG×X24:=
 q1z (q1z ([opG 3 x.nv],x.var) fun y=>rec y g x.nv) fun y=>([opG 4 x.nv],y)
def q8m(rec:Rec)(x:X24)(g:Te)(cut:Int):List (List FG)×X24:=
 qo2 (q1z (q3a rec x (ag g 0)) fun y=>rec y (ag g 1) cut)
def qfe(rec:Rec)(x:X24)(g:Te):List (List FG)×X24:=
 noX (q1z (q1z ([opG 2 x.nv,opG 3 (x.nv+1)],x.var.var) fun y=>rec y (q08 (ag g 0)) (x.nv+1)) fun y=>([opG 4 x.nv,opG 5 0],y))
def q8s(rec:Rec)(x:X24)(g:Te):List (List FG)×X24:=qo2 (q3a rec x (q08 (ag g 0)))
def q97(g:Te)(cut:Int):List Te:=(q65 g).map q2t++(if q63 g then[q2t cut] else[])
def q9z(g:Te)(cut:Int)(x:X24):Pr:=⟨⟨#[]⟩,((q97 g cut).length:Nat),x.na⟩
def q1w(g:Te)(cut:Int)(x:X24)(l:List (List FG)):List FC:=l.map fun gs=>⟨q9z g cut x,q97 g cut,gs⟩
def q58(bodies:X24→List (List FG)×X24)(x:X24)(g:Te)(cut:Int):FG×X24:=
 (q31 (q9z g cut x) (q97 g cut),(bodies x.pred).2.put x.aux.length (q1w g cut x (bodies x.pred).1))
def onR(r:FG×X24):List FG×X24:=([r.1],r.2)
def z7g:ByteArray:=⟨#[99,97,108,108]⟩
def z29(g:Te):Bool:=if g.s=⟨#[]⟩ then true
 else if g.s=z7g then(decide ((g.l.length:Int)<1)||decide (8<(g.l.length:Int)))
 else if g.s=⟨#[99,97,116,99,104]⟩∨g.s=⟨#[102,105,110,100,97,108,108]⟩∨g.s=⟨#[98,97,103,111,102]⟩∨g.s=⟨#[115,101,116,111,102]⟩ then !decide ((g.l.length:Int)=3)
 else !decide (((g.s.data.getD 0 0).toNat:Int)=36)
def qd8(g:Te):FG:=q31 ⟨g.s,(g.l.length:Nat),0⟩ g.l
def qfw(x:X24)(g:Te):List FG×X24:=
 if !x.tr|| !z29 g then([qd8 g],x) else([q31 ⟨⟨#[]⟩,2,1099511627776⟩ [q2t x.nv,g],qd8 g,q31 ⟨⟨#[]⟩,2,1099511627775⟩ [q2t x.nv,g]],x.var)
def q49(rec:Rec):Rec:=fun x g cut=>
 if isT g qb0 0 then([],x) else if isT g qc3 0 then([opG 5 0],x) else if isT g qpm 0 then([opG 4 cut],x)
 else if isT g q24 2 then q1z (rec x (ag g 0) cut) fun y=>rec y (ag g 1) cut
 else if isT g q26 2 then onR (q58 (fun y=>q18 rec y g cut) x g cut)
 else if isT g ju 2 then onR (q58 (fun y=>q8m rec y g cut) x g cut)
 else if isT g qdf 1 then onR (q58 (fun y=>qfe rec y g) x g cut)
 else if isT g q7y 1 then onR (q58 (fun y=>q8s rec y g) x g cut)
 else qfw x g
def qk2:Nat→Rec
 |0=>fun x _ _=>([],x)
 |n+1=>q49 (qk2 n)
def jq:Rec:=fun x g cut=>qk2 (rho g) x g cut
theorem qpt{r r':Rec}{g:Te}(hg:isT g q26 2=true)(h:∀g',rho g'<rho g→∀x c,r x g' c=r' x g' c)(x:X24)(c:Int):q18 r x g c=q18 r' x g c:=by
 have hr:=(q2r (.inr (.inl hg))).1;unfold q18;split
 ·rename_i ha;have hr2:=(q2r (.inr (.inr ha))).1;simp only[qt3,q1z,qn5,h _ (show rho (ag (ag g 0) 0)<rho g by omega),h _ (show rho (ag (ag g 0) 1)<rho g by omega),h _ (show rho (ag g 1)<rho g by omega)]
 ·simp only[qn5,h _ (show rho (ag g 0)<rho g by omega),h _ (show rho (ag g 1)<rho g by omega)]
theorem qud{r r':Rec}{g:Te}(hg:isT g ju 2=true)(h:∀g',rho g'<rho g→∀x c,r x g' c=r' x g' c)(x:X24)(c:Int):q8m r x g c=q8m r' x g c:=by
 have hr:=(q2r (.inr (.inr hg))).1;simp only[q8m,q3a,q1z,qo2,h _ (show rho (ag g 0)<rho g by omega),h _ (show rho (ag g 1)<rho g by omega)]
theorem not_congr{r r':Rec}{g:Te}(hg:isT g qdf 1=true)(h:∀g',rho g'<rho g→∀x c,r x g' c=r' x g' c)(x:X24):qfe r x g=qfe r' x g:=by
 have hr:=(qa2 (.inl hg)).1;have hi:=q22 (ag g 0);simp only[qfe,q1z,noX,h _ (show rho (q08 (ag g 0))<rho g by omega)]
theorem qvn{r r':Rec}{g:Te}(hg:isT g q7y 1=true)(h:∀g',rho g'<rho g→∀x c,r x g' c=r' x g' c)(x:X24):q8s r x g=q8s r' x g:=by
 have hr:=(qa2 (.inr hg)).1;have hi:=q22 (ag g 0);simp only[q8s,q3a,q1z,qo2,h _ (show rho (q08 (ag g 0))<rho g by omega)]
theorem qlj{r r':Rec}{g:Te}(h:∀g',rho g'<rho g→∀x c,r x g' c=r' x g' c)(x:X24)(c:Int):q49 r x g c=q49 r' x g c:=by
 unfold q49;split
 ·rfl
 split
 ·rfl
 split
 ·rfl
 split
 ·rename_i hg;have hr:=(q2r (.inl hg)).1;simp only[q1z,h _ (show rho (ag g 0)<rho g by omega),h _ (show rho (ag g 1)<rho g by omega)]
 split
 ·rename_i hg;simp only[qpt hg h]
 split
 ·rename_i hg;simp only[qud hg h]
 split
 ·rename_i hg;simp only[not_congr hg h]
 split
 ·rename_i hg;simp only[qvn hg h]
 ·rfl
theorem qmp:∀(n m:Nat)(g:Te),rho g≤n→rho g≤m→∀x c,qk2 n x g c=qk2 m x g c
 |0,_,g,h,_,_,_=>by have:=zw g;omega
 |_,0,g,_,h,_,_=>by have:=zw g;omega
 |n+1,m+1,g,h1,h2,x,c=>qlj (fun g' hg' x c=>qmp n m g' (by omega) (by omega) x c) x c
theorem qvs(x:X24)(g:Te)(c:Int):jq x g c=q49 jq x g c:=by
 have h:=zw g
 show qk2 (rho g) x g c=_
 obtain⟨n,hn⟩:∃n,rho g=n+1:=⟨rho g - 1,by omega⟩;rw[hn];exact qlj (fun g' hg' x c=>qmp n (rho g') g' (by omega) (uH _) x c) x c
structure Grw(x y:X24)(v a:Nat):Prop where
 v0:x.nv≤y.nv
 v1:y.nv≤x.nv+v
 tr:y.tr=x.tr
 na:y.na - x.na=(y.aux.length:Int) - x.aux.length
 a0:x.aux.length≤y.aux.length
 a1:y.aux.length≤x.aux.length+a
theorem Grw.refl(x:X24):Grw x x 0 0:=⟨Int.le_refl _,by simp,rfl,by omega,uH _,uH _⟩
theorem Grw.trans{x y z:X24}{v a v' a':Nat}(h:Grw x y v a)(h':Grw y z v' a'):Grw x z (v+v') (a+a'):=by
 obtain⟨h1,h2,h3,h4,h5,h6⟩:=h;obtain⟨g1,g2,g3,g4,g5,g6⟩:=h';exact⟨by omega,by push_cast;omega,g3.trans h3,by omega,by omega,by omega⟩
theorem Grw.mono{x y:X24}{v a v' a':Nat}(h:Grw x y v a)(hv:v≤v')(ha:a≤a'):Grw x y v' a':=⟨h.v0,by have:=h.v1;omega,h.tr,h.na,h.a0,by have:=h.a1;omega⟩
theorem Grw.var(x:X24):Grw x x.var 1 0:=⟨by show x.nv≤x.nv+1;omega,by show x.nv+1≤_;simp,rfl,by show x.na - x.na=(x.aux.length:Int) - x.aux.length;omega,uH _,uH _⟩
def Bnd(r:List FG×X24)(x:X24)(v a L:Nat):Prop:=Grw x r.2 v a∧r.1.length≤L
theorem q2l{r:List FG×X24}{f:X24→List FG×X24}{x:X24}{v a L v' a' L':Nat}(h:Bnd r x v a L)(h':Bnd (f r.2) r.2 v' a' L'):Bnd (q1z r f) x (v+v') (a+a') (L+L'):=⟨h.1.trans h'.1,by
 have h1:=h.2;have h2:=h'.2
 show(r.1++(f r.2).1).length≤_
 rw[uW];omega⟩
def qb2(r:Rec)(g:Te):Prop:=∀x c,Bnd (r x g c) x (2 * rho g) (rho g) (3 * rho g)
theorem qxs{r:Rec}{a b:Te}(ha:qb2 r a)(hb:qb2 r b)(x:X24)(c:Int):Bnd (qt3 r x a b c) x (2+2 * rho a+2 * rho b) (rho a+rho b) (3+3 * rho a+3 * rho b):=by
 have h:=q2l (f:=fun y=>r y b c) (q2l (f:=fun y=>([opG 4 x.nv],y)) (v':=0) (a':=0) (L':=1) (q2l (f:=fun y=>r y a (x.nv+1)) (v:=2) (a:=0) (L:=2) (r:=([opG 2 x.nv,opG 3 (x.nv+1)],x.var.var)) ⟨(Grw.var x).trans (Grw.var _),uH _⟩ (ha _ _)) ⟨Grw.refl _,uH _⟩) (hb _ _);exact⟨h.1.mono (by omega) (by omega),by have:=h.2;unfold qt3;omega⟩
theorem q8o{r:Rec}{a:Te}(ha:qb2 r a)(x:X24):Bnd (q3a r x a) x (1+2 * rho a) (rho a) (2+3 * rho a):=by
 have h:=q2l (f:=fun y=>([opG 4 x.nv],y)) (v':=0) (a':=0) (L':=1) (q2l (f:=fun y=>r y a x.nv) (v:=1) (a:=0) (L:=1) (r:=([opG 3 x.nv],x.var)) ⟨Grw.var x,uH _⟩ (ha _ _)) ⟨Grw.refl _,uH _⟩;exact⟨h.1.mono (by omega) (by omega),by have:=h.2;unfold q3a;omega⟩
theorem qdz{b:X24→List (List FG)×X24}{x:X24}{g:Te}{c:Int}{v a:Nat}(h:Grw x.pred (b x.pred).2 v a):Bnd (onR (q58 b x g c)) x v (a+1) 1:=by
 obtain⟨h1,h2,h3,h4,h5,h6⟩:=h;have e:x.pred.aux.length=x.aux.length+1:=by simp[X24.pred]
 have e2:((b x.pred).2.put x.aux.length (q1w g c x (b x.pred).1)).aux.length=(b x.pred).2.aux.length:=by simp[X24.put]
 rw[e] at h4 h5 h6;refine⟨⟨h1,h2,h3,?_,?_,?_⟩,uH _⟩
 ·show(b x.pred).2.na - x.na=(((b x.pred).2.put x.aux.length (q1w g c x (b x.pred).1)).aux.length:Int) - x.aux.length
  rw[e2];have:x.pred.na=x.na+1:=rfl
  push_cast at h4
  omega
 ·show x.aux.length≤((b x.pred).2.put x.aux.length (q1w g c x (b x.pred).1)).aux.length
  omega
 ·show((b x.pred).2.put x.aux.length (q1w g c x (b x.pred).1)).aux.length≤_
  omega
theorem qlz{r:Rec}{g:Te}(hg:isT g q26 2=true)(h:∀g',rho g'<rho g→qb2 r g')(x:X24)(c:Int):Grw x (q18 r x g c).2 (2 * rho g) (rho g - 1):=by
 have hr:=(q2r (.inr (.inl hg))).1;unfold q18;split
 ·rename_i ha;have hr2:=(q2r (.inr (.inr ha))).1;exact((qxs (h _ (by omega)) (h _ (by omega)) x c).1.trans (h (ag g 1) (by omega) _ c).1).mono (by omega) (by omega)
 ·exact((h (ag g 0) (by omega) x c).1.trans (h (ag g 1) (by omega) _ c).1).mono (by omega) (by omega)
theorem qsv{r:Rec}{g:Te}(hg:isT g ju 2=true)(h:∀g',rho g'<rho g→qb2 r g')(x:X24)(c:Int):Grw x (q8m r x g c).2 (2 * rho g) (rho g - 1):=by
 have hr:=(q2r (.inr (.inr hg))).1;exact((q8o (h (ag g 0) (by omega)) x).1.trans (h (ag g 1) (by omega) _ c).1).mono (by omega) (by omega)
theorem qxx{r:Rec}{a:Te}(ha:qb2 r a)(x:X24):Bnd (q1z (q1z ([opG 2 x.nv,opG 3 (x.nv+1)],x.var.var) fun y=>r y a (x.nv+1)) fun y=>([opG 4 x.nv,opG 5 0],y)) x (2+2 * rho a) (rho a) (4+3 * rho a):=by
 have h:=q2l (f:=fun y=>([opG 4 x.nv,opG 5 0],y)) (v':=0) (a':=0) (L':=2) (q2l (f:=fun y=>r y a (x.nv+1)) (v:=2) (a:=0) (L:=2) (r:=([opG 2 x.nv,opG 3 (x.nv+1)],x.var.var)) ⟨(Grw.var x).trans (Grw.var _),uH _⟩ (ha _ _)) ⟨Grw.refl _,uH _⟩;exact⟨h.1.mono (by omega) (by omega),by have:=h.2;omega⟩
theorem qy1{r:Rec}{g:Te}(hg:isT g qdf 1=true)(h:∀g',rho g'<rho g→qb2 r g')(x:X24):Grw x (qfe r x g).2 (2 * rho g) (rho g - 1):=by
 have hr:=(qa2 (.inl hg)).1;have hi:=q22 (ag g 0);exact(qxx (h (q08 (ag g 0)) (by omega)) x).1.mono (by omega) (by omega)
theorem qro{r:Rec}{g:Te}(hg:isT g q7y 1=true)(h:∀g',rho g'<rho g→qb2 r g')(x:X24):Grw x (q8s r x g).2 (2 * rho g) (rho g - 1):=by
 have hr:=(qa2 (.inr hg)).1;have hi:=q22 (ag g 0);exact(q8o (h (q08 (ag g 0)) (by omega)) x).1.mono (by omega) (by omega)
theorem Bnd.mono{r:List FG×X24}{x:X24}{v a L v' a' L':Nat}(h:Bnd r x v a L)(hv:v≤v')(ha:a≤a')(hl:L≤L'):Bnd r x v' a' L':=⟨h.1.mono hv ha,Nat.le_trans h.2 hl⟩
theorem z39{r:Rec}{g:Te}(h:∀g',rho g'<rho g→qb2 r g'):qb2 (q49 r) g:=fun x c=>by
 have hp:=zw g;unfold q49;split
 ·exact⟨(Grw.refl x).mono (by omega) (by omega),uJ _⟩
 split
 ·exact⟨(Grw.refl x).mono (by omega) (by omega),by show 1≤_;omega⟩
 split
 ·exact⟨(Grw.refl x).mono (by omega) (by omega),by show 1≤_;omega⟩
 split
 ·rename_i hg;have hr:=(q2r (.inl hg)).1;exact(q2l (f:=fun y=>r y (ag g 1) c) (h (ag g 0) (by omega) x c) (h (ag g 1) (by omega) _ c)).mono (by omega) (by omega) (by omega)
 split
 ·rename_i hg;exact(qdz (qlz hg h _ _)).mono (by omega) (by omega) (by omega)
 split
 ·rename_i hg;exact(qdz (qsv hg h _ _)).mono (by omega) (by omega) (by omega)
 split
 ·rename_i hg;exact(qdz (qy1 hg h _)).mono (by omega) (by omega) (by omega)
 split
 ·rename_i hg;exact(qdz (qro hg h _)).mono (by omega) (by omega) (by omega)
 ·unfold qfw;split
  ·exact⟨(Grw.refl x).mono (by omega) (by omega),by show 1≤_;omega⟩
  ·exact⟨(Grw.var x).mono (by omega) (by omega),by show 3≤_;omega⟩
theorem qh2:∀(n:Nat)(g:Te),rho g≤n→qb2 (qk2 n) g
 |0,g,h=>by have:=zw g;omega
 |n+1,g,h=>z39 fun g' hg'=>qh2 n g' (by omega)
theorem jg(g:Te):qb2 jq g:=fun x c=>qh2 (rho g) g (uH _) x c
section
def q1p(l:List FC):D:=.r (l.map eFC)
def eN(v a:Int):D:=.a [.i v,.i a]
def eX(x:X24):D:=.a [eN x.nv x.na,.b x.tr,.r (x.aux.map q1p)]
def dX(d:D):X24:=⟨((d.fld 0).fld 0).int,((d.fld 0).fld 1).int,(d.fld 1).tt,(d.fld 2).rs.map fun r=>r.rs.map dFC⟩
theorem z8(x:X24):dX (eX x)=x:=by
 show(⟨x.nv,x.na,x.tr,(x.aux.map q1p).map fun r=>r.rs.map dFC⟩:X24)=x
 rw[uX];have:((fun r:D=>r.rs.map dFC) ∘ q1p)=id:=funext fun l=>qxh l;rw[this,kA]
theorem zj(v a:Int):(eN v a).fld 0=.i v:=rfl
theorem zg(v a:Int):(eN v a).fld 1=.i a:=rfl
theorem zl(x:X24):(eX x).fld 0=eN x.nv x.na:=rfl
theorem zh(x:X24):(eX x).fld 1=.b x.tr:=rfl
theorem ze(x:X24):(eX x).fld 2=.r (x.aux.map q1p):=rfl
def X24.incA(x:X24):X24:=⟨x.nv,x.na+1,x.tr,x.aux⟩
theorem qe(x:X24):D.a ((eX x).fs.set 0 (D.a ((eN x.nv x.na).fs.set 0 (.i (x.nv+1)))))=eX x.var:=rfl
theorem qx(x:X24):D.a ((eX x).fs.set 0 (D.a ((eN x.nv x.na).fs.set 1 (.i (x.na+1)))))=eX x.incA:=rfl
theorem qc(x:X24):D.a ((eX x.incA).fs.set 2 (.r (x.incA.aux.map q1p++[.r []])))=eX x.pred:=by
 show _=D.a [_,_,.r ((x.aux++[[]]).map q1p)]
 rw[uI];rfl
theorem qf(x:X24)(n:Nat)(l:List FC):D.a ((eX x).fs.set 2 (.r ((x.aux.map q1p).set n (.r (l.map eFC)))))=eX (x.put n l):=by
 show _=D.a [_,_,.r ((x.aux.set n l).map q1p)]
 rw[List.map_set];rfl
abbrev TX:Ty:=.st 52
theorem wfX{d:D}(h:Wf d TX):∃x:X24,d=eX x∧x.aux.length≤5864062014634:=by
 obtain⟨ds,rfl,hl⟩:=h.st_of (fs:=[.st 49,.bool,.row 27]) rfl;obtain⟨d0,r,rfl,h0,hl⟩:=q76 hl;obtain⟨d1,d2,rfl,h1,h2⟩:=quv hl;obtain⟨es,rfl,hl0⟩:=h0.st_of (fs:=[.int .i64,.int .i64]) rfl;obtain⟨e0,e1,rfl,g0,g1⟩:=quv hl0;obtain⟨v,rfl,-⟩:=wfI g0;obtain⟨a,rfl,-⟩:=wfI g1;obtain⟨b,rfl⟩:=h1.bool;obtain⟨l,rfl,hl1,hl2⟩:=h2.row_of (te:=qf3) rfl;obtain⟨m,rfl,-⟩:=qgd (e:=q1p) (P:=fun _=>True) fun x hx=>by
  obtain⟨z,rfl,-⟩:=z7d (hl2 x hx);exact⟨z,rfl,trivial⟩
 have e:LM qf3=5864062014634:=by kernel_rfl
 rw[uF] at hl1;exact⟨⟨v,a,b,m⟩,rfl,by show m.length≤_;omega⟩
def gOp:List D→Option (List D)
 |[k,v]=>some [eFG (opG k.int v.int)]
 |_=>none
theorem q6t:FOk yg gOp:=qt5 fun ds outs hw hg=>by
 obtain⟨d,r,rfl,hd,e,r',rfl,he,rfl⟩:=hw;obtain⟨k,rfl,-⟩:=wfI hd;obtain⟨v,rfl,-⟩:=wfI he;simp only[gOp,q04,uA] at hg;subst hg;simp only[q9j,gnZ,gnT,qr,ql,qj,qd,qp,qu,qk,qt,qq,qm,qn,qo,qg,qi,qh];rfl
theorem qm0:FOk q0l gIs:=qtp fun ds outs hw hg=>by
 obtain⟨d,r,rfl,hd,e,r',rfl,he,e2,r2,rfl,he2,rfl⟩:=hw;obtain⟨t,rfl,ht⟩:=wfT hd;obtain⟨s,rfl,hs⟩:=he.str;obtain⟨n,rfl,hn⟩:=wfI he2;simp only[gIs,zm,qew,q04,uA] at hg;subst hg;simp only[q9k,gnZ,gnT,qr,ql,qj,qd,qp,qu,qk,qt,qq,qm,qn,qo,qg,qi,qh,isT]
def q6s:List D→Option (List D)
 |[p,l]=>some [eFG (q31 (dPr p) (l.rs.map dT))]
 |_=>none
theorem qwc(f:Te→Te)(t:Te):gTT f [eT t]=some [eT (f t)]:=by simp only[gTT,zm]
theorem qzz(k:Int)(p:Pr)(l:List Te)(v:Int)(t:Te):D.a ((eFG ⟨k,p,l,v⟩).fs.set 2 (.r (l.map eT++[eT t])))=eFG ⟨k,p,l++[t],v⟩:=by
 show _=D.a [_,_,.r ((l++[t]).map eT),_]
 rw[uI];rfl
theorem q3p:FOk zr q6s:=qnk q3v fun ds outs hw hg=>by
 obtain⟨d,r,rfl,hd,e,r',rfl,he,rfl⟩:=hw;obtain⟨p,rfl,hp⟩:=z54 hd;obtain⟨l,rfl,hl,-⟩:=qq1 he;simp only[q6s,qg,q7p,q4g,uA] at hg;subst hg;rw[q6m,j4];refine⟨fun st=>∃k:Nat,k≤l.length∧st=[.i k,eFG ⟨1,p,(l.take k).map q1s,0⟩],fun st=>l.length - (st.getD 0 .u).int.toNat,⟨0,uJ _,rfl⟩,?_⟩;rintro st - ⟨k,hk,rfl⟩;rw[yb];refine⟨fun hlt=>?_,fun hlt=>?_⟩
 ·simp only[gnZ,gnT,qr,ql,qj,qd,qp,qu,qk,qt,qq,qm,qn,qo,qg,qi,qh] at hlt;have hkl:k<l.length:=by omega
  simp only[gnZ,gnT,qr,ql,qj,qd,qp,qu,qk,qt,qq,qm,qn,qo,qg,qi,qh,q1j hkl,qwc,uS];refine⟨⟨by omega,by omega⟩,by omega,⟨by omega,by omega⟩,?_⟩;rw[q0t,if_pos rfl];refine⟨⟨k+1,by omega,?_⟩,?_⟩
  ·rw[ji hkl,uI,qzz];rfl
  ·simp[D.int];omega
 ·simp only[gnZ,gnT,qr,ql,qj,qd,qp,qu,qk,qt,qq,qm,qn,qo,qg,qi,qh] at hlt⊢;have:k=l.length:=by omega
  subst this;rw[uM];rfl
def q30(t:Te):List Te:=(q65 t).map q2t
def qma(f:Te→List Te):List D→Option (List D)
 |[t]=>some [.r ((f (dT t)).map eT)]
 |_=>none
theorem q3z:FOk zs (qma q30):=qnj qem q3j fun ds outs hw hg=>by
 obtain⟨d,r,rfl,hd,rfl⟩:=hw;obtain⟨t,rfl,ht⟩:=wfT hd;simp only[qma,zm,uA] at hg;subst hg;have hlen:=qgb t;unfold q30;generalize hvs:q65 t=vs at *;rw[q6k,yp];refine⟨by simp only[gnZ,gnT,qr,ql,qj,qd,qp,qu,qk,qt,qq,qm,qn,qo,qg,qi,qh,qtf],?_⟩;rw[j4];refine⟨fun st=>∃k:Nat,k≤vs.length∧st=[.r (((vs.take k).map q2t).map eT),.i k],fun st=>vs.length - (st.getD 1 .u).int.toNat,⟨0,uJ _,rfl⟩,?_⟩;rintro st - ⟨k,hk,rfl⟩;rw[yb];refine⟨fun hlt=>?_,fun hlt=>?_⟩
 ·simp only[gnZ,gnT,qr,ql,qj,qd,qp,qu,qk,qt,qq,qm,qn,qo,qg,qi,qh,qtf,hvs,q9s] at hlt;have hkl:k<vs.length:=by omega
  simp only[gnZ,gnT,qr,ql,qj,qd,qp,qu,qk,qt,qq,qm,qn,qo,qg,qi,qh,qtf,hvs,q9s,qxt hkl,gNT,uS];refine⟨⟨by omega,by omega⟩,by omega,⟨by omega,by omega⟩,?_⟩;rw[q0t,if_pos rfl];refine⟨⟨k+1,by omega,?_⟩,?_⟩
  ·rw[ji hkl,uI,uI];rfl
  ·simp[D.int];omega
 ·simp only[gnZ,gnT,qr,ql,qj,qd,qp,qu,qk,qt,qq,qm,qn,qo,qg,qi,qh,qtf,hvs,q9s] at hlt⊢;have:k=vs.length:=by omega
  subst this;rw[uM]
theorem qc7:FOk jb (gTT q08):=qla q9r fun ds outs hw hg=>by
 obtain⟨d,r,rfl,hd,rfl⟩:=hw;obtain⟨t,rfl,ht⟩:=wfT hd;simp only[gTT,zm,uA] at hg;subst hg;rw[q5y,yp,yb];refine⟨by simp only[gnZ,gnT,qr,ql,qj,qd,qp,qu,qk,qt,qq,qm,qn,qo,qg,qi,qh,qe2],fun h=>?_,fun h=>?_⟩
 ·simp only[gnZ,gnT,qr,ql,qj,qd,qp,qu,qk,qt,qq,qm,qn,qo,qg,qi,qh,qe2] at h;unfold q08;rw[if_pos h];simp only[gnZ,gnT,qr,ql,qj,qd,qp,qu,qk,qt,qq,qm,qn,qo,qg,qi,qh,qe2]
 ·simp only[gnZ,gnT,qr,ql,qj,qd,qp,qu,qk,qt,qq,qm,qn,qo,qg,qi,qh,qe2] at h;unfold q08;rw[if_neg (by rw[h];decide)];simp only[gnZ,gnT,qr,ql,qj,qd,qp,qu,qk,qt,qq,qm,qn,qo,qg,qi,qh,qe2,q64];rfl
theorem qn7:FOk q0g (gTb z29):=qmk fun ds outs hw hg=>by
 obtain⟨d,r,rfl,hd,rfl⟩:=hw;obtain⟨t,rfl,ht⟩:=wfT hd;simp only[gTb,zm,uA] at hg;subst hg;have hpos:t.s≠⟨#[]⟩→0<(t.s.size:Int):=fun h=>by
  have:t.s.size≠0:=fun e=>h (by
   cases hs:t.s with
   |mk data=>
    rw[hs] at e;have:data= #[]:=Array.eq_empty_of_size_eq_zero e;rw[this])
  omega
 unfold z29 z7g;simp only[q5m,gnZ,gnT,qr,ql,qj,qd,qp,qu,qk,qt,qq,qm,qn,qo,qg,qi,qh,z0q];refine⟨fun h=>?_,fun h=>?_⟩
 ·rw[if_pos h]
 rw[if_neg h];have hp:=hpos h;refine⟨fun h1=>?_,fun h1=>?_⟩
 ·rw[if_pos h1]
 rw[if_neg h1];have yes:∀(P:Prop)[Decidable P](a b:Bool),P→[D.b a]=[D.b (if P then a else b)]:=fun P _ a b h=>by rw[if_pos h]
 have no:∀(P:Prop)[Decidable P](a b:Bool),¬P→[D.b b]=[D.b (if P then a else b)]:=fun P _ a b h=>by rw[if_neg h]
 refine⟨fun h2=>⟨fun _=>yes _ _ _ (.inl h2),fun q=>absurd h2 q⟩,fun h2=>⟨fun h3=>⟨fun _=>yes _ _ _ (.inr (.inl h3)),fun q=>absurd h3 q⟩,fun h3=>⟨fun h4=>⟨fun _=>yes _ _ _ (.inr (.inr (.inl h4))),fun q=>absurd h4 q⟩,fun h4=>⟨fun h5=>yes _ _ _ (.inr (.inr (.inr h5))),fun h5=>⟨hp,no _ _ _ fun q=>?_⟩⟩⟩⟩⟩;rcases q with q|q|q|q
 ·exact h2 q
 ·exact h3 q
 ·exact h4 q
 ·exact h5 q
def q8e(v a:Nat)(x:X24):Bool:=decide (-4611686018427387904≤x.nv)&&decide (x.nv+v≤4611686018427387904)&&decide (-4611686018427387904≤x.na)&&decide (x.na+a≤4611686018427387904)&&decide (x.aux.length+a≤1000000000000)&&decide (v≤100000000000)
theorem q1y{v a:Nat}{x:X24}:q8e v a x=true↔-4611686018427387904≤x.nv∧x.nv+v≤4611686018427387904∧-4611686018427387904≤x.na∧x.na+a≤4611686018427387904∧x.aux.length+a≤1000000000000∧v≤100000000000:=by
 simp only[q8e,gnB,gnD];constructor
 ·rintro⟨⟨⟨⟨⟨h1,h2⟩,h3⟩,h4⟩,h5⟩,h6⟩;exact⟨h1,h2,h3,h4,h5,h6⟩
 ·rintro⟨h1,h2,h3,h4,h5,h6⟩;exact⟨⟨⟨⟨⟨h1,h2⟩,h3⟩,h4⟩,h5⟩,h6⟩
theorem q0x{v a v1 a1 v2 a2:Nat}{x y:X24}(h:q8e v a x=true)(g:Grw x y v1 a1)(hv:v1+v2≤v)(ha:a1+a2≤a):q8e v2 a2 y=true:=by
 rw[q1y] at h⊢;obtain⟨g1,g2,g3,g4,g5,g6⟩:=g;obtain⟨h1,h2,h3,h4,h5,h6⟩:=h;exact⟨by omega,by omega,by omega,by omega,by omega,by omega⟩
theorem qp7{v a:Nat}{x:X24}(h:q8e v (a+1) x=true):q8e v a x.pred=true:=by
 rw[q1y] at h⊢;obtain⟨h1,h2,h3,h4,h5,h6⟩:=h;have e:x.pred.aux.length=x.aux.length+1:=by simp[X24.pred]
 have e2:x.pred.nv=x.nv:=rfl;have e3:x.pred.na=x.na+1:=rfl;exact⟨by omega,by omega,by omega,by omega,by omega,by omega⟩
def mG(ds:List D):Nat:=rho (dT (ds.getD 1 .u))
def gGo:List D→Option (List D)
 |[x,g,c]=>if q8e (2 * rho (dT g)) (rho (dT g)) (dX x) then some [.r ((jq (dX x) (dT g) c.int).1.map eFG),eX (jq (dX x) (dT g) c.int).2] else none
 |_=>none
theorem qc6{N:Nat}{x:X24}{g:Te}(c:Int)(h1:rho g<N)(h2:q8e (2 * rho g) (rho g) x=true):jt mG N gGo [eX x,eT g,.i c]=some [.r ((jq x g c).1.map eFG),eX (jq x g c).2]:=by
 simp only[jt,mG,gGo,uC,uD,zm,z8,q04,if_pos h1,if_pos h2]
def z5q(N:Nat):List D→Option (List D)
 |[x,g]=>if rho (dT g)<N∧q8e (1+2 * rho (dT g)) (rho (dT g)) (dX x)=true then some [.r ((q3a jq (dX x) (dT g)).1.map eFG),eX (q3a jq (dX x) (dT g)).2] else none
 |_=>none
theorem z0o{N:Nat}{x:X24}{g:Te}(h1:rho g<N)(h2:q8e (1+2 * rho g) (rho g) x=true):z5q N [eX x,eT g]=some [.r ((q3a jq x g).1.map eFG),eX (q3a jq x g).2]:=by
 simp only[z5q,zm,z8,if_pos (show rho g<N∧q8e (1+2 * rho g) (rho g) x=true from⟨h1,h2⟩)]
theorem eOp(k v:Int):gOp [.i k,.i v]=some [eFG (opG k v)]:=rfl
theorem qe0:FOk qz fun _=>none:=FOk.none q6b
theorem qbh:FOk qy fun _=>none:=FOk.none q5p
theorem qc8{N:Nat}(ih:FOk qa (jt mG N gGo)):FOk z6 (z5q N):=q7t qe0 q6t ih fun ds outs hw hg=>by
 obtain⟨d,r,rfl,hd,e,r',rfl,he,rfl⟩:=hw;obtain⟨x,rfl,hx⟩:=wfX hd;obtain⟨t,rfl,ht⟩:=wfT he;simp only[z5q,zm,z8,uB,uA] at hg;obtain⟨⟨h1,h2⟩,rfl⟩:=hg;have hp:=q1y.1 h2;have hc:=qc6 (x:=x.var) x.nv h1 (q0x h2 (Grw.var x) (by omega) (by omega));have hb:=(jg t x.var x.nv).2;simp only[q0p,gnZ,gnT,qr,ql,qj,qd,qp,qu,qk,qt,qq,qm,qn,qo,qg,qi,qh,z8,zl,zh,ze,zj,zg,qe,qx,qc,qf,eOp,hc];refine⟨⟨by omega,by omega⟩,by omega,by simp only[uP,uF];omega,?_⟩;simp[q3a,q1z]
def eGs(l:List FG):D:=.r (l.map eFG)
theorem zb1(x:X24):D.a ((eX x.var).fs.set 0 (D.a ((eN (x.nv+1) x.var.na).fs.set 0 (D.i (x.nv+1+1)))))=eX x.var.var:=rfl
def qcx(ok:Te→Bool)(N:Nat)(f:X24→Te→Int→List (List FG)×X24):List D→Option (List D)
 |[x,g,c]=>if ok (dT g)=true∧rho (dT g)≤N∧q8e (2 * rho (dT g)) (rho (dT g) - 1) (dX x)=true then some [.r ((f (dX x) (dT g) c.int).1.map eGs),eX (f (dX x) (dT g) c.int).2] else none
 |_=>none
theorem z3k{ok:Te→Bool}{N:Nat}{f:X24→Te→Int→List (List FG)×X24}{x:X24}{g:Te}(c:Int)(h0:ok g=true)(h1:rho g≤N)(h2:q8e (2 * rho g) (rho g - 1) x=true):qcx ok N f [eX x,eT g,.i c]=some [.r ((f x g c).1.map eGs),eX (f x g c).2]:=by
 simp only[qcx,zm,z8,q04,if_pos (show ok g=true∧rho g≤N∧q8e (2 * rho g) (rho g - 1) x=true from⟨h0,h1,h2⟩)]
theorem qca{t:Te}{k:Nat}(h:k<t.l.length):(D.r (t.l.map eT)).get (k:Int)=eT (ag t k):=q1j h
theorem qpn{N:Nat}(ih:FOk qa (jt mG N gGo)):FOk y1 (qcx (fun g=>isT g ju 2) N (q8m jq)):=q8g (qc8 ih) ih fun ds outs hw hg=>by
 obtain⟨d,r,rfl,hd,e,r',rfl,he,f,r2,rfl,hf,rfl⟩:=hw;obtain⟨x,rfl,hx⟩:=wfX hd;obtain⟨g,rfl,ht⟩:=wfT he;obtain⟨c,rfl,-⟩:=wfI hf;simp only[qcx,zm,z8,q04,uB,uA] at hg;obtain⟨⟨h0,h1,h2⟩,rfl⟩:=hg;obtain⟨hr,hl⟩:=q2r (.inr (.inr h0));have hp:=q1y.1 h2;have p0:=zw (ag g 0);have p1:=zw (ag g 1);have e0:(D.r (g.l.map eT)).get 0=eT (ag g 0):=qca (k:=0) (by omega);have e1:(D.r (g.l.map eT)).get 1=eT (ag g 1):=qca (k:=1) (by omega);have hb0:=q8o (jg (ag g 0)) x;have c0:=z0o (N:=N) (x:=x) (g:=ag g 0) (by omega) (q0x h2 (Grw.refl x) (by omega) (by omega));have c1:=qc6 (N:=N) (x:=(q3a jq x (ag g 0)).2) (g:=ag g 1) c (by omega) (q0x h2 hb0.1 (by omega) (by omega));have hb1:=(jg (ag g 1) (q3a jq x (ag g 0)).2 c).2;have hb2:=hb0.2;have hl2:(g.l.length:Int)=2:=by omega
 simp only[q0s,gnZ,gnT,qr,ql,qj,qd,qp,qu,qk,qt,qq,qm,qn,qo,qg,qi,qh,z8,zl,zh,ze,zj,zg,qe,qx,qc,qf,e0,e1,c0,c1,hl2];refine⟨by decide,⟨by decide,by omega⟩,?_⟩;simp[q8m,qo2,q1z,eGs]
theorem qt1{N:Nat}(ih:FOk qa (jt mG N gGo)):FOk y4 (qcx (fun g=>isT g qdf 1) N (fun x g _=>qfe jq x g)):=q91 qe0 q6t qc7 ih fun ds outs hw hg=>by
 obtain⟨d,r,rfl,hd,e,r',rfl,he,f,r2,rfl,hf,rfl⟩:=hw;obtain⟨x,rfl,hx⟩:=wfX hd;obtain⟨g,rfl,ht⟩:=wfT he;obtain⟨c,rfl,-⟩:=wfI hf;simp only[qcx,zm,z8,q04,uB,uA] at hg;obtain⟨⟨h0,h1,h2⟩,rfl⟩:=hg;obtain⟨hr,hl⟩:=qa2 (.inl h0);have hi:=q22 (ag g 0);have hp:=q1y.1 h2;have e0:(D.r (g.l.map eT)).get 0=eT (ag g 0):=qca (k:=0) (by omega);have ei:gTT q08 [eT (ag g 0)]=some [eT (q08 (ag g 0))]:=qwc _ _;have ev:x.var.nv=x.nv+1:=rfl;have c0:=qc6 (N:=N) (x:=x.var.var) (g:=q08 (ag g 0)) (x.nv+1) (by omega) (q0x h2 ((Grw.var x).trans (Grw.var _)) (by omega) (by omega));have hb0:=(jg (q08 (ag g 0)) x.var.var (x.nv+1)).2;have hl2:(g.l.length:Int)=1:=by omega
 simp only[q13,gnZ,gnT,qr,ql,qj,qd,qp,qu,qk,qt,qq,qm,qn,qo,qg,qi,qh,z8,zl,zh,ze,zj,zg,qe,qx,qc,qf,e0,ei,eOp,ev,zb1,c0,hl2];refine⟨⟨by omega,by omega⟩,⟨by omega,by omega⟩,⟨by decide,by omega⟩,by simp only[uP,uF];omega,?_⟩;simp[qfe,noX,q1z,eGs]
theorem qpy{N:Nat}(ih:FOk qa (jt mG N gGo)):FOk y2 (qcx (fun g=>isT g q7y 1) N (fun x g _=>q8s jq x g)):=q8k qc7 (qc8 ih) fun ds outs hw hg=>by
 obtain⟨d,r,rfl,hd,e,r',rfl,he,f,r2,rfl,hf,rfl⟩:=hw;obtain⟨x,rfl,hx⟩:=wfX hd;obtain⟨g,rfl,ht⟩:=wfT he;obtain⟨c,rfl,-⟩:=wfI hf;simp only[qcx,zm,z8,q04,uB,uA] at hg;obtain⟨⟨h0,h1,h2⟩,rfl⟩:=hg;obtain⟨hr,hl⟩:=qa2 (.inr h0);have hi:=q22 (ag g 0);have hp:=q1y.1 h2;have e0:(D.r (g.l.map eT)).get 0=eT (ag g 0):=qca (k:=0) (by omega);have ei:gTT q08 [eT (ag g 0)]=some [eT (q08 (ag g 0))]:=qwc _ _;have c0:=z0o (N:=N) (x:=x) (g:=q08 (ag g 0)) (by omega) (q0x h2 (Grw.refl x) (by omega) (by omega));have hl2:(g.l.length:Int)=1:=by omega
 simp only[q0u,gnZ,gnT,qr,ql,qj,qd,qp,qu,qk,qt,qq,qm,qn,qo,qg,qi,qh,z8,zl,zh,ze,zj,zg,qe,qx,qc,qf,e0,ei,c0,hl2];refine⟨by decide,?_⟩;simp[q8s,qo2,eGs]
theorem qle{N:Nat}(ih:FOk qa (jt mG N gGo)):FOk zt (qcx (fun g=>isT g q26 2) N (q18 jq)):=q7h qm0 qe0 q6t ih fun ds outs hw hg=>by
 obtain⟨d,r,rfl,hd,e,r',rfl,he,f,r2,rfl,hf,rfl⟩:=hw;obtain⟨x,rfl,hx⟩:=wfX hd;obtain⟨g,rfl,ht⟩:=wfT he;obtain⟨c,rfl,-⟩:=wfI hf;simp only[qcx,zm,z8,q04,uB,uA] at hg;obtain⟨⟨h0,h1,h2⟩,rfl⟩:=hg;obtain⟨hr,hl⟩:=q2r (.inr (.inl h0));have hp:=q1y.1 h2;have p0:=zw (ag g 0);have p1:=zw (ag g 1);have e0:(D.r (g.l.map eT)).get 0=eT (ag g 0):=qca (k:=0) (by omega);have e1:(D.r (g.l.map eT)).get 1=eT (ag g 1):=qca (k:=1) (by omega);have hl2:(g.l.length:Int)=2:=by omega
 have es:gIs [eT (ag g 0),.s ⟨#[45,62]⟩,.i 2]=some [.b (isT (ag g 0) ju 2)]:=by
  simp only[gIs,zm,qew,q04,ju]
 rw[q0d];simp only[yp,yb];simp only[gnZ,gnT,qr,ql,qj,qd,qp,qu,qk,qt,qq,qm,qn,qo,qg,qi,qh,z8,zl,zh,ze,zj,zg,qe,qx,qc,qf,e0,e1,es,hl2];refine⟨by decide,fun ha=>?_,fun ha=>?_⟩
 ·obtain⟨hr2,hla⟩:=q2r (.inr (.inr ha));have q0:=zw (ag (ag g 0) 0);have q1:=zw (ag (ag g 0) 1);have d0:(D.r ((ag g 0).l.map eT)).get 0=eT (ag (ag g 0) 0):=qca (k:=0) (by omega);have d1:(D.r ((ag g 0).l.map eT)).get 1=eT (ag (ag g 0) 1):=qca (k:=1) (by omega);have hla2:((ag g 0).l.length:Int)=2:=by omega
  have g2:Grw x x.var.var 2 0:=(Grw.var x).trans (Grw.var _);have b0:=jg (ag (ag g 0) 0) x.var.var x.var.nv;have c0:=qc6 (N:=N) (x:=x.var.var) (g:=ag (ag g 0) 0) x.var.nv (by omega) (q0x h2 g2 (by omega) (by omega));generalize hy:jq x.var.var (ag (ag g 0) 0) x.var.nv=r1 at *;have b1:=jg (ag (ag g 0) 1) r1.2 c;have c1:=qc6 (N:=N) (x:=r1.2) (g:=ag (ag g 0) 1) c (by omega) (q0x h2 (g2.trans b0.1) (by omega) (by omega));generalize hy1:jq r1.2 (ag (ag g 0) 1) c=r2 at *;have b2:=jg (ag g 1) r2.2 c;have c2:=qc6 (N:=N) (x:=r2.2) (g:=ag g 1) c (by omega) (q0x h2 ((g2.trans b0.1).trans b1.1) (by omega) (by omega));have l0:=b0.2;have l1:=b1.2;simp only[eOp,d0,d1,hla2,c0,c1,c2,uK,uL,uC,uD,q7p,uF,true_and];refine⟨⟨by omega,by omega⟩,⟨by show _≤x.nv+1+1;omega,by show x.nv+1+1≤_;omega⟩,⟨by decide,by omega⟩,by simp only[uP,uF];omega,⟨by decide,?_⟩,by decide,?_⟩
  ·simp only[uP,uW,uF,uT];omega
  ·have ev:x.var.nv=x.nv+1:=rfl;rw[ev] at hy;unfold q18;rw[if_pos ha];simp only[qt3,q1z,qn5,hy,hy1,eGs,ev,uG,uN,uI,uZ,kN,List.append_assoc]
 ·have b0:=jg (ag g 0) x c;have c0:=qc6 (N:=N) (x:=x) (g:=ag g 0) c (by omega) (q0x h2 (Grw.refl x) (by omega) (by omega));generalize hy:jq x (ag g 0) c=r1 at *;have c1:=qc6 (N:=N) (x:=r1.2) (g:=ag g 1) c (by omega) (q0x h2 b0.1 (by omega) (by omega));simp only[c0,c1,uK,uL,uC,uD,q7p,uF,true_and,and_true];refine⟨by decide,?_⟩;unfold q18;rw[if_neg (by rw[ha];decide)];simp only[qn5,hy,eGs,uG,uN]
def qsx(ok:Te→Bool)(N:Nat)(f:X24→Te→Int→List (List FG)×X24):List D→Option (List D)
 |[x,g,c]=>if ok (dT g)=true∧rho (dT g)≤N∧q8e (2 * rho (dT g)) (rho (dT g)) (dX x)=true then some [eFG (q58 (fun y=>f y (dT g) c.int) (dX x) (dT g) c.int).1,eX (q58 (fun y=>f y (dT g) c.int) (dX x) (dT g) c.int).2] else none
 |_=>none
theorem qrd{ok:Te→Bool}{N:Nat}{f:X24→Te→Int→List (List FG)×X24}{x:X24}{g:Te}(c:Int)(h0:ok g=true)(h1:rho g≤N)(h2:q8e (2 * rho g) (rho g) x=true):qsx ok N f [eX x,eT g,.i c]=some [eFG (q58 (fun y=>f y g c) x g c).1,eX (q58 (fun y=>f y g c) x g c).2]:=by
 simp only[qsx,zm,z8,q04,if_pos (show ok g=true∧rho g≤N∧q8e (2 * rho g) (rho g) x=true from⟨h0,h1,h2⟩)]
def z8m(xa:X):Tree:=(.loop 9 3 [(.lit (.r [])),(.lit (.i 0))] (.br (.lt (.tok 4) (.len (.call 0 0 [(.set (.set (.tok 0) 0 (.set (.fld (.tok 0) 0) 1 (.add (.fld (.fld (.tok 0) 0) 1) (.lit (.i 1))))) 2 (.app (.fld (.set (.tok 0) 0 (.set (.fld (.tok 0) 0) 1 (.add (.fld (.fld (.tok 0) 0) 1) (.lit (.i 1))))) 2) (.row [(.lit (.r []))]))),(.tok 1),(.tok 2)]))) (.need [(.le (.lit (.i 0)) (.tok 4)),(.lt (.tok 4) (.len (.call 0 0 [(.set (.set (.tok 0) 0 (.set (.fld (.tok 0) 0) 1 (.add (.fld (.fld (.tok 0) 0) 1) (.lit (.i 1))))) 2 (.app (.fld (.set (.tok 0) 0 (.set (.fld (.tok 0) 0) 1 (.add (.fld (.fld (.tok 0) 0) 1) (.lit (.i 1))))) 2) (.row [(.lit (.r []))]))),(.tok 1),(.tok 2)])))] (.need [(.le (.add (.len (.tok 3)) (.lit (.i 1))) (.lit (.i 1759218604390))),(.ok 5 [xa])] (.need [(.rng .i64 (.add (.tok 4) (.lit (.i 1))))] (.back 9 [(.app (.tok 3) (.row [(.mk [(.set (.set (.lit (.a [(.s ⟨#[]⟩),(.i 0),(.i 0)])) 1 (.len xa)) 2 (.fld (.fld (.tok 0) 0) 1)),(.call 5 0 [xa]),(.get (.call 0 0 [(.set (.set (.tok 0) 0 (.set (.fld (.tok 0) 0) 1 (.add (.fld (.fld (.tok 0) 0) 1) (.lit (.i 1))))) 2 (.app (.fld (.set (.tok 0) 0 (.set (.fld (.tok 0) 0) 1 (.add (.fld (.fld (.tok 0) 0) 1) (.lit (.i 1))))) 2) (.row [(.lit (.r []))]))),(.tok 1),(.tok 2)]) (.tok 4))])])),(.add (.tok 4) (.lit (.i 1)))])))) (.need [(.le (.lit (.i 0)) (.len (.fld (.set (.tok 0) 0 (.set (.fld (.tok 0) 0) 1 (.add (.fld (.fld (.tok 0) 0) 1) (.lit (.i 1))))) 2))),(.lt (.len (.fld (.set (.tok 0) 0 (.set (.fld (.tok 0) 0) 1 (.add (.fld (.fld (.tok 0) 0) 1) (.lit (.i 1))))) 2)) (.len (.fld (.call 0 1 [(.set (.set (.tok 0) 0 (.set (.fld (.tok 0) 0) 1 (.add (.fld (.fld (.tok 0) 0) 1) (.lit (.i 1))))) 2 (.app (.fld (.set (.tok 0) 0 (.set (.fld (.tok 0) 0) 1 (.add (.fld (.fld (.tok 0) 0) 1) (.lit (.i 1))))) 2) (.row [(.lit (.r []))]))),(.tok 1),(.tok 2)]) 2)))] (.need [(.ok 6 [(.set (.set (.lit (.a [(.s ⟨#[]⟩),(.i 0),(.i 0)])) 1 (.len xa)) 2 (.fld (.fld (.tok 0) 0) 1)),xa])] (.leaf [(.call 6 0 [(.set (.set (.lit (.a [(.s ⟨#[]⟩),(.i 0),(.i 0)])) 1 (.len xa)) 2 (.fld (.fld (.tok 0) 0) 1)),xa]),(.set (.call 0 1 [(.set (.set (.tok 0) 0 (.set (.fld (.tok 0) 0) 1 (.add (.fld (.fld (.tok 0) 0) 1) (.lit (.i 1))))) 2 (.app (.fld (.set (.tok 0) 0 (.set (.fld (.tok 0) 0) 1 (.add (.fld (.fld (.tok 0) 0) 1) (.lit (.i 1))))) 2) (.row [(.lit (.r []))]))),(.tok 1),(.tok 2)]) 2 (.put (.fld (.call 0 1 [(.set (.set (.tok 0) 0 (.set (.fld (.tok 0) 0) 1 (.add (.fld (.fld (.tok 0) 0) 1) (.lit (.i 1))))) 2 (.app (.fld (.set (.tok 0) 0 (.set (.fld (.tok 0) 0) 1 (.add (.fld (.fld (.tok 0) 0) 1) (.lit (.i 1))))) 2) (.row [(.lit (.r []))]))),(.tok 1),(.tok 2)]) 2) (.len (.fld (.set (.tok 0) 0 (.set (.fld (.tok 0) 0) 1 (.add (.fld (.fld (.tok 0) 0) 1) (.lit (.i 1))))) 2)) (.tok 3)))])))))
theorem zap(l:List Te):gLL id [.r (l.map eT)]=some [.r (l.map eT)]:=by simp only[gLL,q7p,q4g,id]
theorem qjm(p:Pr)(l:List Te):q6s [ePr p,.r (l.map eT)]=some [eFG (q31 p l)]:=by simp only[q6s,q7p,q4g,qg]
section
variable{ok:Te→Bool}{N:Nat}{f:X24→Te→Int→List (List FG)×X24}{t0 t1 t2 t3 t4 t5 t6:Ct}{x:X24}{g:Te}{c:Int}
theorem qts(hf:∀x g c,ok g=true→Grw x (f x g c).2 (2 * rho g) (rho g - 1)∧(f x g c).1.length≤2)(h0:ok g=true)(h1:rho g≤N)(h2:q8e (2 * rho g) (rho g) x=true){xa:X}
  (hxa:∀s0 s1,xa.ev (evl (yx [(t0,qcx ok N f),(t1,qma q30),(t2,gTb q63),(t3,gNT q2t),(t4,fun _=>none),(t5,gLL id),(t6,q6s)]) [eX x,eT g,.i c,s0,s1])=.r ((q97 g c).map eT))
  (hxb:xa.ev (evl (yx [(t0,qcx ok N f),(t1,qma q30),(t2,gTb q63),(t3,gNT q2t),(t4,fun _=>none),(t5,gLL id),(t6,q6s)]) [eX x,eT g,.i c])=.r ((q97 g c).map eT)):
  (z8m xa).go (yx [(t0,qcx ok N f),(t1,qma q30),(t2,gTb q63),(t3,gNT q2t),(t4,fun _=>none),(t5,gLL id),(t6,q6s)]) (fun o=>o=[eFG (q58 (fun y=>f y g c) x g c).1,eX (q58 (fun y=>f y g c) x g c).2]) [eX x,eT g,.i c] fun _ _=>False:=by
 simp only[evl] at hxa hxb;have hp:=q1y.1 h2;have hr:=zw g;have hb:=z3k (f:=f) (ok:=ok) (N:=N) (x:=x.pred) c h0 h1 (qp7 (by rw[show rho g - 1+1=rho g by omega];exact h2));obtain⟨hg,hl⟩:=hf x.pred g c h0;have ha0:=hg.a0;have e:x.pred.aux.length=x.aux.length+1:=by simp[X24.pred]
 have e9:x.incA.aux.length=x.aux.length:=rfl;unfold q58
 show(z8m xa).go _ (fun o=>o=[eFG (q31 (q9z g c x) (q97 g c)),eX ((f x.pred g c).2.put x.aux.length (q1w g c x (f x.pred g c).1))]) _ _
 generalize f x.pred g c=R at *;unfold z8m;rw[j4];refine⟨fun st=>∃k:Nat,k≤R.1.length∧st=[.r ((q1w g c x (R.1.take k)).map eFC),.i k],fun st=>R.1.length - (st.getD 1 .u).int.toNat,⟨0,uJ _,rfl⟩,?_⟩;rintro st - ⟨k,hk,rfl⟩;rw[yb];refine⟨fun hlt=>?_,fun hlt=>?_⟩
 ·simp only[gnZ,gnT,qr,ql,qj,qd,qp,qu,qk,qt,qq,qm,qn,qo,qg,qi,qh,z8,zl,zh,ze,zj,zg,qe,qx,qc,qf,hb] at hlt;have hkl:k<R.1.length:=by omega
  simp only[gnZ,gnT,qr,ql,qj,qd,qp,qu,qk,qt,qq,qm,qn,qo,qg,qi,qh,z8,zl,zh,ze,zj,zg,qe,qx,qc,qf,hb,hxa,zap,qax eGs hkl];refine⟨⟨by omega,by omega⟩,?_,⟨by omega,by omega⟩,?_⟩
  ·simp only[q1w,uF,uS];omega
  rw[q0t,if_pos rfl];refine⟨⟨k+1,by omega,?_⟩,?_⟩
  ·rw[ji hkl]
   show _=[D.r ((q1w g c x (R.1.take k++[R.1.getD k default])).map eFC),_]
   simp only[q1w,uI];rfl
  ·simp[D.int];omega
 ·simp only[gnZ,gnT,qr,ql,qj,qd,qp,qu,qk,qt,qq,qm,qn,qo,qg,qi,qh,z8,zl,zh,ze,zj,zg,qe,qx,qc,qf,hb] at hlt;have:k=R.1.length:=by omega
  subst this;have e3:D.a ((D.a ((ePr zPr).fs.set 1 (.i ((q97 g c).length:Nat)))).fs.set 2 (.i x.na))=ePr (q9z g c x):=rfl;simp only[gnZ,gnT,qr,ql,qj,qd,qp,qu,qk,qt,qq,qm,qn,qo,qg,qi,qh,z8,zl,zh,ze,zj,zg,qe,qx,qc,qf,hb,hxa,e3,qjm,uM,Int.toNat_natCast,e9];exact⟨by omega,by omega⟩
theorem z67(hf:∀x g c,ok g=true→Grw x (f x g c).2 (2 * rho g) (rho g - 1)∧(f x g c).1.length≤2)(h0:ok g=true)(h1:rho g≤N)(h2:q8e (2 * rho g) (rho g) x=true):
  ye.go (yx [(t0,qcx ok N f),(t1,qma q30),(t2,gTb q63),(t3,gNT q2t),(t4,fun _=>none),(t5,gLL id),(t6,q6s)]) (fun o=>o=[eFG (q58 (fun y=>f y g c) x g c).1,eX (q58 (fun y=>f y g c) x g c).2]) [eX x,eT g,.i c] fun _ _=>False:=by
 have hp:=q1y.1 h2;have hr:=zw g;have hb:=z3k (f:=f) (ok:=ok) (N:=N) (x:=x.pred) c h0 h1 (qp7 (by rw[show rho g - 1+1=rho g by omega];exact h2));have e1:qma q30 [eT g]=some [.r ((q30 g).map eT)]:=by simp only[qma,zm]
 have e2:gTb q63 [eT g]=some [.b (q63 g)]:=by simp only[gTb,zm]
 have e3:gNT q2t [.i c]=some [eT (q2t c)]:=rfl;have hvl:(q30 g).length≤2000:=by
  unfold q30;rw[uF];exact qgb g
 have e9:x.incA.aux.length=x.aux.length:=rfl;rw[ye];simp only[yp,yb];refine⟨by simp only[gnZ,gnT,qr,ql,qj,qd,qp,qu,qk,qt,qq,qm,qn,qo,qg,qi,qh,z8,zl,zh,ze,zj,zg,qe,qx,qc,qf,e1],by simp only[gnZ,gnT,qr,ql,qj,qd,qp,qu,qk,qt,qq,qm,qn,qo,qg,qi,qh,z8,zl,zh,ze,zj,zg,qe,qx,qc,qf,e2],fun h=>?_,fun h=>?_⟩
 ·simp only[gnZ,gnT,qr,ql,qj,qd,qp,qu,qk,qt,qq,qm,qn,qo,qg,qi,qh,z8,zl,zh,ze,zj,zg,qe,qx,qc,qf,e2] at h;refine⟨by simp only[gnZ,gnT,qr,ql,qj,qd,qp,qu,qk,qt,qq,qm,qn,qo,qg,qi,qh,z8,zl,zh,ze,zj,zg,qe,qx,qc,qf,e1,e3];omega,by simp only[gnZ,gnT,qr,ql,qj,qd,qp,qu,qk,qt,qq,qm,qn,qo,qg,qi,qh,z8,zl,zh,ze,zj,zg,qe,qx,qc,qf];omega,by simp only[gnZ,gnT,qr,ql,qj,qd,qp,qu,qk,qt,qq,qm,qn,qo,qg,qi,qh,z8,zl,zh,ze,zj,zg,qe,qx,qc,qf,e9];omega,by simp only[gnZ,gnT,qr,ql,qj,qd,qp,qu,qk,qt,qq,qm,qn,qo,qg,qi,qh,z8,zl,zh,ze,zj,zg,qe,qx,qc,qf,hb],?_⟩;refine qts hf h0 h1 h2 (xa:=(.app (.call 1 0 [(.tok 1)]) (.row [(.call 3 0 [(.tok 2)])]))) (fun s0 s1=>?_) ?_
  ·simp only[gnZ,gnT,qr,ql,qj,qd,qp,qu,qk,qt,qq,qm,qn,qo,qg,qi,qh,z8,zl,zh,ze,zj,zg,qe,qx,qc,qf,e1,e3,q97,h,if_true,uI,q30,uG,uN]
  ·simp only[gnZ,gnT,qr,ql,qj,qd,qp,qu,qk,qt,qq,qm,qn,qo,qg,qi,qh,z8,zl,zh,ze,zj,zg,qe,qx,qc,qf,e1,e3,q97,h,if_true,uI,q30,uG,uN]
 ·simp only[gnZ,gnT,qr,ql,qj,qd,qp,qu,qk,qt,qq,qm,qn,qo,qg,qi,qh,z8,zl,zh,ze,zj,zg,qe,qx,qc,qf,e2] at h;refine⟨by simp only[gnZ,gnT,qr,ql,qj,qd,qp,qu,qk,qt,qq,qm,qn,qo,qg,qi,qh,z8,zl,zh,ze,zj,zg,qe,qx,qc,qf];omega,by simp only[gnZ,gnT,qr,ql,qj,qd,qp,qu,qk,qt,qq,qm,qn,qo,qg,qi,qh,z8,zl,zh,ze,zj,zg,qe,qx,qc,qf,e9];omega,by simp only[gnZ,gnT,qr,ql,qj,qd,qp,qu,qk,qt,qq,qm,qn,qo,qg,qi,qh,z8,zl,zh,ze,zj,zg,qe,qx,qc,qf,hb],?_⟩;refine qts hf h0 h1 h2 (xa:=(.call 1 0 [(.tok 1)])) (fun s0 s1=>?_) ?_
  ·simp only[gnZ,gnT,qr,ql,qj,qd,qp,qu,qk,qt,qq,qm,qn,qo,qg,qi,qh,z8,zl,zh,ze,zj,zg,qe,qx,qc,qf,e1,q97,h,gnF,if_false,kO,q30]
  ·simp only[gnZ,gnT,qr,ql,qj,qd,qp,qu,qk,qt,qq,qm,qn,qo,qg,qi,qh,z8,zl,zh,ze,zj,zg,qe,qx,qc,qf,e1,q97,h,gnF,if_false,kO,q30]
end
theorem qj7{ok:Te→Bool}{N:Nat}{f:X24→Te→Int→List (List FG)×X24}{t0 t1 t2 t3 t4 t5 t6:Ct}(hf:∀x g c,ok g=true→Grw x (f x g c).2 (2 * rho g) (rho g - 1)∧(f x g c).1.length≤2):∀ds outs,WfA z9.ars ds→qsx ok N f ds=some outs→ye.go (yx [(t0,qcx ok N f),(t1,qma q30),(t2,gTb q63),(t3,gNT q2t),(t4,fun _=>none),(t5,gLL id),(t6,q6s)]) (fun o=>o=outs) ds fun _ _=>False:=fun ds outs hw hg=>by
 obtain⟨d,r,rfl,hd,e,r',rfl,he,f,r2,rfl,hf,rfl⟩:=hw;obtain⟨x,rfl,hx⟩:=wfX hd;obtain⟨g,rfl,ht⟩:=wfT he;obtain⟨c,rfl,-⟩:=wfI hf;simp only[qsx,zm,z8,q04,uB,uA] at hg;obtain⟨⟨h0,h1,h2⟩,rfl⟩:=hg;exact z67 (by assumption) h0 h1 h2
theorem qmt{N:Nat}(ih:FOk qa (jt mG N gGo)):FOk z9 (qsx (fun g=>isT g q26 2) N (q18 jq)):=q55 (qle ih) q3z q42 q3j qbh q10 q3p (qj7 fun x g c h=>⟨qlz h (fun g' _=>jg g') x c,by
 unfold q18;split<;>exact uH _⟩)
theorem qna{N:Nat}(ih:FOk qa (jt mG N gGo)):FOk zk (qsx (fun g=>isT g ju 2) N (q8m jq)):=q5d (qpn ih) q3z q42 q3j qbh q10 q3p (qj7 fun x g c h=>⟨qsv h (fun g' _=>jg g') x c,by show 1≤2;omega⟩)
theorem qn1{N:Nat}(ih:FOk qa (jt mG N gGo)):FOk zf (qsx (fun g=>isT g qdf 1) N (fun x g _=>qfe jq x g)):=q56 (qt1 ih) q3z q42 q3j qbh q10 q3p (qj7 fun x g c h=>⟨qy1 h (fun g' _=>jg g') x,by show 2≤2;omega⟩)
theorem qnz{N:Nat}(ih:FOk qa (jt mG N gGo)):FOk zi (qsx (fun g=>isT g q7y 1) N (fun x g _=>q8s jq x g)):=q5j (qpy ih) q3z q42 q3j qbh q10 q3p (qj7 fun x g c h=>⟨qro h (fun g' _=>jg g') x,by show 1≤2;omega⟩)
theorem z9q:((D.r [D.a [D.s ⟨#[59]⟩,D.i 2,D.i 96],D.a [D.s ⟨#[45,62]⟩,D.i 2,D.i 97],D.a [D.s ⟨#[92,43]⟩,D.i 1,D.i 98],D.a [D.s ⟨#[111,110,99,101]⟩,D.i 1,D.i 99]]).get 0).fld 0=.s ⟨#[59]⟩:=rfl
theorem za3:((D.r [D.a [D.s ⟨#[59]⟩,D.i 2,D.i 96],D.a [D.s ⟨#[45,62]⟩,D.i 2,D.i 97],D.a [D.s ⟨#[92,43]⟩,D.i 1,D.i 98],D.a [D.s ⟨#[111,110,99,101]⟩,D.i 1,D.i 99]]).get 0).fld 1=.i 2:=rfl
theorem z9z:((D.r [D.a [D.s ⟨#[59]⟩,D.i 2,D.i 96],D.a [D.s ⟨#[45,62]⟩,D.i 2,D.i 97],D.a [D.s ⟨#[92,43]⟩,D.i 1,D.i 98],D.a [D.s ⟨#[111,110,99,101]⟩,D.i 1,D.i 99]]).get 1).fld 0=.s ⟨#[45,62]⟩:=rfl
theorem za7:((D.r [D.a [D.s ⟨#[59]⟩,D.i 2,D.i 96],D.a [D.s ⟨#[45,62]⟩,D.i 2,D.i 97],D.a [D.s ⟨#[92,43]⟩,D.i 1,D.i 98],D.a [D.s ⟨#[111,110,99,101]⟩,D.i 1,D.i 99]]).get 1).fld 1=.i 2:=rfl
theorem zau:((D.r [D.a [D.s ⟨#[59]⟩,D.i 2,D.i 96],D.a [D.s ⟨#[45,62]⟩,D.i 2,D.i 97],D.a [D.s ⟨#[92,43]⟩,D.i 1,D.i 98],D.a [D.s ⟨#[111,110,99,101]⟩,D.i 1,D.i 99]]).get 2).fld 0=.s ⟨#[92,43]⟩:=rfl
theorem zai:((D.r [D.a [D.s ⟨#[59]⟩,D.i 2,D.i 96],D.a [D.s ⟨#[45,62]⟩,D.i 2,D.i 97],D.a [D.s ⟨#[92,43]⟩,D.i 1,D.i 98],D.a [D.s ⟨#[111,110,99,101]⟩,D.i 1,D.i 99]]).get 2).fld 1=.i 1:=rfl
theorem za8:((D.r [D.a [D.s ⟨#[59]⟩,D.i 2,D.i 96],D.a [D.s ⟨#[45,62]⟩,D.i 2,D.i 97],D.a [D.s ⟨#[92,43]⟩,D.i 1,D.i 98],D.a [D.s ⟨#[111,110,99,101]⟩,D.i 1,D.i 99]]).get 3).fld 0=.s ⟨#[111,110,99,101]⟩:=rfl
theorem za9:((D.r [D.a [D.s ⟨#[59]⟩,D.i 2,D.i 96],D.a [D.s ⟨#[45,62]⟩,D.i 2,D.i 97],D.a [D.s ⟨#[92,43]⟩,D.i 1,D.i 98],D.a [D.s ⟨#[111,110,99,101]⟩,D.i 1,D.i 99]]).get 3).fld 1=.i 1:=rfl
theorem qpq:FOk qa gGo:=q29 (m:=mG) q2b fun N ih=>q8l (qmt ih) (qna ih) (qn1 ih) (qnz ih) qm0 q6t ih q3p qn7 q3j fun ds outs hw hg=>by
 obtain⟨d,r,rfl,hd,e,r',rfl,he,f,r2,rfl,hf,rfl⟩:=hw;obtain⟨x,rfl,hx⟩:=wfX hd;obtain⟨g,rfl,ht⟩:=wfT he;obtain⟨c,rfl,-⟩:=wfI hf;simp only[jt,mG,gGo,uC,uD,zm,z8,q04,uB,uA] at hg;obtain⟨h1,h2,rfl⟩:=hg;have hp:=q1y.1 h2;have hr:=zw g;rw[qvs];have eis:∀(s:ByteArray)(n:Int),gIs [eT g,.s s,.i n]=some [.b (isT g s n)]:=fun s n=>by
  simp only[gIs,zm,qew,q04]
 have ebx:gTb z29 [eT g]=some [.b (z29 g)]:=by simp only[gTb,zm]
 have ent:gNT q2t [.i x.nv]=some [eT (q2t x.nv)]:=rfl;have hN:rho g≤N:=by omega
 rw[q0v];simp only[yp,yb,q9f];simp only[gnZ,gnT,qr,ql,qj,qd,qp,qu,qk,qt,qq,qm,qn,qo,qg,qi,qh,z8,zl,zh,ze,zj,zg,qe,qx,qc,qf,z9q,za3,z9z,za7,zau,zai,za8,za9,eis,eOp];refine⟨fun h=>?_,fun n1=>⟨fun h=>?_,fun n2=>⟨fun h=>?_,fun n3=>⟨fun h=>?_,fun n4=>⟨fun h=>?_,fun n5=>⟨by decide,fun h=>?_,fun n6=>⟨by decide,fun h=>?_,fun n7=>⟨by decide,fun h=>?_,fun n8=>⟨by decide,?_⟩⟩⟩⟩⟩⟩⟩⟩⟩
 ·simp only[q49,show isT g qb0 0=true from h,if_true,gnF,if_false];rfl
 ·simp only[q49,show isT g qb0 0=false from n1,show isT g qc3 0=true from h,if_true,gnF,if_false];rfl
 ·simp only[q49,show isT g qb0 0=false from n1,show isT g qc3 0=false from n2,show isT g qpm 0=true from h,if_true,gnF,if_false];rfl
 ·obtain⟨hq,hl⟩:=q2r (.inl h);have p0:=zw (ag g 0);have p1:=zw (ag g 1);have e0:(D.r (g.l.map eT)).get 0=eT (ag g 0):=qca (k:=0) (by omega);have e1:(D.r (g.l.map eT)).get 1=eT (ag g 1):=qca (k:=1) (by omega);have hl2:(g.l.length:Int)=2:=by omega
  have b0:=jg (ag g 0) x c;have c0:=qc6 (N:=N) (x:=x) (g:=ag g 0) c (by omega) (q0x h2 (Grw.refl x) (by omega) (by omega));simp only[q49,show isT g qb0 0=false from n1,show isT g qc3 0=false from n2,show isT g qpm 0=false from n3,show isT g q24 2=true from h,if_true,gnF,if_false];generalize hy:jq x (ag g 0) c=r1 at *;have b1:=jg (ag g 1) r1.2 c;have c1:=qc6 (N:=N) (x:=r1.2) (g:=ag g 1) c (by omega) (q0x h2 b0.1 (by omega) (by omega));have l0:=b0.2;have l1:=b1.2;simp only[e0,e1,hl2,c0,c1,uK,uL,uC,uD,q7p,uF,true_and,and_true];refine⟨by decide,⟨by decide,by omega⟩,?_⟩;simp only[q1z,uI]
 ·have e:=qrd (ok:=fun g=>isT g q26 2) (N:=N) (f:=q18 jq) (x:=x) c h hN h2;simp only[e,q49,show isT g qb0 0=false from n1,show isT g qc3 0=false from n2,show isT g qpm 0=false from n3,show isT g q24 2=false from n4,show isT g q26 2=true from h,if_true,gnF,if_false,onR,uK,uL,uC,uD,true_and,uG,uN]
 ·have e:=qrd (ok:=fun g=>isT g ju 2) (N:=N) (f:=q8m jq) (x:=x) c h hN h2;simp only[e,q49,show isT g qb0 0=false from n1,show isT g qc3 0=false from n2,show isT g qpm 0=false from n3,show isT g q24 2=false from n4,show isT g q26 2=false from n5,show isT g ju 2=true from h,if_true,gnF,if_false,onR,uK,uL,uC,uD,true_and,uG,uN]
 ·have e:=qrd (ok:=fun g=>isT g qdf 1) (N:=N) (f:=fun x g _=>qfe jq x g) (x:=x) c h hN h2;simp only[e,q49,show isT g qb0 0=false from n1,show isT g qc3 0=false from n2,show isT g qpm 0=false from n3,show isT g q24 2=false from n4,show isT g q26 2=false from n5,show isT g ju 2=false from n6,show isT g qdf 1=true from h,if_true,gnF,if_false,onR,uK,uL,uC,uD,true_and,uG,uN]
 ·have e:=qrd (ok:=fun g=>isT g q7y 1) (N:=N) (f:=fun x g _=>q8s jq x g) (x:=x) c h hN h2;simp only[e,q49,show isT g qb0 0=false from n1,show isT g qc3 0=false from n2,show isT g qpm 0=false from n3,show isT g q24 2=false from n4,show isT g q26 2=false from n5,show isT g ju 2=false from n6,show isT g qdf 1=false from n7,show isT g q7y 1=true from h,if_true,gnF,if_false,onR,uK,uL,uC,uD,true_and,uG,uN]
 ·have ec:=qjm ⟨g.s,(g.l.length:Nat),0⟩ g.l;simp only[q49,show isT g qb0 0=false from n1,show isT g qc3 0=false from n2,show isT g qpm 0=false from n3,show isT g q24 2=false from n4,show isT g q26 2=false from n5,show isT g ju 2=false from n6,show isT g qdf 1=false from n7,show isT g q7y 1=false from n8,if_true,gnF,if_false,qfw,qd8];have q0:D.a ((D.a ((ePr zPr).fs.set 0 (.s g.s))).fs.set 1 (.i (g.l.length:Nat)))=ePr ⟨g.s,(g.l.length:Nat),0⟩:=rfl;have q1:D.a ((D.a ((ePr zPr).fs.set 1 (.i 2))).fs.set 2 (.i 1099511627775))=ePr ⟨⟨#[]⟩,2,1099511627775⟩:=rfl;have q2:D.a ((D.a ((ePr zPr).fs.set 1 (.i 2))).fs.set 2 (.i 1099511627776))=ePr ⟨⟨#[]⟩,2,1099511627776⟩:=rfl;have c1:q6s [ePr ⟨⟨#[]⟩,2,1099511627775⟩,.r [eT (q2t x.nv),eT g]]=_:=qjm ⟨⟨#[]⟩,2,1099511627775⟩ [q2t x.nv,g];have c2:q6s [ePr ⟨⟨#[]⟩,2,1099511627776⟩,.r [eT (q2t x.nv),eT g]]=_:=qjm ⟨⟨#[]⟩,2,1099511627776⟩ [q2t x.nv,g];simp only[q0,q1,q2,ec,ebx,ent,uK,uL,uC,uD,c1,c2,kS,qdc,true_and,and_true];refine⟨fun h=>?_,fun h=>⟨⟨by omega,by omega⟩,?_⟩⟩
  ·rw[if_pos h];rfl
  ·rw[if_neg (by rw[h];decide)];rfl
end
def z4k:List D→Option (List D)
 |[n]=>if decide (0≤n.int)&&decide (n.int≤1000000) then some [.r []] else none
 |_=>none
theorem qc1:FOk yl z4k:=qb4 fun ds outs hw hg=>by
 obtain⟨d,r,rfl,hd,rfl⟩:=hw;obtain⟨n,rfl,hn⟩:=wfI hd;unfold z4k at hg;simp only at hg;split at hg
 ·rename_i hc;rw[gnB,gnD,gnD] at hc;obtain⟨h0,h1⟩:0≤n∧n≤1000000:=hc;injection hg with hg;subst hg;have e1:¬n<0:=by omega
  simp only[q23,gnZ,gnT,qr,ql,qj,qd,qp,qu,qk,qt,qq,qm,qn,qo,qg,qi,qh,e1,Int.sub_zero];refine⟨fun q=>(by first|exact q.elim|cases q),fun _=>⟨⟨by omega,by omega⟩,fun h2=>⟨⟨by omega,by omega,by omega,by omega⟩,by simp⟩,fun h2=>by first|trivial|rfl⟩⟩
 ·cases hg
def q8v(l:List (List FC)):Nat:=(l.map List.length).sum
theorem qft{l:List (List FC)}{k:Nat}(h:k<l.length):q8v (l.take (k+1))=q8v (l.take k)+(l.getD k []).length:=by
 rw[show l.take (k+1)=l.take k++[l.getD k []] from ji h];simp[q8v]
theorem qjd(l:List (List FC))(k:Nat):q8v (l.take k)≤q8v l:=by
 have:q8v l=q8v (l.take k)+q8v (l.drop k):=by
  unfold q8v;rw[←List.sum_append,←uI,kE]
 omega
def qv1:List D→Option (List D)
 |[r]=>if q8v (r.rs.map fun q=>q.rs.map dFC)≤1000000 then some [q1p (r.rs.map fun q=>q.rs.map dFC).flatten] else none
 |_=>none
theorem zac(l:List (List FC)):((D.r (l.map q1p)).rs.map fun q=>q.rs.map dFC)=l:=by
 show((l.map q1p).map fun q=>q.rs.map dFC)=l
 rw[uX];have:((fun r:D=>r.rs.map dFC) ∘ q1p)=id:=funext fun l=>qxh l;rw[this,kA]
theorem z13{l:List (List FC)}(h:q8v l≤1000000):qv1 [.r (l.map q1p)]=some [q1p l.flatten]:=by
 simp only[qv1,zac,if_pos h]
theorem qae:FOk yc qv1:=q9n qc1 fun ds outs hw hg=>by
 obtain⟨d,r,rfl,hd,rfl⟩:=hw;obtain⟨l0,rfl,hl1,hl2⟩:=hd.row_of (te:=qf3) rfl;obtain⟨l,rfl,-⟩:=qgd (e:=q1p) (P:=fun _=>True) fun x hx=>by
  obtain⟨z,rfl,-⟩:=z7d (hl2 x hx);exact⟨z,rfl,trivial⟩
 have e:LM qf3=5864062014634:=by kernel_rfl
 rw[uF,e] at hl1;simp only[qv1,zac,uB,uA] at hg;obtain⟨hs,rfl⟩:=hg;rw[q1i,j4];refine⟨fun st=>∃k:Nat,k≤l.length∧st=[.i (q8v (l.take k):Nat),.i k],fun st=>l.length - (st.getD 1 .u).int.toNat,⟨0,uJ _,by simp[X.evs,X.ev,q8v]⟩,?_⟩;rintro st - ⟨k,hk,rfl⟩;have hle:=qjd l k;rw[yb];refine⟨fun hlt=>?_,fun hlt=>?_⟩
 ·simp only[gnZ,gnT,qr,ql,qj,qd,qp,qu,qk,qt,qq,qm,qn,qo,qg,qi,qh,z8,zl,zh,ze,zj,zg,qe,qx,qc,qf] at hlt;have hkl:k<l.length:=by omega
  have hle2:=qjd l (k+1);rw[qft hkl] at hle2;have e0:(D.r (l.map q1p)).get (k:Int)=q1p (l.getD k []):=qax q1p hkl;have e1:(q1p (l.getD k [])).rs.length=(l.getD k []).length:=by simp[q1p,q7p]
  simp only[gnZ,gnT,qr,ql,qj,qd,qp,qu,qk,qt,qq,qm,qn,qo,qg,qi,qh,z8,zl,zh,ze,zj,zg,qe,qx,qc,qf,e0,e1];refine⟨⟨by omega,by omega⟩,⟨by omega,by omega⟩,fun q=>by omega,fun _=>⟨⟨by omega,by omega⟩,?_⟩⟩;rw[q0t,if_pos rfl];refine⟨⟨k+1,by omega,?_⟩,by simp[D.int];omega⟩;rw[qft hkl];simp
 ·simp only[gnZ,gnT,qr,ql,qj,qd,qp,qu,qk,qt,qq,qm,qn,qo,qg,qi,qh,z8,zl,zh,ze,zj,zg,qe,qx,qc,qf] at hlt;obtain rfl:k=l.length:=by omega
  rw[uM] at *;have hgr:z4k [.i (q8v l:Nat)]=some [.r []]:=by
   have q1:decide ((0:Int)≤(q8v l:Nat))=true:=decide_eq_true (by omega);have q2:decide (((q8v l:Nat):Int)≤1000000)=true:=decide_eq_true (by omega);unfold z4k;simp only;rw[if_pos (by rw[gnB];exact⟨q1,q2⟩)]
  rw[yp];refine⟨by simp only[gnZ,gnT,qr,ql,qj,qd,qp,qu,qk,qt,qq,qm,qn,qo,qg,qi,qh,z8,zl,zh,ze,zj,zg,qe,qx,qc,qf,hgr],?_⟩;rw[j4];refine⟨fun st=>∃k:Nat,k≤l.length∧st=[q1p (l.take k).flatten,.i k],fun st=>l.length - (st.getD 1 .u).int.toNat,⟨0,uJ _,by simp[X.evs,X.ev,evl,yx,hgr,q1p,q7p]⟩,?_⟩;rintro st - ⟨k,hk,rfl⟩;have hle:=qjd l k;rw[yb];refine⟨fun hlt=>?_,fun hlt=>?_⟩
  ·simp only[gnZ,gnT,qr,ql,qj,qd,qp,qu,qk,qt,qq,qm,qn,qo,qg,qi,qh,z8,zl,zh,ze,zj,zg,qe,qx,qc,qf] at hlt;have hkl:k<l.length:=by omega
   have hle2:=qjd l (k+1);rw[qft hkl] at hle2;have e0:(D.r (l.map q1p)).get (k:Int)=q1p (l.getD k []):=qax q1p hkl;have e1:(q1p (l.getD k [])).rs.length=(l.getD k []).length:=by simp[q1p,q7p]
   have e2:(q1p (l.take k).flatten).rs.length=q8v (l.take k):=by
    show((l.take k).flatten.map eFC).length=_
    rw[uF,List.length_flatten];rfl
   simp only[gnZ,gnT,qr,ql,qj,qd,qp,qu,qk,qt,qq,qm,qn,qo,qg,qi,qh,z8,zl,zh,ze,zj,zg,qe,qx,qc,qf,e0,e1,e2];refine⟨⟨by omega,by omega⟩,by omega,⟨by omega,by omega⟩,?_⟩;rw[q0t,if_pos rfl];refine⟨⟨k+1,by omega,?_⟩,by simp[D.int];omega⟩;rw[show l.take (k+1)=l.take k++[l.getD k []] from ji hkl,List.flatten_append];simp[q1p,q7p]
  ·simp only[gnZ,gnT,qr,ql,qj,qd,qp,qu,qk,qt,qq,qm,qn,qo,qg,qi,qh,z8,zl,zh,ze,zj,zg,qe,qx,qc,qf] at hlt⊢;obtain rfl:k=l.length:=by omega
   rw[uM]
def mxI(m v:Int):Int:=if m<v+1 then v+1 else m
def qda(m:Int)(t:Te):Int:=(q65 t).foldl mxI m
def q38(l:List Te):Int:=l.foldl qda 0
def qlg(t:Te):Bool:=(q65 t).all fun v=>decide (-1≤v)&&decide (v≤1099511627776)
def qzf:List D→Option (List D)
 |[l]=>if(l.rs.map dT).all qlg then some [.i (q38 (l.rs.map dT))] else none
 |_=>none
theorem z04{l:List Te}(h:l.all qlg=true):qzf [.r (l.map eT)]=some [.i (q38 l)]:=by
 simp only[qzf,q7p,q4g,if_pos h]
theorem gmem{α:Type}{l:List α}{k:Nat}{d:α}(h:k<l.length):l.getD k d∈l:=by
 rw[gnG,gnK h];exact List.getElem_mem h
theorem qc5:FOk ja qzf:=qke qem fun ds outs hw hg=>by
 obtain⟨d,r,rfl,hd,rfl⟩:=hw;obtain⟨l,rfl,hl,-⟩:=qq1 hd;simp only[qzf,q7p,q4g,uB,uA] at hg;obtain⟨hv,rfl⟩:=hg;rw[q5s,j4];refine⟨fun st=>∃k:Nat,k≤l.length∧st=[.i ((l.take k).foldl qda 0),.i k],fun st=>l.length - (st.getD 1 .u).int.toNat,⟨0,uJ _,rfl⟩,?_⟩;rintro st - ⟨k,hk,rfl⟩;rw[yb];refine⟨fun hlt=>?_,fun hlt=>?_⟩
 ·simp only[gnZ,gnT,qr,ql,qj,qd,qp,qu,qk,qt,qq,qm,qn,qo,qg,qi,qh,z8,zl,zh,ze,zj,zg,qe,qx,qc,qf] at hlt;have hkl:k<l.length:=by omega
  have hvs:=qgb (l.getD k default);have e0:(D.r (l.map eT)).get (k:Int)=eT (l.getD k default):=q1j hkl;have e1:qtf q65 [eT (l.getD k default)]=some [eIs (q65 (l.getD k default))]:=by simp only[qtf,zm]
  have hok:=kL.1 hv _ (gmem (d:=default) hkl);unfold qlg at hok;have hfold:(l.take (k+1)).foldl qda 0=(q65 (l.getD k default)).foldl mxI ((l.take k).foldl qda 0):=by
   rw[ji hkl,kI];rfl
  generalize (l.take k).foldl qda 0=m at *;generalize q65 (l.getD k default)=vs at *;simp only[yp,gnZ,gnT,qr,ql,qj,qd,qp,qu,qk,qt,qq,qm,qn,qo,qg,qi,qh,z8,zl,zh,ze,zj,zg,qe,qx,qc,qf,e0,e1];refine⟨⟨by omega,by omega⟩,?_⟩;rw[j4];refine⟨fun st=>∃j:Nat,j≤vs.length∧st=[.i ((vs.take j).foldl mxI m),.i j],fun st=>vs.length - (st.getD 1 .u).int.toNat,⟨0,uJ _,rfl⟩,?_⟩;rintro st - ⟨j,hj,rfl⟩;rw[yb];refine⟨fun hlt2=>?_,fun hlt2=>?_⟩
  ·simp only[gnZ,gnT,qr,ql,qj,qd,qp,qu,qk,qt,qq,qm,qn,qo,qg,qi,qh,z8,zl,zh,ze,zj,zg,qe,qx,qc,qf,e0,e1,q9s] at hlt2;have hjl:j<vs.length:=by omega
   have hb:=kL.1 hok _ (gmem (d:=0) hjl);simp only[gnB,gnD] at hb;simp only[gnZ,gnT,qr,ql,qj,qd,qp,qu,qk,qt,qq,qm,qn,qo,qg,qi,qh,z8,zl,zh,ze,zj,zg,qe,qx,qc,qf,e0,e1,q9s,qxt hjl];refine⟨⟨by omega,by omega⟩,⟨by omega,by omega⟩,⟨by omega,by omega⟩,?_⟩;rw[q0t,if_pos rfl];refine⟨⟨j+1,by omega,?_⟩,by simp[D.int];omega⟩;rw[show vs.take (j+1)=vs.take j++[vs.getD j 0] from ji hjl,kI]
   show _=[D.i (if _<_ then _ else _),_]
   split<;>rfl
  ·simp only[gnZ,gnT,qr,ql,qj,qd,qp,qu,qk,qt,qq,qm,qn,qo,qg,qi,qh,z8,zl,zh,ze,zj,zg,qe,qx,qc,qf,e0,e1,q9s] at hlt2;obtain rfl:j=vs.length:=by omega
   rw[uM];simp only[gnZ,gnT,qr,ql,qj,qd,qp,qu,qk,qt,qq,qm,qn,qo,qg,qi,qh,z8,zl,zh,ze,zj,zg,qe,qx,qc,qf];refine⟨by omega,?_⟩;rw[q0t,if_neg (by decide),q0t,if_pos rfl];refine⟨⟨k+1,by omega,?_⟩,by simp[D.int];omega⟩;rw[hfold];rfl
 ·simp only[gnZ,gnT,qr,ql,qj,qd,qp,qu,qk,qt,qq,qm,qn,qo,qg,qi,qh,z8,zl,zh,ze,zj,zg,qe,qx,qc,qf] at hlt⊢;obtain rfl:k=l.length:=by omega
  rw[uM];rfl
end Go.Proofs.Ytbmaffphliignaa
