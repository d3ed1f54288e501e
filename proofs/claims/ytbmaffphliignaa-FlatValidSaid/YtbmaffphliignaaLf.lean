/-
 Lemmas of the walk and plain laws, put together. No condition.
-/
import Derived.Defers
import Derived.Recover
import Derived.TacticsInMore
import Derived.WalkLawsBesides
import Derived.Test.YtbmaffphliignaaLe
namespace Go.Proofs.Ytbmaffphliignaa
open Go.RowKit
set_option linter.unusedVariables false
set_option linter.unusedSimpArgs false
set_option maxRecDepth 100000
open _root_.Option.some renaming injEq→uA
open _root_.Option renaming ite_none_right_eq_some→uB,map_eq_some_iff→uG,isSome_some→kH,getD_some→kK
open _root_.Go.Proofs.Try renaming prog→uC,ntmps93→kW,func93→kY,f94→kZ
open _root_.List renaming getD_cons_zero→uD,map_cons→uH,mem_cons_of_mem→uI,getD_cons_succ→uJ,mem_cons_self→uK,drop_length→uN,mem_cons→uT,map_nil→uU,map_map→uV,take_length→uX,length_take→uY,length_cons→uZ,map_id→kA,length_nil→kB,length_map→kC,length_eq_zero_iff→kF,take_append_drop→kG,length_append→kL,not_mem_nil→kN,cons_append→kO,range→kX
open _root_.Nat renaming zero_le→uE,le_refl→uF,not_lt_zero→uQ
open _root_.Bool renaming not_eq_false'→uL,false_and→uM,or_eq_false_iff→uO,or_eq_true→uP,and_false→uR,true_and→uS,eq_iff_iff→kD,not_eq_true'→kM,and_assoc→kQ,and_true→kR,and_self→kS,or_true→kT
open Sem renaming run_bind→uW,run_pure→kU,run→kV
def q3x(t:Te):Te:=if y7 t then t else zT
theorem q43:FOk yj (gTT q3x):=qnx
theorem qeq:FOk ye (q6v idT):=q2d (m:=mT) q5t fun N ih=>qdk ih fun ds outs hw hg=>by
 obtain⟨d,r,rfl,hd,e,r',rfl,he,rfl⟩:=hw;obtain⟨t,rfl,ht⟩:=wfT hd;obtain⟨u,rfl,hu⟩:=wfT he;simp only[q01,mT,q6v,uD,zw,qe,uB,uA] at hg;obtain⟨hsz,rfl⟩:=hg;have hl:=ht.l;have no:(¬idT t u=true)→[D.b false]=[D.b (idT t u)]:=fun h=>by rw[Bool.eq_false_iff.2 h]
 simp only[q31,gnZ,gnT,q6v];refine⟨fun hn=>no fun h=>?_,fun hn=>?_⟩
 ·obtain⟨e1,e2,e3,e4,-⟩:=q9k.1 h;simp[e1,e2,e3,e4] at hn
 simp only[uO,uL,gnD] at hn;obtain⟨⟨⟨e1,e2⟩,e3⟩,e4⟩:=hn;have e4:t.l.length=u.l.length:=by omega
 rw[j7];refine⟨fun st=>∃k:Nat,k≤t.l.length∧st=[.b false,.i k]∧∀j,j<k→idT (t.l.getD j default) (u.l.getD j default)=true,fun st=>t.l.length - (st.getD 1 .u).int.toNat,⟨0,uE _,rfl,fun j hj=>absurd hj (uQ _)⟩,?_⟩;rintro st - ⟨k,hk,rfl,hP⟩;rw[qd];refine⟨fun hlt=>?_,fun hlt=>?_⟩
 ·simp only[gnZ,gnT] at hlt;have hkl':k<t.l.length:=by omega
  have hku':k<u.l.length:=by omega
  have ha:=q3g hkl';simp only[gnZ,gnT,q12 hkl',q12 hku',q01,mT,q6v,if_pos (show szT (t.l.getD k default)<N by omega)];refine⟨⟨by omega,by omega⟩,⟨by omega,by omega⟩,fun hx=>no fun h=>?_,fun hx=>⟨⟨by omega,by omega⟩,?_⟩⟩
  ·rw[(q9k.1 h).2.2.2.2 k hkl'] at hx;cases hx
  ·rw[q1n,if_pos rfl];refine⟨⟨k+1,by omega,by simp,q3p hP (by simpa using hx)⟩,?_⟩;simp[D.int];omega
 ·simp only[gnZ,gnT] at hlt⊢;have:k=t.l.length:=by omega
  subst this;rw[q9k.2 ⟨e1,e2,e3,e4,hP⟩]
theorem q9v:FOk j2 (q6v q6j):=qoi q1i qeq fun ds outs hw hg=>by
 obtain⟨d,r,rfl,hd,e,r',rfl,he,rfl⟩:=hw;obtain⟨t,rfl,ht⟩:=wfT hd;obtain⟨u,rfl,hu⟩:=wfT he;simp only[q6v,zw,uA] at hg;subst hg;simp[q7f,gnZ,gnT,gTb,q6v,q6j,kQ]
def gSL(f:ByteArray→List Te→Te):List D→Option (List D)
 |[s,l]=>some [eT (f s.str (l.rs.map dT))]
 |_=>none
theorem q33(l:List Te):(l.map eT).map dT=l:=by
 rw[uV];have:dT ∘ eT=id:=funext zw;rw[this,kA]
theorem qih:FOk yv (gTT id):=q2d (m:=mT) q7j fun N ih=>qgu ih fun ds outs hw hg=>by
 obtain⟨d,r,rfl,hd,rfl⟩:=hw;obtain⟨t,rfl,ht⟩:=wfT hd;simp only[q01,mT,gTT,uD,zw,qe,uB,uA] at hg;obtain⟨hsz,rfl⟩:=hg;have hl:=ht.l;rw[q3v,j7];refine⟨fun st=>∃k:Nat,k≤t.l.length∧st=[.i k,eT (.mk t.k t.n t.s (t.l.take k))],fun st=>t.l.length - (st.getD 0 .u).int.toNat,⟨0,uE _,by simp only[X.evs,X.ev,evl,uD,z0t,z2n,z25,q6k];rfl⟩,?_⟩;rintro st - ⟨k,hk,rfl⟩;rw[qd];refine⟨fun hlt=>?_,fun hlt=>?_⟩
 ·simp only[gnZ,gnT] at hlt;have hkl':k<t.l.length:=by omega
  have ha:=q3g hkl';simp only[gnZ,gnT,q12 hkl',q01,mT,gTT,if_pos (show szT (t.l.getD k default)<N by omega),id,z4w,uY];refine⟨⟨by omega,by omega,by omega⟩,⟨by omega,by omega⟩,?_⟩;rw[q1n,if_pos rfl];refine⟨⟨k+1,by omega,?_⟩,?_⟩
  ·rw[q0j hkl',qk4];rfl
  ·simp[D.int];omega
 ·simp only[gnZ,gnT] at hlt⊢;have:k=t.l.length:=by omega
  subst this;rw[uX];cases t;rfl
theorem qn2:FOk q0c (gTT q3x):=qjd q7g qih fun ds outs hw hg=>by
 obtain⟨d,r,rfl,hd,rfl⟩:=hw;obtain⟨t,rfl,ht⟩:=wfT hd;simp only[gTT,zw,uA] at hg;subst hg;simp only[q4u,gnZ,gnT,gTb,gTT,id,q3x];cases y7 t<;>simp
def q3a(l m:List Te):Bool:=decide (l.length=m.length)&&(kX l.length).all fun j=>q6j (l.getD j default) (m.getD j default)
def z0g(f:List Te→List Te→Bool):List D→Option (List D)
 |[l,m]=>some [.b (f (l.rs.map dT) (m.rs.map dT))]
 |_=>none
theorem qh0:FOk ju (z0g q3a):=qf7 qcm fun ds outs hw hg=>by
 obtain⟨d,r,rfl,hd,e,r',rfl,he,rfl⟩:=hw;obtain⟨l,rfl,hl,-⟩:=qj2 hd;obtain⟨m,rfl,hm,-⟩:=qj2 he;simp only[z0g,qo,q33,uA] at hg;subst hg;simp only[q3f,gnZ,gnT,q6v];refine⟨fun hn=>?_,fun hn=>?_⟩
 ·rw[q3a,show decide (l.length=m.length)=false by simp at hn⊢;omega];rfl
 have hn:l.length=m.length:=by simp at hn;omega
 rw[j7];refine⟨fun st=>∃k:Nat,k≤l.length∧st=[.b false,.i k]∧∀j,j<k→q6j (l.getD j default) (m.getD j default)=true,fun st=>l.length - (st.getD 1 .u).int.toNat,⟨0,uE _,rfl,fun j hj=>absurd hj (uQ _)⟩,?_⟩;rintro st - ⟨k,hk,rfl,hP⟩;rw[qd];refine⟨fun hlt=>?_,fun hlt=>?_⟩
 ·simp only[gnZ,gnT] at hlt;have hkl:k<l.length:=by omega
  have hkm:k<m.length:=by omega
  simp only[gnZ,gnT,q12 hkl,q12 hkm,q6v];refine⟨⟨by omega,by omega,by omega,by omega⟩,fun hx=>?_,fun hx=>⟨⟨by omega,by omega⟩,?_⟩⟩
  ·rw[q3a,qyd hkl (by simpa using hx),uR]
  ·rw[q1n,if_pos rfl];refine⟨⟨k+1,by omega,by simp,q3p hP (by simpa using hx)⟩,?_⟩;simp[D.int];omega
 ·simp only[gnZ,gnT] at hlt⊢;have:k=l.length:=by omega
  subst this;rw[q3a,qxo hP,kR,decide_eq_true hn]
def qql:Tree→Tree
 |.br _ _ e=>qql e
 |.need _ t=>qql t
 |.loop _ _ _ b=>b
 |t=>t
def eIs(l:List Int):D:=.r (l.map .i)
def dIs(d:D):List Int:=d.rs.map D.int
theorem qf0(l:List Int):dIs (eIs l)=l:=by
 show(l.map .i).map D.int=l
 rw[uV];have:D.int ∘ D.i=id:=funext fun _=>rfl;rw[this,kA]
theorem qa4(l:List Int):(eIs l).rs.length=l.length:=by simp[eIs,qo]
theorem z3j(l:List Int)(x:Int):D.r ((eIs l).rs++[.i x])=eIs (l++[x]):=by simp[eIs,qo]
theorem qx3{l:List Int}{k:Nat}(h:k<l.length):(eIs l).get (k:Int)=.i (l.getD k 0):=by
 show(l.map D.i).getD k .u=_
 simp[gnG,h]
theorem zb0{d:D}{E:TypeId}(hE:zb E=some (.int .i64))(h:Wf d (.row E)):∃l:List Int,d=eIs l∧l.length≤17592186043904∧∀x∈l,i64 x:=by
 obtain⟨l,rfl,h1,h2⟩:=h.row_of (te:=.int .i64) hE;obtain⟨m,rfl,h3⟩:=qgn (e:=D.i) (P:=fun n=>i64 n) fun x hx=>wfI (h2 x hx);refine⟨m,rfl,?_,h3⟩;have e:LM (.int .i64)=17592186043904:=by kernel_rfl
 rw[kC] at h1;omega
theorem z10:zb 2=some (.int .i64):=by kernel_rfl
theorem qts{vs:List Int}{l:List Te}{k:Nat}(h:k<l.length):j9 vs (l.take (k+1))=jk (j9 vs (l.take k)) (l.getD k default):=by
 rw[q0j h,q7e];rfl
theorem qe5(vs:List Int)(t:Te):jk vs t=j9 (if t.k=0∧t.n∉vs then vs++[t.n] else vs) t.l:=by cases t;rfl
theorem qxs{l:List Te}{k:Nat}(hk:k<l.length):q47 (l.take k)+szT (l.getD k default)≤q47 l:=by
 have h2:=qg7 hk;have:=qaw (l.take (k+1)) (l.drop (k+1));rw[kG] at this;omega
theorem z8t(f:Int→Int)(t:Te):qix f t=.mk t.k (if t.k=0 then f t.n else t.n) t.s (t.l.map (qix f)):=by cases t;rw[z6y];rfl
theorem qdy{t:Te}:y7 t=true↔szT t≤2000∧q02 t=true:=by simp[y7]
theorem qpq{t:Te}(h:y7 t=true):q3x t=t:=if_pos h
section
def Two(b c:Nat):Nat→Prop:=fun k=>k=b∨k=c
abbrev q0q:Array Value:= #[.int .i64 0,.int .i64 0,.string ⟨#[]⟩,.slice none 0 0]
theorem qwd(v:Value)(w:World):(Instr.typeAssert (.iface 113 v) 20 113 true).run uC w=.ok (.tuple #[v,.bool true]) w:=by
 have hu:uC.underlying 113=some (.struct #[]):=by kernel_rfl
 simp[Instr.typeAssert,run_underlying hu]
section
variable{P:Program}{ops:Array Oper}{Q:Exit→Act→World→Prop}{a:Act}{w w':World}{K:Act→World→Prop}
theorem q2r{i:Nat}{rest:List Nat}(o:Oper)(ho:ops[i]? =some o)(hg:o.guard=none)(h:o.wp P a w (wpOps P ops Q rest) Q):wpOps P ops Q (i::rest) a w:=by
 simp only[wpOps,ho];rw[if_pos (by simp[Region.wanted,hg])];exact .inl h
theorem qdn{o:Oper}{v:Value}(h:(execOp a.eval o).run P w=.ok (.value v) w')(hk:K (a.put o.dst v) w'):o.wp P a w K Q:=by
 unfold Oper.wp;rw[h];exact hk
theorem z46{o:Oper}(h:(execOp a.eval o).run P w=.ok .skip w')(hk:K (a.put o.dst undef) w'):o.wp P a w K Q:=by
 unfold Oper.wp;rw[h];exact hk
end
theorem q21{a b:Act}{l:List Nat}{P:Program}{ops:Array Oper}{Q:Exit→Act→World→Prop}{w:World}(h:a=b)(hk:wpOps P ops Q l b w):wpOps P ops Q l a w:=h▸hk
theorem qpp{x:Sem Value}{w w':World}{v:Value}(h:x.run uC w=.ok v w'):(x>>= fun v=>pure (.value v)).run uC w=.ok (Next.value v) w':=by
 rw[uW,h];rfl
theorem qtf{x:Sem Unit}{w w':World}(h:x.run uC w=.ok () w'):(x>>= fun _=>pure .skip).run uC w=.ok Next.skip w':=by
 rw[uW,h];rfl
theorem q37{T:TypeId}{w:World}{g:Nat}{cur cs:Array Value}{T':TypeId}(hg:w.heap[g]? =some (.cells cur T' (0,0))){i:TypeInfo}(hi:uC.info? T=some i)(h1:i.size=cs.size)(h2:cur.size=cs.size)(hone:∀x∈cs.toList,x.oneCell'=true){v:Value}(hc:v.cells=cs):
  (Instr.storeAt T (.pointer (some ⟨g,0,none⟩)) v).run uC w=.ok () (w.setRow g cs):=by
 have hst:=run_storeCells_at uC g 0 T' cs.toList 0 cur w hg (by simp;omega) hone;have e1:(cur.toList.take (0+0)++cs.toList++cur.toList.drop (0+0+cs.toList.length))=cs.toList:=by
  rw[List.drop_eq_nil_of_le (by simp;omega)];simp
 rw[e1] at hst;simp only[Instr.storeAt,Instr.sureAddr,uW,kU,Result.andThen_ok,storeVar,sizeOf,typeInfo,run_program,hi,hc];rw[if_neg (by omega)];simpa using hst
theorem z2h:(uC.info? 113).map (fun i=>(i.size,i.zero))=some (0,some (.agg #[])):=by kernel_rfl
theorem qg2:(uC.info? 24).map (fun i=>(i.size,i.zero))=some (4,some (.agg q0q)):=by kernel_rfl
theorem qq4:(uC.info? 4).map (fun i=>(i.size,i.zero))=some (1,some (.bool false)):=by kernel_rfl
theorem qwb(w:World):(Instr.build 24 #[]).run uC w=.ok (.agg q0q) w:=by
 obtain⟨i24,hi24,e24⟩:=uG.1 qg2;simp only[Prod.mk.injEq] at e24;have hT:(zb 24).isSome=true:=by kernel_rfl
 have hS:(zb 24).map qcc=some true:=by kernel_rfl
 obtain⟨t,ht⟩:=Option.isSome_iff_exists.1 hT;rw[ht] at hS;have hS:qcc t=true:=by simpa using hS
 obtain⟨S,rfl⟩:∃S,t=.st S:=by cases t<;>first|exact⟨_,rfl⟩|(simp[qcc] at hS;done)
 obtain⟨fields,fs,zc,i,hu,hf,hfb,hi,hs,hz,-⟩:=q32 ht;obtain⟨places,hpr,hpl⟩:=run_places (w:=w) hfb;have hzv:(zeroValue 24).run uC w=.ok (.agg q0q) w:=by simp[zeroValue,typeInfo,hi24,e24.2]
 simp only[Instr.build,uW,hzv,run_underlying hu,Result.andThen_ok,hpr,Value.cells,Instr.fill,kU]
theorem qw1{ps:Array (Nat×Value)}(w:World)(h:ps= #[]):(Instr.build 24 ps).run uC w=.ok (.agg q0q) w:=by rw[h];exact qwb w
theorem q2q{w:World}{g k:Nat}{cs:Array Value}(h:k≠g):(w.setRow g cs).heap[k]? =w.heap[k]? :=setRow_other w g k cs h
theorem qzq(b2 b3:Nat)(w:World){c2 c3:Array Value}(h2:w.heap[b2]? =some (.cells c2 24 (0,0)))(hc2:c2.size=4)(h3:w.heap[b3]? =some (.cells c3 4 (0,0)))(hc3:c3.size=1)(hne:b2≠b3):
  CallsD uC 93 #[.pointer (some ⟨b2,0,none⟩),.pointer (some ⟨b3,0,none⟩)] (.panicking (q9q 113)) w fun e u' w'=>
   e=.returned (.tuple #[])∧(∃v,u'=.panicking [{v:=v,recovered:=true}])∧But (Two b2 b3) w w'∧w'.heap[b2]? =some (.cells q0q 24 (0,0))∧w'.heap[b3]? =some (.cells #[.bool false] 4 (0,0)):=by
 obtain⟨i73,hi73,e73⟩:=uG.1 z2h;obtain⟨i24,hi24,e24⟩:=uG.1 qg2;obtain⟨i4,hi4,e4⟩:=uG.1 qq4;simp only[Prod.mk.injEq] at e73 e24 e4;refine callsD_of_wpS kY rfl fun c₀ cs hu=>?_;apply wpS_seq;apply wpS_region;simp[wpOpsS,go_sem,recoverD,hu,kW,Exit.thenS,q9q];apply wpS_seq;apply wpS_region;simp[wpOpsS,go_sem,Exit.thenS];refine wpS_cond (t:=true) (by simp[Act.eval,Array.replicate]) ?_;simp only[if_true];refine wpS_of_wp ?_;refine wp_seq (wp_seq (wp_region ?_));refine q21 (b:={tmps:= #[.pointer (some ⟨b2,0,none⟩),.pointer (some ⟨b3,0,none⟩),.iface 113 (.agg #[]),undef,undef,.iface 113 (.agg #[]),.iface 113 (.agg #[]),.bool true,undef,undef,undef,undef,undef,undef,undef,undef,undef],defers:=[]}) (by kernel_rfl) ?_;refine q2r _ rfl rfl (qdn (w':=w) (v:=.iface 113 (.agg #[])) (by kernel_rfl) ?_);refine q21 (b:={tmps:= #[.pointer (some ⟨b2,0,none⟩),.pointer (some ⟨b3,0,none⟩),.iface 113 (.agg #[]),undef,undef,.iface 113 (.agg #[]),.iface 113 (.agg #[]),.bool true,undef,(.iface 113 (.agg #[])),undef,undef,undef,undef,undef,undef,undef],defers:=[]}) (by kernel_rfl) ?_;refine q2r _ rfl rfl (qdn (w':=w) (v:=.tuple #[.agg #[],.bool true]) (qpp (qwd (.agg #[]) w)) ?_);refine q21 (b:={tmps:= #[.pointer (some ⟨b2,0,none⟩),.pointer (some ⟨b3,0,none⟩),.iface 113 (.agg #[]),undef,undef,.iface 113 (.agg #[]),.iface 113 (.agg #[]),.bool true,undef,(.iface 113 (.agg #[])),(.tuple #[.agg #[],.bool true]),undef,undef,undef,undef,undef,undef],defers:=[]}) (by kernel_rfl) ?_;refine q2r _ rfl rfl (qdn (w':=w) (v:=.tuple #[.agg #[],.bool true]) (by kernel_rfl) ?_);refine q21 (b:={tmps:= #[.pointer (some ⟨b2,0,none⟩),.pointer (some ⟨b3,0,none⟩),.iface 113 (.agg #[]),undef,undef,.iface 113 (.agg #[]),.iface 113 (.agg #[]),.bool true,(.tuple #[.agg #[],.bool true]),(.iface 113 (.agg #[])),(.tuple #[.agg #[],.bool true]),undef,undef,undef,undef,undef,undef],defers:=[]}) (by kernel_rfl) ?_;refine q2r _ rfl rfl (qdn (w':=w) (v:=.agg #[]) (by kernel_rfl) ?_);refine q21 (b:={tmps:= #[.pointer (some ⟨b2,0,none⟩),.pointer (some ⟨b3,0,none⟩),.iface 113 (.agg #[]),undef,undef,.iface 113 (.agg #[]),.iface 113 (.agg #[]),.bool true,(.tuple #[.agg #[],.bool true]),(.iface 113 (.agg #[])),(.tuple #[.agg #[],.bool true]),(.agg #[]),undef,undef,undef,undef,undef],defers:=[]}) (by kernel_rfl) ?_;refine q2r _ rfl rfl (qdn (w':=w) (v:=.bool true) (by kernel_rfl) ?_);refine q21 (b:={tmps:= #[.pointer (some ⟨b2,0,none⟩),.pointer (some ⟨b3,0,none⟩),.iface 113 (.agg #[]),undef,undef,.iface 113 (.agg #[]),.iface 113 (.agg #[]),.bool true,(.tuple #[.agg #[],.bool true]),(.iface 113 (.agg #[])),(.tuple #[.agg #[],.bool true]),(.agg #[]),(.bool true),undef,undef,undef,undef],defers:=[]}) (by kernel_rfl) ?_;refine q2r _ rfl rfl (qdn (w':=(w.alloc (.cells #[] 113))) (v:=.pointer (some ⟨w.heap.size,0,none⟩)) (by simp[execOp,Instr.alloc,zeroValue,typeInfo,hi73,e73.2,newVar,newRow,newObj,Value.cells,kV]) ?_)
 refine q21 (b:={tmps:= #[.pointer (some ⟨b2,0,none⟩),.pointer (some ⟨b3,0,none⟩),.iface 113 (.agg #[]),(.pointer (some ⟨w.heap.size,0,none⟩)),undef,.iface 113 (.agg #[]),.iface 113 (.agg #[]),.bool true,(.tuple #[.agg #[],.bool true]),(.iface 113 (.agg #[])),(.tuple #[.agg #[],.bool true]),(.agg #[]),(.bool true),undef,undef,undef,undef],defers:=[]}) (by kernel_rfl) ?_;refine q2r _ rfl rfl (z46 (w':=((w.alloc (.cells #[] 113)).setRow w.heap.size #[])) (qtf (q37 (T:=113) (cur:= #[]) (cs:= #[]) (q1p rfl) hi73 e73.1 rfl (fun x hx=>by cases hx) (v:=.agg #[]) rfl)) ?_);refine q21 (b:={tmps:= #[.pointer (some ⟨b2,0,none⟩),.pointer (some ⟨b3,0,none⟩),.iface 113 (.agg #[]),(.pointer (some ⟨w.heap.size,0,none⟩)),undef,.iface 113 (.agg #[]),.iface 113 (.agg #[]),.bool true,(.tuple #[.agg #[],.bool true]),(.iface 113 (.agg #[])),(.tuple #[.agg #[],.bool true]),(.agg #[]),(.bool true),undef,undef,undef,undef],defers:=[]}) (by kernel_rfl) ?_;refine q2r _ rfl rfl (qdn (w':=((w.alloc (.cells #[] 113)).setRow w.heap.size #[])) (v:=.bool true) (by kernel_rfl) ?_);refine q21 (b:={tmps:= #[.pointer (some ⟨b2,0,none⟩),.pointer (some ⟨b3,0,none⟩),.iface 113 (.agg #[]),(.pointer (some ⟨w.heap.size,0,none⟩)),(.bool true),.iface 113 (.agg #[]),.iface 113 (.agg #[]),.bool true,(.tuple #[.agg #[],.bool true]),(.iface 113 (.agg #[])),(.tuple #[.agg #[],.bool true]),(.agg #[]),(.bool true),undef,undef,undef,undef],defers:=[]}) (by kernel_rfl) ?_
 show Code.wp uC (.seq (.region 3 _ _) _) _ _ _
 refine wp_seq (wp_region ?_);refine q2r _ rfl rfl (qdn (w':=((w.alloc (.cells #[] 113)).setRow w.heap.size #[])) (v:=.bool true) (by kernel_rfl) ?_);refine q21 (b:={tmps:= #[.pointer (some ⟨b2,0,none⟩),.pointer (some ⟨b3,0,none⟩),.iface 113 (.agg #[]),(.pointer (some ⟨w.heap.size,0,none⟩)),(.bool true),.iface 113 (.agg #[]),.iface 113 (.agg #[]),.bool true,(.tuple #[.agg #[],.bool true]),(.iface 113 (.agg #[])),(.tuple #[.agg #[],.bool true]),(.agg #[]),(.bool true),(.bool true),undef,undef,undef],defers:=[]}) (by kernel_rfl) ?_;refine q2r _ rfl rfl (qdn (w':=((w.alloc (.cells #[] 113)).setRow w.heap.size #[])) (v:=.bool false) (by kernel_rfl) ?_);refine q21 (b:={tmps:= #[.pointer (some ⟨b2,0,none⟩),.pointer (some ⟨b3,0,none⟩),.iface 113 (.agg #[]),(.pointer (some ⟨w.heap.size,0,none⟩)),(.bool true),.iface 113 (.agg #[]),.iface 113 (.agg #[]),.bool true,(.tuple #[.agg #[],.bool true]),(.iface 113 (.agg #[])),(.tuple #[.agg #[],.bool true]),(.agg #[]),(.bool true),(.bool true),(.bool false),undef,undef],defers:=[]}) (by kernel_rfl) ?_;refine wp_cond (t:=false) (by kernel_rfl) ?_;simp only[gnF,if_false];refine wp_skip ?_
 show Code.wp uC (.region 5 _ _) _ _ _
 refine wp_region ?_;refine q2r _ rfl rfl (qdn (w':=((w.alloc (.cells #[] 113)).setRow w.heap.size #[])) (v:=.agg q0q) (qpp (qw1 _ (by simp))) ?_);refine q21 (b:={tmps:= #[.pointer (some ⟨b2,0,none⟩),.pointer (some ⟨b3,0,none⟩),.iface 113 (.agg #[]),(.pointer (some ⟨w.heap.size,0,none⟩)),(.bool true),.iface 113 (.agg #[]),.iface 113 (.agg #[]),.bool true,(.tuple #[.agg #[],.bool true]),(.iface 113 (.agg #[])),(.tuple #[.agg #[],.bool true]),(.agg #[]),(.bool true),(.bool true),(.bool false),undef,(.agg q0q)],defers:=[]}) (by kernel_rfl) ?_;have hlt2:=yo h2;have hlt3:=yo h3;have g2:((w.alloc (.cells #[] 113)).setRow w.heap.size #[]).heap[b2]? =some (.cells c2 24 (0,0)):=by
  rw[q2q (by omega)];exact q0x h2
 refine q2r _ rfl rfl (z46 (w':=((w.alloc (.cells #[] 113)).setRow w.heap.size #[]).setRow b2 q0q) (qtf (q37 (T:=24) (cs:=q0q) g2 hi24 e24.1 hc2 (by simp[Value.oneCell']) (v:=.agg q0q) rfl)) ?_);have g3:(((w.alloc (.cells #[] 113)).setRow w.heap.size #[]).setRow b2 q0q).heap[b3]? =some (.cells c3 4 (0,0)):=by
  rw[q2q (fun e=>hne e.symm),q2q (by omega)];exact q0x h3
 refine q2r _ rfl rfl (z46 (w':=(((w.alloc (.cells #[] 113)).setRow w.heap.size #[]).setRow b2 q0q).setRow b3 #[.bool false]) (qtf (q37 (T:=4) (cs:= #[.bool false]) g3 hi4 e4.1 hc3 (by simp[Value.oneCell']) (v:=.bool false) rfl)) ?_);refine⟨rfl,_,rfl,.tuple #[],by kernel_rfl,rfl,⟨_,rfl⟩,?_,?_,setRow_heap _ _ _ _ _ _ g3⟩
 ·exact q4q (q4q (q4q ((But.refl _ w).alloc _) (.inr (uF _)) _) (.inl (.inl rfl)) _) (.inl (.inr rfl)) _
 ·rw[q2q hne];exact setRow_heap _ _ _ _ _ _ g2
theorem qw4(b2 b3:Nat)(w:World):
  CallsD uC 93 #[.pointer (some ⟨b2,0,none⟩),.pointer (some ⟨b3,0,none⟩)] .returning w fun e u' w'=>e=.returned (.tuple #[])∧u'=.returning∧w'=w:=by
 refine callsD_of_wpS kY rfl fun c₀ cs hu=>?_;apply wpS_seq;apply wpS_region;simp[wpOpsS,go_sem,recoverD,hu,kW,Exit.thenS];apply wpS_seq;apply wpS_region;simp[wpOpsS,go_sem,Exit.thenS];refine wpS_cond (t:=false) (by simp[Act.eval,Array.replicate]) ?_;simp only[gnF,if_false];refine wpS_of_wp (wp_skip ?_);cases c₀;simp_all [bodyPostS,results,Try.results93]
def z3h(g:List D→Option (List D)):List D→Option (List D):=fun ds=>match g ds with
 |some [.u]=>some [.a [.i 0,.i 0,.s ⟨#[]⟩,.r []],.b false]
 |some [d]=>some [d,.b true]
 |_=>none
theorem qz8{o:Oper}{a:Act}{w w':World}{K:Act→World→Prop}{Q:Exit→Act→World→Prop}{f:FuncId}{args:Array Value}{R:Ending→World→Prop}(h:(execOp a.eval o).run uC w=.ok (.enter f args) w')(hc:Calls uC f args w' R)
  (hr:∀v w'',R (.returned v) w''→K (a.put o.dst v) w'')(hp:∀ch w'',R (.panicked ch) w''→Q (.panic ch) a w'')(ho:∀w'',¬R .outgrown w''):o.wp uC a w K Q:=by
 unfold Oper.wp;rw[h];refine hc.mono ?_;intro e w'' hR;cases e with
 |returned v=>exact hr v w'' hR
 |panicked ch=>exact hp ch w'' hR
 |outgrown=>exact(ho w'' hR).elim
theorem qs2:zb 24=some q2h:=by kernel_rfl
theorem z5n:zb 4=some .bool:=by kernel_rfl
theorem z4d{t:Ty}{cs:List Value}{v v':Value}(h:ym t cs v)(h':ym t cs v'):v'=v:=by
 unfold ym at h h';split at h
 ·rw[h,h']
 ·rename_i hn;have h2:cs=[v']:=by
   cases t<;>first|exact h'|exact absurd rfl (hn _)
  rw[h] at h2;injection h2 with h2;exact h2.symm
theorem qdb{T:TypeId}{t:Ty}(h:zb T=some t){w:World}{F:Nat→Prop}{d:D}{cs:List Value}{v:Value}(hd:Rd w F d t cs)(hp:ym t cs v){b:Nat}{T':TypeId}(hb:w.heap[b]? =some (.cells cs.toArray T' (0,0))):(Instr.loadAt T (.pointer (some ⟨b,0,none⟩))).run uC w=.ok v w:=by
 have hr:w.rangeAt b 0 cs:=fun j u hj=>by
  rw[cell_of_row w b (0+j) _ T' (0,0) hb];simpa using hj
 obtain⟨v',h1,h2⟩:=q8r h hr hd;rw[←z4d hp h2];exact h1
theorem zbf{o:Oper}{a:Act}{w w':World}{K:Act→World→Prop}{Q:Exit→Act→World→Prop}{d:Deferred}(h:(execOp a.eval o).run uC w=.ok (.defer d) w')(hk:K ({a with defers:=d::a.defers}.put o.dst undef) w'):o.wp uC a w K Q:=by
 unfold Oper.wp;rw[h];exact hk
theorem qvc{T:TypeId}{v:Value}{cs:Array Value}{w:World}(hc:v.cells=cs):(Instr.box T v).run uC w=.ok (.pointer (some ⟨w.heap.size,0,none⟩)) (w.alloc (.cells cs T)):=by
 simp[Instr.box,newVar,newRow,newObj,hc,kV]
theorem qhm{T:TypeId}{z:Value}{w:World}{i:TypeInfo}(hi:uC.info? T=some i)(hz:i.zero=some z){n:Nat}(hn:n=w.heap.size):(Instr.alloc T true (.tuple #[])).run uC w=.ok (.pointer (some ⟨n,0,none⟩)) (w.alloc (.cells z.cells T)):=by
 subst hn;simp[Instr.alloc,zeroValue,typeInfo,hi,hz,newVar,newRow,newObj,kV]
theorem qiz{g:List D→Option (List D)}(hB:FOk jx g):FOk q17 (z3h g):=by
 refine⟨qds,fun A F0 p w vs us ds outs hg hflo hfo hpre hvl hargs=>?_,fun h=>absurd rfl h⟩;obtain⟨i24,hi24,e24⟩:=uG.1 qg2;obtain⟨i4,hi4,e4⟩:=uG.1 qq4;simp only[Prod.mk.injEq] at e24 e4;obtain⟨v,r,d,ds',hvs,rfl,⟨cs,hpk,hrd⟩,hr⟩:=hargs;obtain⟨rfl,rfl⟩:r=[]∧ds'=[]:=hr;obtain⟨rfl,rfl⟩:vs=[v]∧us=[]:=by
  cases vs with
  |nil=>cases hvl
  |cons a l=>
   have hl:l=[]:=kF.1 (Nat.succ.inj hvl);subst hl;simp only[kO,List.nil_append,List.cons.injEq] at hvs;exact⟨by rw[hvs.1],hvs.2⟩
 obtain⟨hlen,hone⟩:=Rd.len _ hrd;have hcells:v.cells=cs.toArray:=hpk.cells hone;have hrd3:=Rd.keeps (F':=FFD A p []) (w':=((w.alloc (.cells cs.toArray 24)).alloc (.cells q0q 24)).alloc (.cells #[.bool false] 4)) (fun b o hb ho=>⟨q0x (q0x (q0x ho)),hb⟩) _ hrd
 show Calls uC 69 #[v] w _
 refine calls_of_wp_defers Try.func69 rfl ?_;refine wp_seq (wp_region ?_);refine q21 (b:={tmps:= #[v,undef,undef,undef,undef,undef,undef],defers:=[]}) (by kernel_rfl) ?_;refine q2r _ rfl rfl (qdn (w':=(w.alloc (.cells cs.toArray 24))) (v:=.pointer (some ⟨w.heap.size,0,none⟩)) (qpp (qvc hcells)) ?_);refine q21 (b:={tmps:= #[v,(.pointer (some ⟨w.heap.size,0,none⟩)),undef,undef,undef,undef,undef],defers:=[]}) (by kernel_rfl) ?_;refine q2r _ rfl rfl (qdn (w':=((w.alloc (.cells cs.toArray 24)).alloc (.cells q0q 24))) (v:=.pointer (some ⟨w.heap.size+1,0,none⟩)) (qpp (qhm hi24 e24.2 (by simp))) ?_);refine q21 (b:={tmps:= #[v,(.pointer (some ⟨w.heap.size,0,none⟩)),(.pointer (some ⟨w.heap.size+1,0,none⟩)),undef,undef,undef,undef],defers:=[]}) (by kernel_rfl) ?_;refine q2r _ rfl rfl (qdn (w':=(((w.alloc (.cells cs.toArray 24)).alloc (.cells q0q 24)).alloc (.cells #[.bool false] 4))) (v:=.pointer (some ⟨w.heap.size+2,0,none⟩)) (qpp (qhm hi4 e4.2 (by simp))) ?_);refine q21 (b:={tmps:= #[v,(.pointer (some ⟨w.heap.size,0,none⟩)),(.pointer (some ⟨w.heap.size+1,0,none⟩)),(.pointer (some ⟨w.heap.size+2,0,none⟩)),undef,undef,undef],defers:=[]}) (by kernel_rfl) ?_;refine wp_seq (wp_region ?_);refine q2r _ rfl rfl (qdn (w':=(((w.alloc (.cells cs.toArray 24)).alloc (.cells q0q 24)).alloc (.cells #[.bool false] 4))) (v:=.func (.func 93) #[] #[.pointer (some ⟨w.heap.size+1,0,none⟩),.pointer (some ⟨w.heap.size+2,0,none⟩)]) (by kernel_rfl) ?_);refine q21 (b:={tmps:= #[v,(.pointer (some ⟨w.heap.size,0,none⟩)),(.pointer (some ⟨w.heap.size+1,0,none⟩)),(.pointer (some ⟨w.heap.size+2,0,none⟩)),(.func (.func 93) #[] #[.pointer (some ⟨w.heap.size+1,0,none⟩),.pointer (some ⟨w.heap.size+2,0,none⟩)]),undef,undef],defers:=[]}) (by kernel_rfl) ?_;refine q2r _ rfl rfl (zbf (w':=(((w.alloc (.cells cs.toArray 24)).alloc (.cells q0q 24)).alloc (.cells #[.bool false] 4))) (d:={target:=.fn (.func 93) #[.pointer (some ⟨w.heap.size+1,0,none⟩),.pointer (some ⟨w.heap.size+2,0,none⟩)],args:= #[]}) (by kernel_rfl) ?_);refine q21 (b:={tmps:= #[v,(.pointer (some ⟨w.heap.size,0,none⟩)),(.pointer (some ⟨w.heap.size+1,0,none⟩)),(.pointer (some ⟨w.heap.size+2,0,none⟩)),(.func (.func 93) #[] #[.pointer (some ⟨w.heap.size+1,0,none⟩),.pointer (some ⟨w.heap.size+2,0,none⟩)]),undef,undef],defers:=[{target:=.fn (.func 93) #[.pointer (some ⟨w.heap.size+1,0,none⟩),.pointer (some ⟨w.heap.size+2,0,none⟩)],args:= #[]}]}) (by kernel_rfl) ?_;refine wp_seq (wp_region ?_);refine q2r _ rfl rfl (qdn (w':=(((w.alloc (.cells cs.toArray 24)).alloc (.cells q0q 24)).alloc (.cells #[.bool false] 4))) (v:=v) (qpp (qdb qs2 hrd3 hpk (q0x (q0x (q1p rfl))))) ?_)
 refine q21 (b:={tmps:= #[v,(.pointer (some ⟨w.heap.size,0,none⟩)),(.pointer (some ⟨w.heap.size+1,0,none⟩)),(.pointer (some ⟨w.heap.size+2,0,none⟩)),(.func (.func 93) #[] #[.pointer (some ⟨w.heap.size+1,0,none⟩),.pointer (some ⟨w.heap.size+2,0,none⟩)]),v,undef],defers:=[{target:=.fn (.func 93) #[.pointer (some ⟨w.heap.size+1,0,none⟩),.pointer (some ⟨w.heap.size+2,0,none⟩)],args:= #[]}]}) (by kernel_rfl) ?_;have hB2:(((w.alloc (.cells cs.toArray 24)).alloc (.cells q0q 24)).alloc (.cells #[.bool false] 4)).heap[w.heap.size+1]? =some (.cells q0q 24 (0,0)):=q0x (q1p (by simp));have hB3:(((w.alloc (.cells cs.toArray 24)).alloc (.cells q0q 24)).alloc (.cells #[.bool false] 4)).heap[w.heap.size+2]? =some (.cells #[.bool false] 4 (0,0)):=q1p (by simp);have hsz3:(((w.alloc (.cells cs.toArray 24)).alloc (.cells q0q 24)).alloc (.cells #[.bool false] 4)).heap.size=w.heap.size+3:=by simp
 have hbut3:But (pinned p) w (((w.alloc (.cells cs.toArray 24)).alloc (.cells q0q 24)).alloc (.cells #[.bool false] 4)):=(((But.refl _ w).alloc _).alloc _).alloc _;have hall3:∀b,b<w.heap.size→(((w.alloc (.cells cs.toArray 24)).alloc (.cells q0q 24)).alloc (.cells #[.bool false] 4)).heap[b]? =w.heap[b]? :=fun b hb=>((((But.refl Nil w).alloc _).alloc _).alloc _).block b hb id;have hold:∀b o,w.heap[b]? =some o→(((w.alloc (.cells cs.toArray 24)).alloc (.cells q0q 24)).alloc (.cells #[.bool false] 4)).heap[b]? =some o:=fun b o h=>q0x (q0x (q0x h));clear hrd3;generalize (((w.alloc (.cells cs.toArray 24)).alloc (.cells q0q 24)).alloc (.cells #[.bool false] 4))=w3 at *;have hb2:w3.heap[w.heap.size+1]? =some (.cells q0q 24 (0,0)):=hB2
 have hpre2:Pre jx.ar.length (fun b=>A b∧qa0 p b∧b≠w.heap.size+1∧b≠w.heap.size+2) .no (fun _=>none) w3:=
  ⟨(fun x y b h=>by cases h),(fun x b h=>by cases h),(fun x b h=>by cases h),(fun x b h=>by cases h),(fun b hb=>⟨⟨(hpre.new b (by omega)).1,(fun x hx=>by have:=hpre.bd x b hx;omega),by omega,by omega⟩,trivial⟩),(fun x b h=>by cases h)⟩
 have hrd2:Rd w3 (FFD (fun b=>A b∧qa0 p b∧b≠w.heap.size+1∧b≠w.heap.size+2) (fun _=>none) []) d q2h cs:=Rd.keeps (F:=FFD A p []) (w:=w) (fun b o hb ho=>⟨hold b o ho,by
  have hlt:=yo ho;rcases hb with⟨h1,h2⟩|⟨x,hx,-⟩
  ·exact .inl ⟨⟨h1,h2,by omega,by omega⟩,fun x hx=>by cases hx⟩
  ·cases hx⟩) _ hrd
 have hen:∀(args:Array Value)(w:World),(callFunc 94 args).run uC w=.ok (.enter 94 args) w:=q4s;have hcall:∀o1,g [d]=some o1→_:=fun o1 h1=>hB.call (fun b=>A b∧qa0 p b∧b≠w.heap.size+1∧b≠w.heap.size+2) .no (fun _=>none) w3 [v] [] [d] o1 h1 (qde.of0 fun _=>rfl) Flo.no hpre2 rfl ⟨v,[],d,[],rfl,rfl,⟨cs,hpk,hrd2⟩,rfl,rfl⟩
 have hrun6:∀(w':World)(c2:List Value)(b:Bool)(d2:D)(F:Nat→Prop),w'.heap[w.heap.size+1]? =some (.cells c2.toArray 24 (0,0))→Rd w' F d2 q2h c2→w'.heap[w.heap.size+2]? =some (.cells #[.bool b] 4 (0,0))→
   ∀tmps:Array Value,tmps.getD 2 undef=.pointer (some ⟨w.heap.size+1,0,none⟩)→tmps.getD 3 undef=.pointer (some ⟨w.heap.size+2,0,none⟩)→(results Try.f69 tmps).run uC w'=.ok (qno [.agg c2.toArray,.bool b]) w':=by
  intro w' c2 b d2 F h2 hd2 h3 tmps e2 e3;refine qhr ?_;rw[Try.results69];refine⟨_,_,rfl,?_,_,_,rfl,?_,rfl⟩
  ·show(do loadVar 24 (←asAddr (tmps.getD 2 undef))).run _ _=_
   rw[e2];have:=qdb qs2 hd2 (v:=.agg c2.toArray) rfl h2;simpa[asAddr,Instr.loadAt,Instr.sureAddr] using this
  ·show(do loadVar 4 (←asAddr (tmps.getD 3 undef))).run _ _=_
   rw[e3];have:=qdb (w:=w') (F:=F) (d:=.b b) z5n ⟨rfl,rfl⟩ (v:=.bool b) rfl h3;simpa[asAddr,Instr.loadAt,Instr.sureAddr] using this
 have hfinBs:∀w',But (pinned p) w w'→(∀b,b<w.heap.size→w'.heap[b]? =w.heap[b]?)→Bs A F0 w (pinned p) p w':=fun w' hb hs=>
  ⟨hpre.inj,(fun x b hx=>Nat.lt_of_lt_of_le (hpre.bd x b hx) hb.size),hb,(fun x b hx=>.inl ⟨x,hx⟩),hpre.new,hpre.pa,(fun x b hx=>(hpre.obj x b hx).same (hs b (hpre.bd x b hx))),hfo.same fun k hk _=>hs k hk⟩
 have hz:∀(w':World)(F:Nat→Prop),Rd w' F (.a [.i 0,.i 0,.s ⟨#[]⟩,.r []]) q2h q0q.toList:=fun w' F=>
  ⟨_,[.int .i64,.int .i64,.str,q8l],rfl,rfl,_,_,[.int .i64 0],_,rfl,rfl,.inl ⟨.i64,rfl,rfl,rfl⟩,_,_,[.int .i64 0],_,rfl,rfl,.inl ⟨.i64,rfl,rfl,rfl⟩,_,_,[.string ⟨#[]⟩],_,rfl,rfl,⟨rfl,rfl,uE _⟩,
   _,_,[.slice none 0 0],_,rfl,rfl,⟨_,q2h,none,0,rfl,qs2,rfl,uF _,uE _,uE _,trivial⟩,rfl,rfl⟩
 have hnp:∀b,¬pinned (fun _=>none) b:=fun b⟨x,hx⟩=>by cases hx
 have hpn:∀k,¬pinned p (w.heap.size+k):=fun k⟨x,hx⟩=>by have:=hpre.bd x _ hx;omega
 have hex:(execOp (({tmps:= #[v,.pointer (some ⟨w.heap.size,0,none⟩),.pointer (some ⟨w.heap.size+1,0,none⟩),.pointer (some ⟨w.heap.size+2,0,none⟩),(.func (.func 93) #[] #[.pointer (some ⟨w.heap.size+1,0,none⟩),.pointer (some ⟨w.heap.size+2,0,none⟩)]),v,undef],defers:=[{target:=.fn (.func 93) #[.pointer (some ⟨w.heap.size+1,0,none⟩),.pointer (some ⟨w.heap.size+2,0,none⟩)],args:= #[]}]}:Act)).eval {dst:=some 6,op:=.call {callee:=.value (.func 94),args:= #[.tmp 5],argTypes:= #[24]},type:=24,pos:= "body.go:46",after:= #[{on:=0,ground:=Ground.data}],guard:=none}).run uC w3=.ok (.enter 94 #[v]) w3:=by
  simp[execOp,resolve,Deferred.ofValue,invoke,hen,Act.eval]
 unfold z3h at hg;split at hg
 ·rename_i hgd;injection hg with hg;subst hg;refine q2r _ rfl rfl (qz8 hex (hcall _ hgd) ?_ ?_ ?_)
  ·rintro v4 w4(⟨T,-,-,e,-⟩|⟨rs,p',e,hbs,⟨v5,r5,d5,ds5,rfl,hd5,⟨cs5,hpk5,hcon5⟩,-⟩,-⟩)
   ·cases e
   ·exfalso;injection hd5 with hd5 _;subst hd5;obtain⟨fs,dd,-,e,-⟩:=hcon5;cases e
  ·rintro ch w4(⟨T,hT,-,e,hb4⟩|⟨rs,p',e,-⟩)
   ·injection e with e;subst e;injection hT with hT;subst hT;refine leaves_cons (f:=93) (args:= #[.pointer (some ⟨w.heap.size+1,0,none⟩),.pointer (some ⟨w.heap.size+2,0,none⟩)]) (by simp) (by kernel_rfl) ?_;refine(qzq (w.heap.size+1) (w.heap.size+2) w4 (hb4.heap (hnp _) hB2) rfl (hb4.heap (hnp _) hB3) rfl (by omega)).mono ?_;rintro e u' w'⟨rfl,⟨v',rfl⟩,hbt,h2,h3⟩;have hall:∀b,b<w.heap.size→w'.heap[b]? =w.heap[b]? :=fun b hb=>by
     rw[hbt.block b (by have:=hb4.size;omega) (by rintro(h|h)<;>omega),hb4.block b (by omega) (hnp b)];exact hall3 b hb
    have hbw:But (pinned p) w w':=(hbut3.trans (hb4.mono (S':=pinned p) fun k hk _=>(hnp k hk).elim) fun k hk _=>.inl hk).trans hbt fun k hk _=>.inr (by rcases hk with h|h<;>omega);refine⟨_,hrun6 w' q0q.toList false _ _ h2 (hz w' (FFD A p [])) h3 _ (by kernel_rfl) (by kernel_rfl),.inr ⟨[.agg q0q,.bool false],p,rfl,hfinBs w' hbw hall,?_,rfl⟩⟩;exact⟨_,_,_,_,rfl,rfl,⟨q0q.toList,rfl,Con.of_rd (hz w' _)⟩,_,_,_,_,rfl,rfl,⟨[.bool false],rfl,⟨rfl,rfl⟩⟩,rfl⟩
   ·cases e
  ·rintro w4(⟨T,-,-,e,-⟩|⟨rs,p',e,-⟩)<;>cases e
 ·rename_i d1 hd1 hgd;injection hg with hg;subst hg;refine q2r _ rfl rfl (qz8 hex (hcall _ hgd) ?_ ?_ ?_)
  ·rintro v4 w4(⟨T,-,-,e,-⟩|⟨rs,p',e,hbs,⟨v5,r5,d5,ds5,rfl,hd5,⟨cs5,hpk5,hcon5⟩,hr5⟩,-⟩)
   ·cases e
   ·obtain rfl:r5=[]:=hr5;injection e with e;obtain rfl:v4=v5:=e;injection hd5 with hd5 _;subst hd5;have hcon5:Con _ p' w4 d1 q2h [] [] cs5:=hcon5;obtain⟨hlen5,hone5⟩:=hcon5.len;have hw4:q2h.w=4:=by kernel_rfl
    rw[hw4] at hlen5;have hb4:=hbs.but;have hg2:w4.heap[w.heap.size+1]? =some (.cells q0q 24 (0,0)):=hb4.heap (hnp _) hB2;have hg3:w4.heap[w.heap.size+2]? =some (.cells #[.bool false] 4 (0,0)):=hb4.heap (hnp _) hB3;refine q21 (b:={tmps:= #[v,.pointer (some ⟨w.heap.size,0,none⟩),.pointer (some ⟨w.heap.size+1,0,none⟩),.pointer (some ⟨w.heap.size+2,0,none⟩),(.func (.func 93) #[] #[.pointer (some ⟨w.heap.size+1,0,none⟩),.pointer (some ⟨w.heap.size+2,0,none⟩)]),v,v4],defers:=[{target:=.fn (.func 93) #[.pointer (some ⟨w.heap.size+1,0,none⟩),.pointer (some ⟨w.heap.size+2,0,none⟩)],args:= #[]}]}) (by kernel_rfl) ?_;refine q2r _ rfl rfl (z46 (w':=w4.setRow (w.heap.size+1) cs5.toArray) (qtf (q37 (T:=24) (cs:=cs5.toArray) hg2 hi24 (by simp[e24.1,hlen5]) (by simp[hlen5]) hone5 (v:=v4) (hpk5.cells hone5))) ?_);have hg3':(w4.setRow (w.heap.size+1) cs5.toArray).heap[w.heap.size+2]? =some (.cells #[.bool false] 4 (0,0)):=by
     rw[q2q (by omega)];exact hg3
    refine q2r _ rfl rfl (z46 (w':=(w4.setRow (w.heap.size+1) cs5.toArray).setRow (w.heap.size+2) #[.bool true]) (qtf (q37 (T:=4) (cs:= #[.bool true]) hg3' hi4 e4.1 rfl (by simp[Value.oneCell']) (v:=.bool true) rfl)) ?_)
    show Code.wp uC .ret _ _ _
    refine wp_ret ?_;refine leaves_cons (f:=93) (args:= #[.pointer (some ⟨w.heap.size+1,0,none⟩),.pointer (some ⟨w.heap.size+2,0,none⟩)]) (by simp) (by kernel_rfl) ?_;refine(qw4 (w.heap.size+1) (w.heap.size+2) _).mono ?_;rintro e u' w'⟨rfl,rfl,rfl⟩;have hall:∀b,b≠w.heap.size+1→b≠w.heap.size+2→((w4.setRow (w.heap.size+1) cs5.toArray).setRow (w.heap.size+2) #[.bool true]).heap[b]? =w4.heap[b]? :=fun b h1 h2=>by
     rw[q2q h2,q2q h1]
    have h3:=setRow_heap _ _ _ #[.bool true] _ _ hg3';have h2:((w4.setRow (w.heap.size+1) cs5.toArray).setRow (w.heap.size+2) #[.bool true]).heap[w.heap.size+1]? =some (.cells cs5.toArray 24 (0,0)):=by
     rw[q2q (by omega)];exact setRow_heap _ _ _ _ _ _ hg2
    have hbw:But (pinned p) w ((w4.setRow (w.heap.size+1) cs5.toArray).setRow (w.heap.size+2) #[.bool true]):=
     q4q (q4q (hbut3.trans (hb4.mono (S':=pinned p) fun k hk _=>(hnp k hk).elim) fun k hk _=>.inl hk) (.inr (by omega)) _) (.inr (by omega)) _
    have hrd5:Rd ((w4.setRow (w.heap.size+1) cs5.toArray).setRow (w.heap.size+2) #[.bool true]) (FFD A p []) d1 q2h cs5:=Rd.keeps (F:=FFD _ p' []) (w:=w4) (fun b o hb ho=>by
     rcases hb with⟨⟨h1,h2,h3,h4⟩,-⟩|⟨x,hx,-⟩
     ·exact⟨(hall b h3 h4).trans ho,.inl ⟨h1,h2⟩⟩
     ·cases hx) _ (hcon5.rd (dep':=[]) (fun x hx=>by cases hx) (fun x hx=>by cases hx))
    refine⟨_,hrun6 _ cs5 true _ _ h2 hrd5 h3 _ (by kernel_rfl) (by kernel_rfl),.inr ⟨[.agg cs5.toArray,.bool true],p,rfl,hfinBs _ hbw (fun b hb=>?_),?_,rfl⟩⟩
    ·rw[hall b (by omega) (by omega),hb4.block b (by omega) (hnp b)];exact hall3 b hb
    ·exact⟨_,_,_,_,rfl,rfl,⟨cs5,rfl,Con.of_rd hrd5⟩,_,_,_,_,rfl,rfl,⟨[.bool true],rfl,⟨rfl,rfl⟩⟩,rfl⟩
  ·rintro ch w4(⟨T,hT,e0,e,hb4⟩|⟨rs,p',e,-⟩)
   ·injection e0 with e0;exact(hd1 e0).elim
   ·cases e
  ·rintro w4(⟨T,-,-,e,-⟩|⟨rs,p',e,-⟩)<;>cases e
 ·cases hg
end
abbrev qkt:ByteArray:=⟨#[99,97,108,108]⟩
abbrev q51:ByteArray:=⟨#[44]⟩
abbrev q5y:ByteArray:=⟨#[59]⟩
abbrev q1g:ByteArray:=⟨#[45,62]⟩
abbrev z7q:ByteArray:=⟨#[33]⟩
theorem qq0{k n:Int}{s:ByteArray}{l:List Te}(h:y7 (.mk k n s l)=true){a:Te}(ha:a∈l):y7 a=true:=by
 rw[qdy] at h⊢;obtain⟨h1,h2⟩:=h;rw[szT] at h1;rw[q02,gnB] at h2;have:=ql1 ha;exact⟨by omega,qbh.1 h2.2 a ha⟩
theorem q78{t:Te}(h:y7 t=true){j:Nat}(hj:j<t.l.length):y7 (t.l.getD j default)=true:=by
 cases t with
 |mk k n s l=>exact qq0 h (qkk hj)
def isT(t:Te)(s:ByteArray)(n:Int):Bool:=((decide (t.k=2)||decide (t.k=3))&&decide (t.s=s))&&decide ((t.l.length:Int)=n)
def gIs:List D→Option (List D)
 |[t,s,n]=>some [.b (isT (dT t) s.str n.int)]
 |_=>none
theorem qt2:FOk q22 gIs:=qqv fun ds outs hw hg=>by
 obtain⟨d,r,rfl,hd,e,r',rfl,he,e2,r2,rfl,he2,rfl⟩:=hw;obtain⟨t,rfl,ht⟩:=wfT hd;obtain⟨s,rfl,hs⟩:=he.str;obtain⟨n,rfl,hn⟩:=wfI he2;simp only[gIs,zw,qf,qe,uA] at hg;subst hg;simp only[q98,gnZ,gnT,isT]
def qa5(t:Te):Bool:=(isT t q51 2||isT t q5y 2)||isT t q1g 2
theorem qkg:FOk q0g (gTb qa5):=qij qt2 fun ds outs hw hg=>by
 obtain⟨d,r,rfl,hd,rfl⟩:=hw;obtain⟨t,rfl,ht⟩:=wfT hd;simp only[gTb,zw,uA] at hg;subst hg;simp only[q4m,gnZ,gnT,gIs,qa5]
def q0l(t:Te):Bool:=(decide (t.k=3)&&decide ((t.l.length:Int)=2))&&((decide (t.s=q51)||decide (t.s=q5y))||decide (t.s=q1g))
theorem q7v:FOk jb (gTb q0l):=qjb fun ds outs hw hg=>by
 obtain⟨d,r,rfl,hd,rfl⟩:=hw;obtain⟨t,rfl,ht⟩:=wfT hd;simp only[gTb,zw,uA] at hg;subst hg;simp only[q4x,gnZ,gnT,q0l]
def qd0(t:Te):Bool:=decide (t.k=2)||decide (t.k=3)
theorem q5g:FOk yp (gTb qd0):=qez fun ds outs hw hg=>by
 obtain⟨d,r,rfl,hd,rfl⟩:=hw;obtain⟨t,rfl,ht⟩:=wfT hd;simp only[gTb,zw,uA] at hg;subst hg;simp only[q3k,gnZ,gnT,qd0]
mutual
/-- The conversion to a goal. -/
def jv:Te→Option Te
 | .mk k n s l => if k = 0 then some (.mk 3 0 qkt [.mk k n s l])
  else if q0l (.mk k n s l) then(match q3e l with
   |some m=>some (.mk 3 0 s m)
   |none=>none)
  else if qd0 (.mk k n s l) then some (.mk k n s l) else none
def q3e:List Te→Option (List Te)
 |[]=>some []
 |t::l=>match jv t,q3e l with
  |some x,some m=>some (x::m)
  |_,_=>none
end
theorem qmy(t:Te):jv t=if t.k=0 then some (.mk 3 0 qkt [t]) else if q0l t then(match q3e t.l with|some m=>some (.mk 3 0 t.s m)|none=>none) else if qd0 t then some t else none:=by
 cases t;rw[jv];rfl
theorem q54{t:Te}(h:q0l t=true):t.l.length=2∧t.k=3:=by
 simp only[q0l,gnB,gnD] at h;exact⟨by omega,h.1.1⟩
theorem z3a{l:List Te}(h:l.length=2):l=[l.getD 0 default,l.getD 1 default]:=by
 match l,h with
 |[a,b],_=>rfl
def q7o:List D→Option (List D)
 |[t]=>if y7 (dT t) then(match jv (dT t) with
  |some u=>some [eT u]
  |none=>some [.u]) else none
 |_=>none
def gR(g:List D→Option (List D)):List D→Option (List D):=fun ds=>match g ds with
 |some [.u]=>none
 |r=>r
theorem z87{g:List D→Option (List D)}{ds outs:List D}(h:gR g ds=some outs):g ds=some outs:=by
 unfold gR at h;split at h
 ·cases h
 ·exact h
theorem z8n{g:List D→Option (List D)}{ds:List D}:gR g ds≠some [.u]:=by
 unfold gR;split
 ·simp
 ·rename_i h;exact fun e=>h e
theorem za9:z8d jx [.u]:=fun A p w n rs h=>by
 obtain⟨v,r,d,ds',-,e,⟨cs,-,hc⟩,-⟩:=h;have e:[D.u]=d::ds':=e;injection e with e _;subst e;obtain⟨fs,dd,-,e,-⟩:=hc;cases e
theorem z5e{a b c x y:D}(h:x=.u∨y=.u):z8d jx [.a [a,b,c,.r [x,y]]]:=fun A p w n rs hr=>by
 obtain⟨v,r,d,ds',-,e,⟨cs,-,hc⟩,-⟩:=hr;have e:[D.a [a,b,c,.r [x,y]]]=d::ds':=e;injection e with e _;subst e;have hrd:Rd w (FFD A p []) (D.a [a,b,c,.r [x,y]]) q2h cs:=hc.rd (fun x hx=>by cases hx) (fun x hx=>by cases hx);obtain⟨T,fs,-,-,t1,ts1,c1,c2,-,-,-,t2,ts2,c3,c4,-,-,-,t3,ts3,c5,c6,-,-,-,t4,ts4,c7,c8,-,-,h4,-⟩:=hrd;obtain⟨E,te,A',cap,-,-,-,-,-,-,⟨b1,o1,cs1,-,-,-,q1⟩,⟨b2,o2,cs2,-,-,-,q2⟩,-⟩:=h4;rcases h with rfl|rfl
 ·exact q1
 ·exact q2
theorem qp3:FOk jx q7o:=q2d (m:=mT) q4s fun N ih=>FOk.of_at q4s fun ds outs hw hg=>by
 obtain⟨d,r,rfl,hd,rfl⟩:=hw;obtain⟨t,rfl,ht⟩:=wfT hd;simp only[q01,mT,q7o,uD,zw,uB] at hg;obtain⟨hsz,hv,hg⟩:=hg;have arg:∀j,j<t.l.length→q01 mT N q7o [eT (t.l.getD j default)]=(match jv (t.l.getD j default) with|some u=>some [eT u]|none=>some [.u]):=fun j hj=>by
  have:=q3g hj;simp only[q01,mT,uD,zw,if_pos (show szT (t.l.getD j default)<N by omega),q7o,q78 hv hj,if_true]
 have two:q0l t=true→q3e t.l=match jv (t.l.getD 0 default),jv (t.l.getD 1 default) with|some x,some y=>some [x,y]|_,_=>none:=fun hb=>by
  have:=z3a (q54 hb).1;generalize t.l.getD 0 default=a at *;generalize t.l.getD 1 default=b at *;rw[this];simp only[q3e];cases jv a<;>cases jv b<;>rfl
 rw[qmy] at hg;cases hb:jv t with
 | some u =>
  rw[qmy] at hb;rw[hb] at hg;simp only[uA] at hg;subst hg;refine z6a (tbl:=[(jb,gTb q0l),(jx,gR (q01 mT N q7o)),(yp,gTb qd0),(yj,gTT q3x)]) q7b kZ _ (.cons q7v (.cons (ih.sub fun _ _ h=>z87 h) (.cons q5g (.cons q43 .nil)))) rfl rfl (by decide) (fun e he ds hp=>?_) (by cases u;simp[eT]) ?_
  ·simp only[uT,kN,or_false] at he;rcases he with rfl|rfl|rfl|rfl
   ·exact absurd rfl hp
   ·exact z8n
   ·exact absurd rfl hp
   ·exact absurd rfl hp
  rw[qac _ _ _ _ _ rfl];rw[q6h,qd];refine⟨fun h=>?_,fun h=>?_⟩
  ·simp only[gnZ,gnT] at h;rw[if_pos h,uA] at hb;subst hb;simp only[gnZ,gnT,q6k,uH,uU];rfl
  ·simp only[gnZ,gnT] at h;rw[if_neg h] at hb;simp only[gnZ,gnT,gTb,gTT];refine⟨fun hbr=>?_,fun hbr=>⟨fun hc=>?_,fun hc=>?_⟩⟩
   ·obtain⟨h2,h3⟩:=q54 hbr;rw[if_pos hbr,two hbr] at hb;have a0:=arg 0 (by omega);have a1:=arg 1 (by omega);cases b0:jv (t.l.getD 0 default) with
    |none=>rw[b0] at hb;cases hb
    | some x =>
     cases b1:jv (t.l.getD 1 default) with
     |none=>rw[b0,b1] at hb;cases hb
     |some y=>
      rw[b0,b1] at hb;simp only[uA] at hb;subst hb;rw[b0] at a0;rw[b1] at a1;have g0:(D.r (t.l.map eT)).get 0=eT (t.l.getD 0 default):=q12 (k:=0) (by omega);have g1:(D.r (t.l.map eT)).get 1=eT (t.l.getD 1 default):=q12 (k:=1) (by omega);have r0:gR (q01 mT N q7o) [eT (t.l.getD 0 default)]=some [eT x]:=by unfold gR;rw[a0];cases x;simp[eT]
      have r1:gR (q01 mT N q7o) [eT (t.l.getD 1 default)]=some [eT y]:=by unfold gR;rw[a1];cases y;simp[eT]
      have hl2:(t.l.length:Int)=2:=by omega
      simp only[gnZ,gnT,g0,g1,r0,r1,q6k,uH,uU,z8k,hl2];exact⟨by decide,rfl⟩
   ·rw[if_neg (by simp[hbr]),if_pos hc,uA] at hb;subst hb;simp only[gnZ,gnT,gTT,qpq hv]
   ·rw[if_neg (by simp[hbr]),if_neg (by simp[hc])] at hb;cases hb
 | none =>
  rw[qmy] at hb;rw[hb] at hg;simp only[uA] at hg;subst hg;refine z62 (tbl:=[(jb,gTb q0l),(jx,q01 mT N q7o),(yp,gTb qd0),(yj,gTT q3x)]) q7b kZ _ (.cons q7v (.cons ih (.cons q5g (.cons q43 .nil)))) rfl rfl (by decide) rfl (fun e he T' hT=>?_) ?_
  ·simp only[uT,kN,or_false] at he;rcases he with rfl|rfl|rfl|rfl
   ·cases hT
   ·injection hT with hT;exact hT.symm
   ·cases hT
   ·cases hT
  rw[qac _ _ _ _ _ rfl];rw[q6h,qd];refine⟨fun h=>?_,fun h=>?_⟩
  ·simp only[gnZ,gnT] at h;rw[if_pos h] at hb;cases hb
  ·simp only[gnZ,gnT] at h;rw[if_neg h] at hb;simp only[gnZ,gnT,gTb,gTT];refine⟨fun hbr=>?_,fun hbr=>⟨fun hc=>?_,fun hc=>?_⟩⟩
   ·obtain⟨h2,h3⟩:=q54 hbr;rw[if_pos hbr,two hbr] at hb;have a0:=arg 0 (by omega);have a1:=arg 1 (by omega);have g0:(D.r (t.l.map eT)).get 0=eT (t.l.getD 0 default):=q12 (k:=0) (by omega);have g1:(D.r (t.l.map eT)).get 1=eT (t.l.getD 1 default):=q12 (k:=1) (by omega);have ok0:(q01 mT N q7o [eT (t.l.getD 0 default)]).isSome=true:=by rw[a0];cases jv (t.l.getD 0 default)<;>rfl
    have ok1:(q01 mT N q7o [eT (t.l.getD 1 default)]).isSome=true:=by rw[a1];cases jv (t.l.getD 1 default)<;>rfl
    simp only[gnZ,gnT,g0,g1,ok0,ok1];refine⟨by simp;omega,?_⟩;refine z5e ?_;rw[a0,a1];cases b0:jv (t.l.getD 0 default) with
    |none=>exact .inl rfl
    |some x=>
     cases b1:jv (t.l.getD 1 default) with
     |none=>exact .inr rfl
     |some y=>rw[b0,b1] at hb;cases hb
   ·rw[if_neg (by simp[hbr]),if_pos hc] at hb;cases hb
   ·exact za9
def z2p(t:Te):Te×Bool:=match jv t with
 |some u=>(u,true)
 |none=>(zT,false)
def gCv(f:Te→Te×Bool):List D→Option (List D)
 |[t]=>if y7 (dT t) then some [eT (f (dT t)).1,.b (f (dT t)).2] else none
 |_=>none
theorem qsd:FOk q17 (gCv z2p):=(qiz qp3).subW fun ds outs hw hg=>by
 obtain⟨d,r,rfl,hd,rfl⟩:=hw;obtain⟨t,rfl,ht⟩:=wfT hd;simp only[gCv,zw,uB,uA] at hg;obtain⟨hv,rfl⟩:=hg;unfold z3h z2p;simp only[q7o,zw,hv,if_true];cases jv t with
 |none=>rfl
 |some u=>
  cases u;simp[eT]
mutual
def qa9:Te→Te×Bool
 |.mk k n s l=>if k=0 then(.mk 3 0 qkt [.mk k n s l],true) else if k=1 then(zT,false)
  else if qa5 (.mk k n s l) then(.mk 3 0 s ((q69 l).map (·.1)),(q69 l).all (·.2)) else(q3x (.mk k n s l),true)
def q69:List Te→List (Te×Bool)
 |[]=>[]
 |t::l=>qa9 t::q69 l
end
theorem z5b(t:Te):qa9 t=if t.k=0 then(.mk 3 0 qkt [t],true) else if t.k=1 then(zT,false) else if qa5 t then(.mk 3 0 t.s ((q69 t.l).map (·.1)),(q69 t.l).all (·.2)) else(q3x t,true):=by
 cases t;rw[qa9];rfl
theorem z08{t:Te}(h:qa5 t=true):t.l.length=2:=by
 simp only[qa5,isT,uP,gnB,gnD] at h;omega
theorem qzt:FOk jr (gCv qa9):=q2d (m:=mT) q6l fun N ih=>qfk qkg qn2 ih fun ds outs hw hg=>by
 obtain⟨d,r,rfl,hd,rfl⟩:=hw;obtain⟨t,rfl,ht⟩:=wfT hd;simp only[q01,mT,gCv,uD,zw,uB,uA] at hg;obtain⟨hsz,hv,rfl⟩:=hg;rw[q3j,z5b,qd];refine⟨fun h=>?_,fun h=>?_⟩
 ·simp only[gnZ,gnT] at h;rw[if_pos h];simp only[gnZ,gnT,q6k,uH,uU];rfl
 ·simp only[gnZ,gnT] at h;rw[if_neg h,qd];refine⟨fun h1=>?_,fun h1=>?_⟩
  ·simp only[gnZ,gnT] at h1;rw[if_pos h1];simp only[gnZ,gnT]
  ·simp only[gnZ,gnT] at h1;rw[if_neg h1];simp only[gnZ,gnT,gTb,gTT];refine⟨fun hj=>?_,fun hj=>?_⟩
   ·rw[if_neg (by simpa using hj)]
   ·have hj:qa5 t=true:=by simpa using hj
    have hl:=z08 hj;rw[if_pos hj];have s0:=q3g (t:=t) (k:=0) (by omega);have s1:=q3g (t:=t) (k:=1) (by omega);have g0:(D.r (t.l.map eT)).get 0=eT (t.l.getD 0 default):=q12 (k:=0) (by omega);have g1:(D.r (t.l.map eT)).get 1=eT (t.l.getD 1 default):=q12 (k:=1) (by omega);have e:=z3a hl;have v0:=q78 hv (j:=0) (by omega);have v1:=q78 hv (j:=1) (by omega);have hl2:(t.l.length:Int)=2:=by omega
    have ec:q69 t.l=[qa9 (t.l.getD 0 default),qa9 (t.l.getD 1 default)]:=by
     generalize t.l.getD 0 default=a at *;generalize t.l.getD 1 default=b at *;rw[e];rfl
    simp only[gnZ,gnT,g0,g1,q01,mT,gCv,if_pos (show szT (t.l.getD 0 default)<N by omega),if_pos (show szT (t.l.getD 1 default)<N by omega),v0,v1,if_true,hl2,ec,q6k,uH,uU,z8k];refine⟨by decide,?_⟩;simp;rfl
theorem qlg{t:Te}(h:y7 t=true):t.k=0∨t.k=1∨(t.k=2∧t.l.length=0)∨(t.k=3∧1≤t.l.length):=by
 have h:=((q73 t).1 (qdy.1 h).2).1;unfold q9m at h;split at h
 ·exact .inl (by assumption)
 split at h
 ·exact .inr (.inl (by assumption))
 split at h
 ·rename_i h2;simp only[gnB,gnD] at h;exact .inr (.inr (.inl ⟨h2,by omega⟩))
 split at h
 ·rename_i h3;simp only[gnB,gnD] at h;exact .inr (.inr (.inr ⟨h3,by omega⟩))
 ·cases h
theorem qsj{t:Te}(h:y7 t=true):qa5 t=q0l t:=by
 have hk:=qlg h;rw[kD];simp only[qa5,isT,q0l,uP,gnB,gnD];constructor
 ·rintro((⟨⟨h1,h2⟩,h3⟩|⟨⟨h1,h2⟩,h3⟩)|⟨⟨h1,h2⟩,h3⟩)
  ·exact⟨⟨by omega,by omega⟩,.inl (.inl h2)⟩
  ·exact⟨⟨by omega,by omega⟩,.inl (.inr h2)⟩
  ·exact⟨⟨by omega,by omega⟩,.inr h2⟩
 ·rintro⟨⟨h1,h2⟩,(h3|h3)|h3⟩
  ·exact .inl (.inl ⟨⟨.inr h1,h3⟩,by omega⟩)
  ·exact .inl (.inr ⟨⟨.inr h1,h3⟩,by omega⟩)
  ·exact .inr ⟨⟨.inr h1,h3⟩,by omega⟩
mutual
theorem z68:∀(t:Te),y7 t=true→(match jv t with|some u=>qa9 t=(u,true)|none=>(qa9 t).2=false)
 | .mk k n s l, hv => by
  have hj:=qsj hv;have hk:=qlg hv;rw[jv,qa9];by_cases h0:k=0
  ·rw[if_pos h0,if_pos h0]
  rw[if_neg h0,if_neg h0];by_cases h1:k=1
  ·subst h1;rw[if_pos rfl,if_neg (by simp[q0l,Te.k]),if_neg (by simp[qd0,Te.k])]
  rw[if_neg h1,hj];by_cases hb:q0l (.mk k n s l)=true
  ·rw[if_pos hb,if_pos hb];have ih:=qu4 l fun a ha=>qq0 hv ha;cases hm:q3e l with
   |some m=>
    rw[hm] at ih
    show(_,_)=_
    rw[ih.1,ih.2]
   |none=>
    rw[hm] at ih;exact ih
  ·rw[if_neg hb,if_neg hb];have hc:qd0 (.mk k n s l)=true:=by
    have hk:k=0∨k=1∨(k=2∧l.length=0)∨(k=3∧1≤l.length):=hk;have hk:k=2∨k=3:=by omega
    show(decide (k=2)||decide (k=3))=true
    rw[uP,gnD,gnD];exact hk
   rw[if_pos hc]
   show(q3x _,true)=_
   rw[qpq hv]
theorem qu4:∀(l:List Te),(∀a∈l,y7 a=true)→(match q3e l with|some m=>(q69 l).map (·.1)=m∧(q69 l).all (·.2)=true|none=>(q69 l).all (·.2)=false)
 |[],_=>⟨rfl,rfl⟩
 | t :: l, hv => by
  have h1:=z68 t (hv t uK);have h2:=qu4 l fun a ha=>hv a (uI _ ha);rw[q3e,q69];cases ht:jv t with
  |none=>
   rw[ht] at h1
   show((qa9 t).2&&_)=false
   rw[h1];rfl
  | some x =>
   rw[ht] at h1;cases hl:q3e l with
   |none=>
    rw[hl] at h2
    show((qa9 t).2&&(q69 l).all (·.2))=false
    rw[h2,uR]
   | some m =>
    rw[hl] at h2;refine⟨?_,?_⟩
    ·rw[uH,h1,h2.1]
    ·show((qa9 t).2&&(q69 l).all (·.2))=true
     rw[h1,h2.2];rfl
end
def q2x(t:Te):Te×Bool:=if y7 t then(match jv t with
 |some u=>if 2000<szT u then(zT,false) else(u,true)
 |none=>(zT,false)) else(zT,false)
def qe8(f:Te→Te×Bool):List D→Option (List D)
 |[t]=>some [eT (f (dT t)).1,.b (f (dT t)).2]
 |_=>none
theorem q9s:FOk j1 (qe8 q2x):=qny q1i qsd q6r fun ds outs hw hg=>by
 obtain⟨d,r,rfl,hd,rfl⟩:=hw;obtain⟨t,rfl,ht⟩:=wfT hd;simp only[qe8,zw,uA] at hg;subst hg;simp only[q80,gnZ,gnT,gTb];refine⟨fun h=>?_,fun h=>?_⟩
 ·have h:y7 t=false:=by simpa using h
  simp only[q2x,h];rfl
 have h:y7 t=true:=by simpa using h
 simp only[gnZ,gnT,gTb,gCv,gTi,h,if_true,q2x,z2p];cases jv t with
 |none=>simp
 | some u =>
  by_cases hz:2000<szT u
  ·have:(2000:Int)<min (szT u:Int) 2001:=by omega
   simp[hz,this]
  ·have:¬(2000:Int)<min (szT u:Int) 2001:=by omega
   simp[hz,this]
mutual
def qf8:Te→Bool
  |.mk k n s l=>if k=2 then decide (s=z7q) else if q0l (.mk k n s l) then(if s=q1g then(qgl l).getD 1 false else(qgl l).getD 0 false||(qgl l).getD 1 false) else false
def qgl:List Te→List Bool
 |[]=>[]
 |t::l=>qf8 t::qgl l
end
theorem qd9:∀(l:List Te)(j:Nat),j<l.length→(qgl l).getD j false=qf8 (l.getD j default)
 |t::l,0,_=>rfl
 |t::l,j+1,h=>by
  rw[qgl,uJ,uJ];exact qd9 l j (by simpa using h)
theorem z6x{t:Te}:qf8 t=if t.k=2 then decide (t.s=z7q) else if q0l t then(if t.s=q1g then qf8 (t.l.getD 1 default) else qf8 (t.l.getD 0 default)||qf8 (t.l.getD 1 default)) else false:=by
 cases t with
 | mk k n s l =>
  rw[qf8];by_cases hb:q0l (.mk k n s l)=true
  ·have hl:=(q54 hb).1;have hl:l.length=2:=hl;rw[qd9 l 0 (by omega),qd9 l 1 (by omega)];rfl
  ·rw[if_neg hb,if_neg hb];rfl
def gCu:List D→Option (List D)
 |[t]=>if y7 (dT t) then some [.b (qf8 (dT t))] else none
 |_=>none
theorem qri:FOk jy gCu:=q2d (m:=mT) qaf fun N ih=>qo7 q7v ih fun ds outs hw hg=>by
 obtain⟨d,r,rfl,hd,rfl⟩:=hw;obtain⟨t,rfl,ht⟩:=wfT hd;simp only[q01,mT,gCu,uD,zw,uB,uA] at hg;obtain⟨hsz,hv,rfl⟩:=hg;rw[q7k,z6x,qd];refine⟨fun h=>?_,fun h=>?_⟩
 ·simp only[gnZ,gnT] at h;rw[if_pos h];simp only[gnZ,gnT]
 simp only[gnZ,gnT] at h;rw[if_neg h];simp only[gnZ,gnT,gTb];refine⟨fun hb=>?_,fun hb=>?_⟩
 ·rw[if_neg (by simpa using hb)]
 have hb:q0l t=true:=by simpa using hb
 have hl:=(q54 hb).1;have s0:=q3g (t:=t) (k:=0) (by omega);have s1:=q3g (t:=t) (k:=1) (by omega);have g0:(D.r (t.l.map eT)).get 0=eT (t.l.getD 0 default):=q12 (k:=0) (by omega);have g1:(D.r (t.l.map eT)).get 1=eT (t.l.getD 1 default):=q12 (k:=1) (by omega);have v0:=q78 hv (j:=0) (by omega);have v1:=q78 hv (j:=1) (by omega);have hl2:(t.l.length:Int)=2:=by omega
 simp only[hb,if_true,gnZ,gnT,g0,g1,q01,mT,gCu,if_pos (show szT (t.l.getD 0 default)<N by omega),if_pos (show szT (t.l.getD 1 default)<N by omega),v0,v1,hl2];refine⟨fun ha=>?_,fun ha=>?_⟩
 ·rw[if_pos ha];simp
 ·rw[if_neg ha];simp
def q6m(t:Te):Bool:=y7 t&&qf8 t
theorem q4c:FOk y2 (gTb q6m):=qo6 q1i qri fun ds outs hw hg=>by
 obtain⟨d,r,rfl,hd,rfl⟩:=hw;obtain⟨t,rfl,ht⟩:=wfT hd;simp only[gTb,zw,uA] at hg;subst hg;simp only[q7h,gnZ,gnT,gTb,gCu,q6m];cases y7 t<;>simp[qp]
def qbo:Nat→List Int→List D
 |_,[]=>[]
 |i,v::l=>.a [.i v,.i (i:Nat)]::qbo (i+1) l
def qak(vs:List Int):D:=.mp (qbo 0 vs)
def z07(d:D):List Int:=d.ms.map fun p=>(p.fld 0).int
theorem za7:∀(i:Nat)(l:List Int),(qbo i l).map (fun p=>(p.fld 0).int)=l
 |_,[]=>rfl
 |i,v::l=>by rw[qbo,uH,za7 (i+1) l];rfl
theorem q9p(vs:List Int):z07 (qak vs)=vs:=za7 0 vs
theorem qt0:∀(i:Nat)(l:List Int),(qbo i l).length=l.length
 |_,[]=>rfl
 |i,v::l=>by rw[qbo,uZ,qt0 (i+1) l];rfl
theorem qg6:∀(i:Nat)(l:List Int)(x:Int),mfind (.i x) (qbo i l)=if x∈l then some (.i (i+q66 l x)) else none
 |_,[],x=>by simp[qbo,mfind]
 | i, v :: l, x => by
  rw[qbo,mfind];have e:(D.a [.i v,.i (i:Nat)]).fld 0=.i v:=rfl;have e1:(D.a [.i v,.i (i:Nat)]).fld 1=.i (i:Nat):=rfl;rw[e,e1];by_cases h:v=x
  ·subst h;rw[if_pos rfl,if_pos uK];unfold q66;rw[if_pos rfl,Int.add_zero]
  ·rw[if_neg (by simpa using h),qg6 (i+1) l x];by_cases hx:x∈l
   ·have:=(quy hx).1;rw[if_pos hx,if_pos (uI _ hx)];have e2:q66 (v::l) x=q66 l x+1:=by
     conv=>lhs;unfold q66
     rw[if_neg h,if_neg (by omega)]
    rw[e2]
    congr 2
    push_cast
    omega
   ·rw[if_neg hx,if_neg fun q=>by
     rcases uT.1 q with q|q
     ·exact h q.symm
     ·exact hx q]
theorem qu6:∀(i:Nat)(l:List Int)(x:Int),x∉l→mset (.i x) (.i ((i+l.length:Nat):Int)) (qbo i l)=qbo i (l++[x])
 |i,[],x,_=>rfl
 |i,v::l,x,h=>by
  rw[qbo,mset];have e:(D.a [.i v,.i (i:Nat)]).fld 0=.i v:=rfl;have hv:v≠x:=fun e=>h (by rw[e];exact uK);rw[e,if_neg (by simpa using hv),kO,qbo,uZ,show i+(l.length+1)=(i+1)+l.length by omega,qu6 (i+1) l x fun q=>h (uI _ q)]
theorem qsv(vs:List Int)(x:Int):fnD 1 [qak vs,.i x]=.b (decide (x∈vs)):=by
 show D.b (mfind (.i x) (qbo 0 vs)).isSome=_
 rw[qg6];by_cases h:x∈vs<;>simp[h]
theorem z0y{vs:List Int}{x:Int}(h:x∈vs):fnD 0 [qak vs,.i x,.i 0]=.i (q66 vs x):=by
 show(mfind (.i x) (qbo 0 vs)).getD (.i 0)=_
 rw[qg6,if_pos h];simp
theorem z3x{vs:List Int}{x:Int}(h:x∉vs):fnD 2 [qak vs,.i x,.i (vs.length:Nat)]=qak (vs++[x]):=by
 show D.mp (mset (.i x) (.i (vs.length:Nat)) (qbo 0 vs))=_
 have:=qu6 0 vs x h;rw[Nat.zero_add] at this;rw[this];rfl
theorem qfb(vs:List Int):fnD 3 [qak vs]=.i (vs.length:Nat):=by
 show D.i ((qbo 0 vs).length:Nat)=_
 rw[qt0]
def okM(m:D)(n:Nat):Bool:=decide (m=qak (z07 m))&&decide ((z07 m).length+n≤1000000)
def qme:List D→Option (List D)
 |[t,m]=>if okM m (szT (dT t)) then some [eT (qu0 (jk (z07 m) (dT t)) (dT t)),qak (jk (z07 m) (dT t))] else none
 |_=>none
theorem qub{vs W:List Int}{t:Te}{m:List Int}(h:W=jk vs t++m):qu0 (jk vs t) t=qu0 W t:=
 qkm (V:=jk vs t) (fun x hx=>by rw[h,qnt hx]) t (qlr t vs)
theorem qn0:FOk yc qme:=q2d (m:=mT) q8m fun N ih=>qi4 ih fun ds outs hw hg=>by
 obtain⟨d,r,rfl,hd,e,r',rfl,he,rfl⟩:=hw;obtain⟨t,rfl,ht⟩:=wfT hd;simp only[q01,mT,qme,uD,zw,uB,uA,okM,gnB,gnD] at hg;obtain⟨hsz,⟨hm,hlen⟩,rfl⟩:=hg;generalize z07 e=vs at *;subst hm;have hl:=ht.l;have hs:=qy4 t
 have key:∀(x y:X)(V:List Int)(n:Int),V.length+q47 t.l≤1000000→j9 V t.l=jk vs t→(n=if t.k=0 then q66 (jk vs t) t.n else t.n)→
   x.ev (evl (qm [(yc,q01 mT N qme)]) [eT t,qak vs])=qak V→y.ev (evl (qm [(yc,q01 mT N qme)]) [eT t,qak vs])=eT (.mk t.k n t.s [])→
   Tree.go (qm [(yc,q01 mT N qme)]) (fun o=>o=[eT (qu0 (jk vs t) t),qak (jk vs t)]) (.loop 9 2 [(.lit (.i 0)),x,y] (qql q1r)) [eT t,qak vs] fun _ _=>False:=by
  intro x y V n hV1 hV2 hn hx hy;rw[j7];simp only[qql,q1r];refine⟨fun st=>∃k:Nat,k≤t.l.length∧st=[.i k,qak (j9 V (t.l.take k)),eT (.mk t.k n t.s ((t.l.take k).map (qu0 (jk vs t))))],fun st=>t.l.length - (st.getD 0 .u).int.toNat,⟨0,uE _,by simp only[X.evs,hx,hy,X.ev];rfl⟩,?_⟩;rintro st - ⟨k,hk,rfl⟩;rw[qd];refine⟨fun hlt=>?_,fun hlt=>?_⟩
  ·simp only[gnZ,gnT] at hlt;have hkl':k<t.l.length:=by omega
   have ha:=q3g hkl';have h1:=q9x (t.l.take k) V;have h2:=qxs hkl';have hok:okM (qak (j9 V (t.l.take k))) (szT (t.l.getD k default))=true:=by
    rw[okM,q9p,gnB];exact⟨decide_eq_true rfl,decide_eq_true (by omega)⟩
   have hW:∃m,jk vs t=jk (j9 V (t.l.take k)) (t.l.getD k default)++m:=by
    rw[←hV2,←qts hkl'];have e:t.l=t.l.take (k+1)++t.l.drop (k+1):=(kG _ _).symm;obtain⟨m,hm⟩:=q7l (t.l.drop (k+1)) (j9 V (t.l.take (k+1)));refine⟨m,?_⟩
    conv=>lhs;rw[e,q7e]
    exact hm
   obtain⟨m,hm⟩:=hW;simp only[gnZ,gnT,q12 hkl',q01,mT,qme,q9p,hok,if_true,if_pos (show szT (t.l.getD k default)<N by omega),z4w,uY];refine⟨⟨by omega,by omega⟩,by omega,⟨by omega,by omega⟩,?_⟩;rw[q1n,if_pos rfl];refine⟨⟨k+1,by omega,?_⟩,?_⟩
   ·rw[q0j hkl',q7e,List.map_append,qk4,qub hm];rfl
   ·simp[D.int];omega
  ·simp only[gnZ,gnT] at hlt⊢;have:k=t.l.length:=by omega
   subst this;rw[uX,hV2,hn,qu0,z8t]
 rw[q1r,qd];refine⟨fun h=>?_,fun h=>?_⟩
 ·simp only[gnZ,gnT] at h;rw[qd];have hwin:t.n∈jk vs t:=by
   have:=qlr t vs;cases t with
   |mk k n s l=>exact this.1 h
  refine⟨fun hh=>?_,fun hh=>?_⟩
  ·simp only[gnZ,gnT,qsv,gnD,kM,decide_eq_false_iff_not] at hh;have e1:j9 (vs++[t.n]) t.l=jk vs t:=by rw[qe5,if_pos ⟨h,hh⟩]
   have e2:q66 (jk vs t) t.n=vs.length:=by
    obtain⟨m,hm⟩:=q7l t.l (vs++[t.n]);rw[←e1,hm,qnt (by simp),qq7 hh]
   rw[q9];refine⟨by simp only[gnZ,gnT,qfb];omega,key _ _ (vs++[t.n]) vs.length (by simp only[kL,uZ,kB];omega) e1 (by rw[if_pos h,e2]) ?_ ?_⟩
   ·simp only[gnZ,gnT,qfb,z3x hh]
   ·simp only[gnZ,gnT,qfb,q6k];rfl
  ·simp only[gnZ,gnT,qsv,gnD,uL] at hh;have e1:j9 vs t.l=jk vs t:=by rw[qe5,if_neg fun q=>q.2 hh]
   have e2:q66 (jk vs t) t.n=q66 vs t.n:=by
    obtain⟨m,hm⟩:=qfo t vs;rw[hm,qnt hh]
   refine key _ _ vs (q66 vs t.n) (by omega) e1 (by rw[if_pos h,e2]) ?_ ?_
   ·simp only[gnZ,gnT]
   ·simp only[gnZ,gnT,z0y hh,q6k];rfl
 ·simp only[gnZ,gnT] at h;refine key _ _ vs t.n (by omega) (by rw[qe5,if_neg fun q=>h q.1]) (by rw[if_neg h]) ?_ ?_
  ·simp only[gnZ,gnT]
  ·simp only[gnZ,gnT,q6k];rfl
abbrev Cla:=Te×Te
def eK(c:Cla):D:=.a [eT c.1,eT c.2]
def dK(d:D):Cla:=(dT (d.fld 0),dT (d.fld 1))
theorem qnc(c:Cla):dK (eK c)=c:=by
 show(dT (eT c.1),dT (eT c.2))=c
 rw[zw,zw]
theorem qc7(c:Cla):(eK c).fld 0=eT c.1:=rfl
theorem qi7(c:Cla):(eK c).fld 1=eT c.2:=rfl
theorem zaq(a b:Te):D.a [eT a,eT b]=eK (a,b):=rfl
def zK:Cla:=(zT,zT)
theorem zbg:D.a [eT zT,eT zT]=eK zK:=rfl
theorem za5:D.a [.a [.i 0,.i 0,.s ⟨#[]⟩,.r []],.a [.i 0,.i 0,.s ⟨#[]⟩,.r []]]=eK zK:=rfl
theorem z9k(a b:Te):D.a (((eK zK).fs.set 0 (eT a)).set 1 (eT b))=eK (a,b):=rfl
theorem wfK{d:D}(h:Wf d z43):∃c:Cla,d=eK c∧okT c.1∧okT c.2:=by
 obtain⟨ds,rfl,hl⟩:=h.st_of (fs:=[q2h,q2h]) rfl;obtain⟨a,b,rfl,ha,hb⟩:=qvl hl;obtain⟨x,rfl,hx⟩:=wfT ha;obtain⟨y,rfl,hy⟩:=wfT hb;exact⟨(x,y),rfl,hx,hy⟩
def qhv(c:Cla):Bool:=decide (min (szT c.1:Int) 2001+min (szT c.2:Int) 2001≤2000)
theorem z1f(c:Cla):qhv c=true↔szT c.1+szT c.2≤2000:=by
 have h1:=qrn c.1;have h2:=qrn c.2;simp only[qhv,gnD];omega
def gKb(f:Cla→Bool):List D→Option (List D)
 |[c]=>some [.b (f (dK c))]
 |_=>none
theorem qs5:FOk q1b (gKb qhv):=qou q6r fun ds outs hw hg=>by
 obtain⟨d,r,rfl,hd,rfl⟩:=hw;obtain⟨c,rfl,h1,h2⟩:=wfK hd;simp only[gKb,qnc,uA] at hg;subst hg;simp only[q74,gnZ,gnT,qc7,qi7,gTi,qhv];omega
def qcn(c:Cla):List Int:=j9 [] [c.1,c.2]
def qv9(c:Cla):Cla:=(qu0 (qcn c) c.1,qu0 (qcn c) c.2)
def szK(c:Cla):Nat:=szT c.1+szT c.2
def z4b:List D→Option (List D)
 |[c]=>if szK (dK c)≤10000 then some [eK (qv9 (dK c)),.i ((qcn (dK c)).length:Nat)] else none
 |_=>none
theorem z8z:D.mp []=qak []:=rfl
theorem qe9:FOk ji z4b:=qd3 qn0 fun ds outs hw hg=>by
 obtain⟨d,r,rfl,hd,rfl⟩:=hw;obtain⟨⟨a,b⟩,rfl,h1,h2⟩:=wfK hd;simp only[z4b,qnc,uB,uA] at hg;obtain⟨hsz,rfl⟩:=hg;have hsz:szT a+szT b≤10000:=hsz;have l1:=qc1 a [];have l2:=qc1 b (jk [] a);simp only[kB] at l1;have o1:okM (qak []) (szT a)=true:=by
  rw[okM,q9p,gnB];exact⟨decide_eq_true rfl,decide_eq_true (by simp;omega)⟩
 have o2:okM (qak (jk [] a)) (szT b)=true:=by
  rw[okM,q9p,gnB];exact⟨decide_eq_true rfl,decide_eq_true (by omega)⟩
 have ev:qcn (a,b)=jk (jk [] a) b:=rfl;obtain⟨m,hm⟩:=qfo b (jk [] a);simp only[q30,gnZ,gnT,qc7,qi7,z8z,qme,o1,o2,if_true,q9p,qfb,za5,zbg,z9k,z8k];refine⟨by omega,?_⟩;rw[qub hm,qv9,ev]
theorem z99{head g:Te}(h:szT head+szT g≤2000):z4b [D.a [eT head,eT g]]=some [eK (qv9 (head,g)),.i ((qcn (head,g)).length:Nat)]:=by
 have:szK (head,g)≤10000:=by show szT head+szT g≤10000;omega
 simp only[z4b,zaq,qnc,if_pos this]
def q4n(c:Cla):Bool:=(y7 c.1&&qd0 c.1)&&(qhv c&&(y7 c.2&&(decide (jv c.2=some c.2)&&(decide ((qcn c).length≤64)&&decide (qv9 c=c)))))
theorem qm7{t u:Te}(h:y7 t=true):q6j u t=decide (u=t):=by
 rw[kD];simp only[q6j,gnB,gnD,qbv];exact⟨fun q=>q.2.2,fun q=>⟨by rw[q];exact h,h,q⟩⟩
theorem z71(c:Cla):decide (qv9 c=c)=(decide ((qv9 c).1=c.1)&&decide ((qv9 c).2=c.2)):=by
 rw[kD];simp only[gnB,gnD];exact⟨fun h=>⟨by rw[h],by rw[h]⟩,fun h=>Prod.ext h.1 h.2⟩
theorem qzu{t:Te}(hv:y7 t=true):((q2x t).2&&q6j (q2x t).1 t)=decide (jv t=some t):=by
 rw[qm7 hv];have hz:=(qdy.1 hv).1;simp only[q2x,hv,if_true];cases hb:jv t with
 |none=>simp
 | some u =>
  by_cases h:u=t
  ·subst h;have:¬2000<szT u:=by omega
   simp[this]
  ·by_cases h2:2000<szT u
   ·simp[h2,h]
   ·simp[h2,h]
theorem qp0:FOk q0r (gKb q4n):=qni q1i q5g qs5 q9s q9v qe9 fun ds outs hw hg=>by
 obtain⟨d,r,rfl,hd,rfl⟩:=hw;obtain⟨c,rfl,-⟩:=wfK hd;simp only[gKb,qnc,uA] at hg;subst hg;have hfo:gKb qhv [eK c]=some [.b (qhv c)]:=by simp only[gKb,qnc]
 cases hv:y7 c.1 with
 |false=>simp[jg,gnZ,gnT,qc7,qi7,gTb,hv,q4n,hfo]
 | true =>
  cases hc:qd0 c.1 with
  |false=>simp[jg,gnZ,gnT,qc7,qi7,gTb,hv,hc,q4n,hfo]
  | true =>
   cases hf:qhv c with
   |false=>simp[jg,gnZ,gnT,qc7,qi7,gTb,hv,hc,q4n,hfo,hf,qp]
   | true =>
    have hz:=(z1f c).1 hf;have hco:z4b [eK c]=some [eK (qv9 c),.i ((qcn c).length:Nat)]:=z99 (head:=c.1) (g:=c.2) hz;cases hv2:y7 c.2 with
    |false=>
     have:(q2x c.2).2=false:=by simp[q2x,hv2]
     simp[jg,gnZ,gnT,qc7,qi7,gTb,hv,hc,q4n,hfo,hf,qp,qe8,this,hv2]
    | true =>
     have hgs:=qzu hv2;cases hg2:(q2x c.2).2 with
     |false=>
      rw[hg2,uM] at hgs;simp[jg,gnZ,gnT,qc7,qi7,gTb,hv,hc,q4n,hfo,hf,qp,qe8,hg2,hv2,←hgs]
      all_goals exact fun q=>absurd q (of_decide_eq_false hgs.symm)
     | true =>
      rw[hg2,uS] at hgs;cases hs:q6j (q2x c.2).1 c.2 with
      |false=>
       rw[hs] at hgs;simp[jg,gnZ,gnT,qc7,qi7,gTb,hv,hc,q4n,hfo,hf,qp,qe8,hg2,hv2,q6v,hs]
       all_goals exact fun q=>absurd q (of_decide_eq_false hgs.symm)
      | true =>
       rw[hs] at hgs;have hbb:=of_decide_eq_true hgs.symm;by_cases h64:(qcn c).length≤64
       ·have h65:((qcn c).length:Int)≤64:=by omega
        simp[jg,gnZ,gnT,qc7,qi7,gTb,hv,hc,q4n,hfo,hf,qp,qe8,hg2,hv2,q6v,hs,hco,h64,h65,hbb,qm7 hv,qm7 hv2,z71]
       ·have h65:¬((qcn c).length:Int)≤64:=by omega
        simp[jg,gnZ,gnT,qc7,qi7,gTb,hv,hc,q4n,hfo,hf,qp,qe8,hg2,hv2,q6v,hs,hco,h64,h65]
def enV(l:List Int):D:=.mp (l.map fun v=>.a [.i v,.i 1])
theorem qyv:∀(l:List Int)(x:Int),mfind (.i x) (l.map fun v=>D.a [.i v,.i 1])=if x∈l then some (.i 1) else none
 |[],x=>rfl
 | v :: l, x => by
  rw[uH,mfind];have e:(D.a [.i v,.i 1]).fld 0=.i v:=rfl;have e1:(D.a [.i v,.i 1]).fld 1=.i 1:=rfl;rw[e,e1];by_cases h:v=x
  ·subst h;rw[if_pos rfl,if_pos uK]
  ·rw[if_neg (by simpa using h),qyv l x];by_cases hx:x∈l
   ·rw[if_pos hx,if_pos (uI _ hx)]
   ·rw[if_neg hx,if_neg fun q=>by
     rcases uT.1 q with q|q
     ·exact h q.symm
     ·exact hx q]
theorem z3y:∀(l:List Int)(x:Int),x∉l→mset (.i x) (.i 1) (l.map fun v=>D.a [.i v,.i 1])=(l++[x]).map fun v=>D.a [.i v,.i 1]
 |[],x,_=>rfl
 |v::l,x,h=>by
  rw[uH,mset];have e:(D.a [.i v,.i 1]).fld 0=.i v:=rfl;have hv:v≠x:=fun e=>h (by rw[e];exact uK);rw[e,if_neg (by simpa using hv),z3y l x fun q=>h (uI _ q)];rfl
theorem vget(vs:List Int)(x:Int):fnD 0 [enV vs,.i x,.i 0]=.i (if x∈vs then 1 else 0):=by
 show(mfind (.i x) (vs.map fun v=>D.a [.i v,.i 1])).getD (.i 0)=_
 rw[qyv];by_cases h:x∈vs
 ·rw[if_pos h,if_pos h];rfl
 ·rw[if_neg h,if_neg h];rfl
theorem vput{vs:List Int}{x:Int}(h:x∉vs):fnD 2 [enV vs,.i x,.i 1]=enV (vs++[x]):=by
 show D.mp (mset (.i x) (.i 1) (vs.map fun v=>D.a [.i v,.i 1]))=_
 rw[z3y vs x h];rfl
def okV(m r:D)(n:Nat):Bool:=decide (m=enV (dIs r))&&decide ((dIs r).length+n≤1000000)
def z5r:List D→Option (List D)
 |[t,m,r]=>if okV m r 1 then some (if(dT t).n∈dIs r then[t,m,r] else[t,enV (dIs r++[(dT t).n]),eIs (dIs r++[(dT t).n])]) else none
 |_=>none
theorem qbp:FOk j8 z5r:=qhy fun ds outs hw hg=>by
 obtain⟨d,r,rfl,hd,e,r',rfl,he,f,r'',rfl,hf,rfl⟩:=hw;obtain⟨t,rfl,ht⟩:=wfT hd;obtain⟨vs,rfl,-,-⟩:=zb0 z10 hf;simp only[z5r,zw,qf0,uB,uA,okV,gnB,gnD] at hg;obtain⟨⟨rfl,hlen⟩,rfl⟩:=hg;rw[q58,qd];refine⟨fun hh=>?_,fun hh=>?_⟩
 ·simp only[gnZ,gnT,vget] at hh;have hn:t.n∉vs:=fun q=>by rw[if_pos q] at hh;omega
  rw[if_neg hn];simp only[gnZ,gnT,qa4,vput hn,z3j,and_true];omega
 ·simp only[gnZ,gnT,vget] at hh;have hn:t.n∈vs:=Classical.byContradiction fun q=>by rw[if_neg q] at hh;exact hh rfl
  rw[if_pos hn];simp only[gnZ,gnT]
theorem z2t{t:Te}(h:q02 t=true)(hk:t.k=0):t=.mk 0 t.n ⟨#[]⟩ []:=by
 cases t with
 |mk k n s l=>
  have hk:k=0:=hk;subst hk;rw[q02] at h;simp only[q9m,Te.k,Te.n,Te.s,Te.l,gnB,if_true,gnD] at h;have h1:s=⟨#[]⟩:=of_decide_eq_true h.1.2.2.1;have h2:l=[]:=kF.1 (by have:=of_decide_eq_true h.1.2.2.2;omega);rw[h1,h2];rfl
theorem z0n{t:Te}(h:q02 t=true){k:Nat}(hk:k<t.l.length):q02 (t.l.getD k default)=true:=((q73 t).1 h).2 k hk
theorem z00{t:Te}(h:q02 t=true)(hk:t.k=0)(vs:List Int):jk vs t=if t.n∈vs then vs else vs++[t.n]:=by
 have hl:t.l=[]:=by rw[z2t h hk];rfl
 rw[qe5,hl,j9];by_cases hn:t.n∈vs
 ·rw[if_neg fun q=>q.2 hn,if_pos hn]
 ·rw[if_pos ⟨hk,hn⟩,if_neg hn]
def z19:List D→Option (List D)
 |[t,m,r]=>if okV m r (szT (dT t))&&q02 (dT t) then some [t,enV (jk (dIs r) (dT t)),eIs (jk (dIs r) (dT t))] else none
 |_=>none
theorem qsp{vs:List Int}{n:Nat}(h:vs.length+n≤1000000):okV (enV vs) (eIs vs) n=true:=by
 rw[okV,qf0,gnB];exact⟨decide_eq_true rfl,decide_eq_true h⟩
theorem qip:FOk yu z19:=q2d (m:=mT) q7t fun N ih=>qg3 qbp ih fun ds outs hw hg=>by
 obtain⟨d,r,rfl,hd,e,r',rfl,he,f,r'',rfl,hf,rfl⟩:=hw;obtain⟨t,rfl,ht⟩:=wfT hd;obtain⟨vs,rfl,-,-⟩:=zb0 z10 hf;simp only[q01,mT,z19,uD,zw,qf0,uB,uA,okV,gnB,gnD] at hg;obtain⟨hsz,⟨⟨rfl,hlen⟩,hnod⟩,rfl⟩:=hg;have hl:=ht.l;have hs:=qy4 t;rw[q40,qd];refine⟨fun h=>?_,fun h=>?_⟩
 ·simp only[gnZ,gnT] at h;have hq:z5r [eT t,enV vs,eIs vs]=some [eT t,enV (jk vs t),eIs (jk vs t)]:=by
   simp only[z5r,zw,qf0,qsp (vs:=vs) (n:=1) (by omega),if_true];rw[z00 hnod h];by_cases hin:t.n∈vs
   ·rw[if_pos hin,if_pos hin]
   ·rw[if_neg hin,if_neg hin]
  simp only[gnZ,gnT,hq]
 ·simp only[gnZ,gnT] at h;have hV2:j9 vs t.l=jk vs t:=by rw[qe5,if_neg fun q=>h q.1]
  rw[j7];refine⟨fun st=>∃k:Nat,k≤t.l.length∧st=[.i k,eT (.mk t.k t.n t.s (t.l.take k)),enV (j9 vs (t.l.take k)),eIs (j9 vs (t.l.take k))],fun st=>t.l.length - (st.getD 0 .u).int.toNat,⟨0,uE _,by simp only[X.evs,X.ev,evl,uD,uJ,z0t,z2n,z25,q6k];rfl⟩,?_⟩;rintro st - ⟨k,hk,rfl⟩;rw[qd];refine⟨fun hlt=>?_,fun hlt=>?_⟩
  ·simp only[gnZ,gnT] at hlt;have hkl':k<t.l.length:=by omega
   have ha:=q3g hkl';have h1:=q9x (t.l.take k) vs;have h2:=qxs hkl';have hno:=z0n hnod hkl';have hok:okV (enV (j9 vs (t.l.take k))) (eIs (j9 vs (t.l.take k))) (szT (t.l.getD k default))=true:=qsp (by omega);simp only[gnZ,gnT,q12 hkl',q01,mT,z19,qf0,hok,hno,kS,if_true,if_pos (show szT (t.l.getD k default)<N by omega),z4w,uY];refine⟨⟨by omega,by omega⟩,by omega,⟨by omega,by omega⟩,?_⟩;rw[q1n,if_pos rfl];refine⟨⟨k+1,by omega,?_⟩,?_⟩
   ·rw[q0j hkl',q7e,qk4];rfl
   ·simp[D.int];omega
  ·simp only[gnZ,gnT] at hlt⊢;have:k=t.l.length:=by omega
   subst this;rw[uX,hV2];cases t;rfl
def q8x(t:Te):List Int:=if y7 t then jk [] t else[]
def qur(f:Te→List Int):List D→Option (List D)
 |[t]=>some [eIs (f (dT t))]
 |_=>none
theorem qe3:FOk jz (qur q8x):=qo3 qbp q1i qip fun ds outs hw hg=>by
 obtain⟨d,r,rfl,hd,rfl⟩:=hw;obtain⟨t,rfl,ht⟩:=wfT hd;simp only[qur,zw,uA] at hg;subst hg;cases hv:y7 t with
 |false=>simp[q48,gnZ,gnT,gTb,zw,hv,q8x,D.tt,eIs]
 | true =>
  have hv':=hv;simp only[y7,gnB,gnD] at hv';have hq:z19 [eT t,.mp [],.r []]=some [eT t,enV (jk [] t),eIs (jk [] t)]:=by
   have:okV (.mp []) (.r []) (szT t)=true:=qsp (vs:=[]) (by simp;omega);simp only[z19,zw,this,hv'.2,kS,if_true];rfl
  simp[q48,gnZ,gnT,gTb,zw,hv,q8x,D.tt,hq]
theorem qgj(t:Te):(q8x t).length≤2000:=by
 unfold q8x;split
 ·rename_i h;simp only[y7,gnB,gnD] at h;have:=qc1 t [];simp only[kB] at this;omega
 ·exact uE _
def q2z(n:Int):Te:=if 0≤n∧n≤1099511627776 then .mk 0 n ⟨#[]⟩ [] else zT
def isNum(n:Int):Bool:=decide (0≤n)&&decide (n≤1099511627776)
theorem qq9{n:Int}:isNum n=true↔0≤n∧n≤1099511627776:=by rw[isNum,gnB,gnD,gnD]
def gNb(f:Int→Bool):List D→Option (List D)
 |[n]=>some [.b (f n.int)]
 |_=>none
def gNT(f:Int→Te):List D→Option (List D)
 |[n]=>some [eT (f n.int)]
 |_=>none
theorem qmj:FOk q0d (gNb isNum):=qjn fun ds outs hw hg=>by
 obtain⟨d,r,rfl,hd,rfl⟩:=hw;obtain⟨n,rfl,hn⟩:=wfI hd;simp only[gNb,qe,uA] at hg;subst hg;simp only[q4l,gnZ,gnT]
 try rfl
theorem q3q:FOk y1 (gNT q2z):=qr8 qmj fun ds outs hw hg=>by
 obtain⟨d,r,rfl,hd,rfl⟩:=hw;obtain⟨n,rfl,hn⟩:=wfI hd;simp only[gNT,qe,uA] at hg;subst hg;rw[q99,q9,qd];refine⟨by simp only[gnZ,gnT,gNb],fun h=>?_,fun h=>?_⟩
 ·simp only[gnZ,gnT,gNb] at h;have hn:¬(0≤n∧n≤1099511627776):=fun q=>by
   rw[qq9.2 q] at h;cases h
  rw[q2z,if_neg hn];simp only[gnZ,gnT]
 ·simp only[gnZ,gnT,gNb] at h;have h:isNum n=true:=by simpa using h
  rw[q2z,if_pos (qq9.1 h)];simp only[gnZ,gnT];rfl
def gLL(f:List Te→List Te):List D→Option (List D)
 |[l]=>some [.r ((f (l.rs.map dT)).map eT)]
 |_=>none
theorem q19:FOk zg (gLL id):=qap fun ds outs hw hg=>by
 obtain⟨d,r,rfl,hd,rfl⟩:=hw;obtain⟨l,rfl,hl,-⟩:=qj2 hd;simp only[gLL,qo,q33,uA] at hg;subst hg;refine⟨fun h=>?_,fun _=>?_⟩
 ·have h1:(l.map eT:List D)=[]:=h rfl;rw[List.map_eq_nil_iff] at h1;subst h1;rfl
 ·rw[q9];refine⟨by simp only[gnZ,gnT];omega,?_⟩;simp only[gnZ,gnT,id]
structure Pr where
 s:ByteArray
 a:Int
 x:Int
structure FG where
 k:Int
 p:Pr
 l:List Te
 v:Int
structure FC where
 p:Pr
 l:List Te
 g:List FG
instance:Inhabited Pr:=⟨⟨⟨#[]⟩,0,0⟩⟩
instance:Inhabited FG:=⟨⟨0,default,[],0⟩⟩
instance:Inhabited FC:=⟨⟨default,[],[]⟩⟩
def zPr:Pr:=⟨⟨#[]⟩,0,0⟩
def ePr(p:Pr):D:=.a [.s p.s,.i p.a,.i p.x]
def eFG(g:FG):D:=.a [.i g.k,ePr g.p,.r (g.l.map eT),.i g.v]
def eFC(f:FC):D:=.a [ePr f.p,.r (f.l.map eT),.r (f.g.map eFG)]
def dPr(d:D):Pr:=⟨(d.fld 0).str,(d.fld 1).int,(d.fld 2).int⟩
def dFG(d:D):FG:=⟨(d.fld 0).int,dPr (d.fld 1),(d.fld 2).rs.map dT,(d.fld 3).int⟩
def dFC(d:D):FC:=⟨dPr (d.fld 0),(d.fld 1).rs.map dT,(d.fld 2).rs.map dFG⟩
theorem qt(p:Pr):dPr (ePr p)=p:=rfl
theorem qu(g:FG):dFG (eFG g)=g:=by
 show(⟨g.k,dPr (ePr g.p),(g.l.map eT).map dT,g.v⟩:FG)=g
 rw[q33,qt]
theorem qrm(l:List FG):(l.map eFG).map dFG=l:=by
 rw[uV];have:dFG ∘ eFG=id:=funext fun _=>qu _;rw[this,kA]
theorem qr(f:FC):dFC (eFC f)=f:=by
 show(⟨dPr (ePr f.p),(f.l.map eT).map dT,(f.g.map eFG).map dFG⟩:FC)=f
 rw[q33,qt,qrm]
theorem qxt(l:List FC):(l.map eFC).map dFC=l:=by
 rw[uV];have:dFC ∘ eFC=id:=funext fun _=>qr _;rw[this,kA]
theorem z4(p:Pr):(ePr p).fld 0=.s p.s:=rfl
theorem qy(p:Pr):(ePr p).fld 1=.i p.a:=rfl
theorem z5(p:Pr):(ePr p).fld 2=.i p.x:=rfl
theorem z7(p:FG):(eFG p).fld 0=.i p.k:=rfl
theorem qw(p:FG):(eFG p).fld 1=ePr p.p:=rfl
theorem z3(p:FG):(eFG p).fld 2=.r (p.l.map eT):=rfl
theorem z0(p:FG):(eFG p).fld 3=.i p.v:=rfl
theorem qv(p:FC):(eFC p).fld 0=ePr p.p:=rfl
theorem qx(p:FC):(eFC p).fld 1=.r (p.l.map eT):=rfl
theorem qz(p:FC):(eFC p).fld 2=.r (p.g.map eFG):=rfl
theorem qq(p q:Pr):(ePr p=ePr q)=(p=q):=propext ⟨fun h=>by rw[←qt p,h,qt],fun h=>h▸rfl⟩
theorem z80(p q:FG):(eFG p=eFG q)=(p=q):=propext ⟨fun h=>by rw[←qu p,h,qu],fun h=>h▸rfl⟩
theorem z6:D.a [.s ⟨#[]⟩,.i 0,.i 0]=ePr zPr:=rfl
instance:DecidableEq Pr:=fun p q=>decidable_of_iff (ePr p=ePr q) (by rw[qq])
instance:DecidableEq FG:=fun p q=>decidable_of_iff (eFG p=eFG q) (by rw[z80])
def z8f(p:Pr):Prop:=p.s.size≤LIM∧i64 p.a∧i64 p.x
def z4q(g:FG):Prop:=i64 g.k∧z8f g.p∧(g.l.length≤2513169434843∧∀t∈g.l,okT t)∧i64 g.v
def z8q(f:FC):Prop:=z8f f.p∧(f.l.length≤2513169434843∧∀t∈f.l,okT t)∧(f.g.length≤1954687338211∧∀g∈f.g,z4q g)
theorem z2c{d:D}(h:Wf d qw7):∃p:Pr,d=ePr p∧z8f p:=by
 obtain⟨ds,rfl,hl⟩:=h.st_of (fs:=[.str,.int .i64,.int .i64]) rfl;obtain⟨d0,r,rfl,h0,hl⟩:=q7w hl;obtain⟨d1,d2,rfl,h1,h2⟩:=qvl hl;obtain⟨s,rfl,hs⟩:=h0.str;obtain⟨k,rfl,hk⟩:=wfI h1;obtain⟨n,rfl,hn⟩:=wfI h2;exact⟨⟨s,k,n⟩,rfl,hs,hk,hn⟩
theorem z8m{d:D}(h:Wf d qdw):∃g:FG,d=eFG g∧z4q g:=by
 obtain⟨ds,rfl,hl⟩:=h.st_of (fs:=[.int .i64,qw7,q8l,.int .i64]) rfl;obtain⟨d0,r,rfl,h0,hl⟩:=q7w hl;obtain⟨d1,r,rfl,h1,hl⟩:=q7w hl;obtain⟨d2,d3,rfl,h2,h3⟩:=qvl hl;obtain⟨k,rfl,hk⟩:=wfI h0;obtain⟨p,rfl,hp⟩:=z2c h1;obtain⟨l,rfl,hl1,hl2⟩:=qj2 h2;obtain⟨n,rfl,hn⟩:=wfI h3;exact⟨⟨k,p,l,n⟩,rfl,hk,hp,⟨hl1,hl2⟩,hn⟩
theorem z4e{d:D}(h:Wf d qhp):∃l:List FG,d=.r (l.map eFG)∧l.length≤1954687338211∧∀g∈l,z4q g:=by
 obtain⟨l,rfl,h1,h2⟩:=h.row_of (te:=qdw) rfl;obtain⟨m,rfl,h3⟩:=qgn (e:=eFG) (P:=z4q) fun x hx=>z8m (h2 x hx);have e:LM qdw=1954687338211:=by kernel_rfl
 rw[kC] at h1;exact⟨m,rfl,by omega,h3⟩
theorem qfw{d:D}(h:Wf d qwu):∃f:FC,d=eFC f∧z8q f:=by
 obtain⟨ds,rfl,hl⟩:=h.st_of (fs:=[qw7,q8l,qhp]) rfl;obtain⟨d0,r,rfl,h0,hl⟩:=q7w hl;obtain⟨d1,d2,rfl,h1,h2⟩:=qvl hl;obtain⟨p,rfl,hp⟩:=z2c h0;obtain⟨l,rfl,hl1,hl2⟩:=qj2 h1;obtain⟨g,rfl,hg1,hg2⟩:=z4e h2;exact⟨⟨p,l,g⟩,rfl,hp,⟨hl1,hl2⟩,hg1,hg2⟩
theorem z7n{d:D}(h:Wf d qf9):∃l:List FC,d=.r (l.map eFC)∧l.length≤1759218604390∧∀g∈l,z8q g:=by
 obtain⟨l,rfl,h1,h2⟩:=h.row_of (te:=qwu) rfl;obtain⟨m,rfl,h3⟩:=qgn (e:=eFC) (P:=z8q) fun x hx=>qfw (h2 x hx);have e:LM qwu=1759218604390:=by kernel_rfl
 rw[kC] at h1;exact⟨m,rfl,by omega,h3⟩
def qad(p:Pr):Bool:=if p.x=0 then decide ((p.s.size:Int)≤100)&&decide (0≤p.a)&&decide (p.a≤8)
 else decide (p.s=⟨#[]⟩)&&decide (1≤p.x)&&decide (p.x≤1099511627776)&&decide (0≤p.a)&&decide (p.a≤4096)
def gPb(f:Pr→Bool):List D→Option (List D)
 |[p]=>some [.b (f (dPr p))]
 |_=>none
theorem qeh:FOk jh (gPb qad):=qd4 fun ds outs hw hg=>by
 obtain⟨d,r,rfl,hd,rfl⟩:=hw;obtain⟨p,rfl,hp⟩:=z2c hd;simp only[gPb,qt,uA] at hg;subst hg;simp only[q34,gnZ,gnT,z4,qy,z5,qq,z6,z7,qw,z3,z0,qv,qx,qz,qt,qu,qr,qad];refine⟨fun h=>?_,fun h=>?_⟩
 ·rw[if_pos h]
 ·rw[if_neg h]
theorem qdq:FOk je (gPb qad):=qca fun ds outs hw hg=>by
 obtain⟨d,r,rfl,hd,rfl⟩:=hw;obtain⟨p,rfl,hp⟩:=z2c hd;simp only[gPb,qt,uA] at hg;subst hg;simp only[q2g,gnZ,gnT,z4,qy,z5,qq,z6,z7,qw,z3,z0,qv,qx,qz,qt,qu,qr,qad];refine⟨fun h=>?_,fun h=>?_⟩
 ·rw[if_pos h]
 ·rw[if_neg h]
def jw:Int→List Te→Int×Bool
 |left,[]=>(left,true)
 |left,t::l=>if y7 t then(if left - szT t<0 then(left - szT t,false) else jw (left - szT t) l) else(left,false)
theorem qku{t:Te}(h:y7 t=true):szT t≤2000:=by
 simp only[y7,gnB,gnD] at h;exact h.1
theorem que:∀{l:List Te}{left:Int},0≤left→(jw left l).1≤left∧-2000≤(jw left l).1∧((jw left l).2=true→0≤(jw left l).1)
 |[],left,h=>⟨Int.le_refl _,by show -2000≤left;omega,fun _=>h⟩
 | t :: l, left, h => by
  have hp:=qrn t;unfold jw;split
  ·rename_i hv;have:=qku hv;split
   ·refine⟨?_,?_,fun q=>by cases q⟩
    ·show left - szT t≤left;omega
    ·show -2000≤left - szT t;omega
   ·obtain⟨h1,h2,h3⟩:=que (l:=l) (left:=left - szT t) (by omega);exact⟨by omega,h2,h3⟩
  ·refine⟨Int.le_refl _,?_,fun q=>by cases q⟩
   show -2000≤left;omega
theorem q71{α:Type}[Inhabited α]{l:List α}{k:Nat}(h:k<l.length):l.drop k=l.getD k default::l.drop (k+1):=by
 rw[List.drop_eq_getElem_cons h,gnG,gnK h];rfl
def qz5:List D→Option (List D)
 |[n,l]=>if 0≤n.int∧n.int≤1000000 then some [.b (jw n.int (l.rs.map dT)).2,.i (jw n.int (l.rs.map dT)).1] else none
 |_=>none
theorem qrz:FOk q1c qz5:=qoz q1i q6r fun ds outs hw hg=>by
 obtain⟨d,r,rfl,hd,e,r',rfl,he,rfl⟩:=hw;obtain⟨n,rfl,hn⟩:=wfI hd;obtain⟨l,rfl,hl,-⟩:=qj2 he;simp only[qz5,qe,qo,q33,uB,uA] at hg;obtain⟨hn2,rfl⟩:=hg;rw[q7x,j7];refine⟨fun st=>∃(k:Nat)(m:Int),k≤l.length∧st=[.b false,.i k,.i m]∧0≤m∧m≤1000000∧jw n l=jw m (l.drop k),fun st=>l.length - (st.getD 1 .u).int.toNat,⟨0,n,uE _,rfl,by omega,by omega,rfl⟩,?_⟩;rintro st - ⟨k,m,hk,rfl,hm0,hm1,hP⟩;rw[qd];refine⟨fun hlt=>?_,fun hlt=>?_⟩
 ·simp only[gnZ,gnT] at hlt;have hkl:k<l.length:=by omega
  rw[q71 hkl,jw] at hP;simp only[gnZ,gnT,q12 hkl,gTb,gTi];refine⟨⟨by omega,by omega⟩,fun hv=>?_,fun hv=>?_⟩
  ·have hv:y7 (l.getD k default)=false:=by simpa using hv
   rw[if_neg (by rw[hv];decide)] at hP;rw[hP]
  ·have hv:y7 (l.getD k default)=true:=by simpa using hv
   have hs:=qku hv;rw[if_pos hv] at hP;have e:min (szT (l.getD k default):Int) 2001=szT (l.getD k default):=by omega
   rw[e];refine⟨⟨by omega,by omega⟩,fun hx=>?_,fun hx=>⟨⟨by omega,by omega⟩,?_⟩⟩
   ·rw[if_pos hx] at hP;rw[hP]
   ·rw[if_neg hx] at hP;rw[q1n,if_pos rfl];refine⟨⟨k+1,_,by omega,rfl,by omega,by omega,hP⟩,?_⟩;simp[D.int];omega
 ·simp only[gnZ,gnT] at hlt⊢;have:k=l.length:=by omega
  subst this;rw[uN] at hP;rw[hP];rfl
def qmd:List D→Option (List D)
 |[l,n]=>if 0≤n.int∧n.int≤131072 then some [.i (131072 - (jw (131072 - n.int) (l.rs.map dT)).1),.b (jw (131072 - n.int) (l.rs.map dT)).2] else none
 |_=>none
theorem qko:FOk q0e qmd:=qid q7g qcp fun ds outs hw hg=>by
 obtain⟨d,r,rfl,hd,e,r',rfl,he,rfl⟩:=hw;obtain⟨l,rfl,hl,-⟩:=qj2 hd;obtain⟨n,rfl,hn⟩:=wfI he;simp only[qmd,qe,qo,q33,uB,uA] at hg;obtain⟨hn2,rfl⟩:=hg;rw[q5c,j7];refine⟨fun st=>∃(k:Nat)(m:Int),k≤l.length∧st=[.i 0,.b false,.i m,.i k]∧0≤m∧m≤131072∧jw (131072 - n) l=jw (131072 - m) (l.drop k),fun st=>l.length - (st.getD 3 .u).int.toNat,⟨0,n,uE _,rfl,by omega,by omega,rfl⟩,?_⟩;rintro st - ⟨k,m,hk,rfl,hm0,hm1,hP⟩;rw[qd];refine⟨fun hlt=>?_,fun hlt=>?_⟩
 ·simp only[gnZ,gnT] at hlt;have hkl:k<l.length:=by omega
  rw[q71 hkl,jw] at hP;simp only[gnZ,gnT,q12 hkl,gTb,gTi];refine⟨⟨by omega,by omega⟩,fun hv=>?_,fun hv=>?_⟩
  ·have hv:y7 (l.getD k default)=false:=by simpa using hv
   rw[if_neg (by rw[hv];decide)] at hP;rw[hP]
   congr 2
   omega
  ·have hv:y7 (l.getD k default)=true:=by simpa using hv
   have hs:=qku hv;rw[if_pos hv] at hP;have e:min (szT (l.getD k default):Int) 2001=szT (l.getD k default):=by omega
   rw[e];refine⟨⟨by omega,by omega,by omega,by omega⟩,fun hx=>?_,fun hx=>⟨⟨by omega,by omega⟩,?_⟩⟩
   ·rw[if_pos (by omega)] at hP;rw[hP]
    congr 2
    omega
   ·rw[if_neg (by omega)] at hP;rw[q1n,if_pos rfl];refine⟨⟨k+1,_,by omega,rfl,by omega,by omega,?_⟩,?_⟩
    ·rw[hP]
     congr 1
     omega
    ·simp[D.int];omega
 ·simp only[gnZ,gnT] at hlt⊢;have:k=l.length:=by omega
  subst this;rw[uN] at hP;rw[hP]
  show _=[D.i (131072 - (131072 - m)),D.b true]
  congr 2
  omega
theorem qb6{α:Type}[Inhabited α](e:α→D){l:List α}{k:Nat}(h:k<l.length):(D.r (l.map e)).get (k:Int)=e (l.getD k default):=by
 show(l.map e).getD k .u=_
 simp[gnG,h]
def qua(g:FG):Bool:=decide (g.p=zPr)&&decide ((g.l.length:Int)=0)
def q8v(g:FG):Bool:=qua g&&decide (0≤g.v)&&decide (g.v≤1099511627776)
def q2f(left:Int)(called:Bool)(g:FG):Option (Int×Bool):=
 if g.k=1 then(if qad g.p&&decide ((g.l.length:Int)=g.p.a)&&decide (g.v=0)&&(jw left g.l).2 then some ((jw left g.l).1,true) else none)
 else if g.k=2 then(if q8v g&& !called then some (left,called) else none)
 else if g.k=3 then(if q8v g then some (left,called) else none)
 else if g.k=4 then(if q8v g then some (left,called) else none)
 else if g.k=5 then(if qua g&&decide (g.v=0) then some (left,called) else none)
 else none
def q3h:Int→Bool→List FG→Bool
 |_,_,[]=>true
 |left,called,g::l=>match q2f left called g with
  |some (a,b)=>q3h a b l
  |none=>false
def qbi(f:FC):Bool:=(qad f.p&&decide ((f.l.length:Int)=f.p.a))&&(jw 131072 f.l).2
def q1h(f:FC):Bool:=qbi f&&q3h (jw 131072 f.l).1 false f.g
def gFb(f:FC→Bool):List D→Option (List D)
 |[d]=>some [.b (f (dFC d))]
 |_=>none
theorem qlv{left:Int}{c:Bool}{l:List FG}{k:Nat}(hk:k<l.length){r:Bool}(hP:r=q3h left c (l.drop k))(h:q2f left c (l.getD k default)=none):r=false:=by
 rw[hP,q71 hk,q3h,h]
theorem qm5{left:Int}{c:Bool}{l:List FG}{k:Nat}(hk:k<l.length){r:Bool}(hP:r=q3h left c (l.drop k)){a:Int}{b:Bool}(h:q2f left c (l.getD k default)=some (a,b)):r=q3h a b (l.drop (k+1)):=by
 rw[hP,q71 hk,q3h,h]
theorem qxq(left:Int)(l:List Te)(h:0≤left∧left≤131072)(ht:(jw left l).2=true):0≤(jw left l).1∧(jw left l).1≤131072:=by
 obtain⟨h1,h2,h3⟩:=que (l:=l) h.1;exact⟨h3 ht,by omega⟩
theorem qz4{left:Int}{l:List Te}(h:0≤left∧left≤131072):qz5 [.i left,.r (l.map eT)]=some [.b (jw left l).2,.i (jw left l).1]:=by
 simp only[qz5,qe,qo,q33,if_pos (show 0≤left∧left≤1000000 by omega)]
theorem qbd(f:Pr→Bool)(p:Pr):gPb f [ePr p]=some [.b (f p)]:=rfl
theorem q91:FOk yt (gFb q1h):=qky qeh qrz fun ds outs hw hg=>by
 obtain⟨d,r,rfl,hd,rfl⟩:=hw;obtain⟨f,rfl,hp,⟨hl,-⟩,hgl,hgo⟩:=qfw hd;simp only[gFb,qr,uA] at hg;subst hg;have e131:=qz4 (left:=131072) (l:=f.l) (by omega);rw[q63,q9];refine⟨by simp[gnZ,gnT,z4,qy,z5,qq,z6,z7,qw,z3,z0,qv,qx,qz,qt,qu,qr,qbd,e131],?_⟩;rw[qd];refine⟨fun h=>?_,fun h=>?_⟩
 ·simp only[gnZ,gnT,z4,qy,z5,qq,z6,z7,qw,z3,z0,qv,qx,qz,qt,qu,qr,qbd,e131] at h;have hh:qbi f=false:=by
   unfold qbi;cases h1:qad f.p<;>cases h2:decide ((f.l.length:Int)=f.p.a)<;>cases h3:(jw 131072 f.l).2<;>simp_all
  rw[q1h,hh];simp only[gnZ,gnT,z4,qy,z5,qq,z6,z7,qw,z3,z0,qv,qx,qz,qt,qu,qr,uM]
 ·simp only[gnZ,gnT,z4,qy,z5,qq,z6,z7,qw,z3,z0,qv,qx,qz,qt,qu,qr,qbd,e131] at h;have hh:qbi f=true:=by
   unfold qbi;cases h1:qad f.p<;>cases h2:decide ((f.l.length:Int)=f.p.a)<;>cases h3:(jw 131072 f.l).2<;>simp_all
  rw[q1h,hh,uS];have hh2:=hh;simp only[qbi,gnB] at hh2;obtain⟨⟨q1,q2⟩,q3⟩:=hh2;have hr:=qxq 131072 f.l (by omega) q3;generalize hV:q3h (jw 131072 f.l).1 false f.g=r;rw[j7];refine⟨fun st=>∃(k:Nat)(c:Bool)(left:Int),k≤f.g.length∧st=[.b c,.b false,.i k,.i left]∧(0≤left∧left≤131072)∧r=q3h left c (f.g.drop k),fun st=>f.g.length - (st.getD 2 .u).int.toNat,⟨0,false,_,uE _,?_,hr,hV.symm⟩,?_⟩
  ·simp[gnZ,gnT,z4,qy,z5,qq,z6,z7,qw,z3,z0,qv,qx,qz,qt,qu,qr,qbd,e131,q1,of_decide_eq_true q2]
  rintro st - ⟨k,c,left,hk,rfl,hleft,hP⟩;rw[qd];refine⟨fun hlt=>?_,fun hlt=>?_⟩
  ·simp only[gnZ,gnT,z4,qy,z5,qq,z6,z7,qw,z3,z0,qv,qx,qz,qt,qu,qr] at hlt;have hkl:k<f.g.length:=by omega
   have hstep:∀a b,q2f left c (f.g.getD k default)=some (a,b)→0≤a∧a≤131072→q1n (fun _ _=>False) 6 (fun st'=>(∃(k:Nat)(c:Bool)(left:Int),k≤f.g.length∧st'=[.b c,.b false,.i k,.i left]∧(0≤left∧left≤131072)∧r=q3h left c (f.g.drop k))∧f.g.length - (st'.getD 2 .u).int.toNat<f.g.length - (k:Int).toNat) 6 [.b b,.b false,.i ((k:Int)+1),.i a]:=fun a b hs ha=>by
    rw[q1n,if_pos rfl];refine⟨⟨k+1,b,a,by omega,rfl,ha,qm5 hkl hP hs⟩,?_⟩;simp[D.int];omega
   have hno:q2f left c (f.g.getD k default)=none→r=false:=qlv hkl hP;have arm:∀(C:Bool)(a:Int)(b:Bool),q2f left c (f.g.getD k default)=(if C then some (a,b) else none)→(C=true→0≤a∧a≤131072)→((!C)=true→[D.b false]=[D.b r])∧((!C)=false→(-9223372036854775808≤(k:Int)+1∧(k:Int)+1≤9223372036854775807)∧q1n (fun _ _=>False) 6 (fun st'=>(∃(k:Nat)(c:Bool)(left:Int),k≤f.g.length∧st'=[.b c,.b false,.i k,.i left]∧(0≤left∧left≤131072)∧r=q3h left c (f.g.drop k))∧f.g.length - (st'.getD 2 .u).int.toNat<f.g.length - (k:Int).toNat) 6 [.b b,.b false,.i ((k:Int)+1),.i a]):=fun C a b hs ha=>by
    cases C with
    |true=>exact⟨fun h=>by simp at h,fun _=>⟨⟨by omega,by omega⟩,hstep a b (by rw[hs,if_pos rfl]) (ha rfl)⟩⟩
    |false=>exact⟨fun _=>by rw[hno (by rw[hs];rfl)],fun h=>by simp at h⟩
   clear hstep;simp only[gnZ,gnT,z4,qy,z5,qq,z6,z7,qw,z3,z0,qv,qx,qz,qt,qu,qr,qb6 eFG hkl,qbd];generalize f.g.getD k default=g at *;have eR:=qz4 (left:=left) (l:=g.l) hleft;refine⟨⟨by omega,by omega⟩,fun h1=>?_,fun h1=>⟨fun h2=>?_,fun h2=>⟨fun h3=>⟨fun _=>?_,fun q=>absurd h3 q⟩,fun h3=>⟨fun h4=>?_,fun h4=>⟨fun h5=>?_,fun h5=>?_⟩⟩⟩⟩⟩
   ·simp only[eR,kH,kK,qp,kT,true_and,uD,uJ,qe];have q:=arm (qad g.p&&decide ((g.l.length:Int)=g.p.a)&&decide (g.v=0)&&(jw left g.l).2) (jw left g.l).1 true (by unfold q2f;rw[if_pos h1]) (fun q=>by simp only[gnB] at q;exact qxq left g.l hleft q.2);refine⟨q.1,fun h=>?_⟩;have q2:=q.2 h;have h':(qad g.p&&decide ((g.l.length:Int)=g.p.a)&&decide (g.v=0))=true:=by
     simp only[uL,gnB] at h;simp only[gnB];exact h.1
    rw[if_pos h'];exact q2
   ·exact arm (q8v g&& !c) left c (by unfold q2f;rw[if_neg h1,if_pos h2]) fun _=>hleft
   ·exact arm (q8v g) left c (by unfold q2f;rw[if_neg h1,if_neg h2,if_pos h3]) fun _=>hleft
   ·exact arm (q8v g) left c (by unfold q2f;rw[if_neg h1,if_neg h2,if_neg h3,if_pos h4]) fun _=>hleft
   ·exact arm (qua g&&decide (g.v=0)) left c (by unfold q2f;rw[if_neg h1,if_neg h2,if_neg h3,if_neg h4,if_pos h5]) fun _=>hleft
   ·rw[hno (by unfold q2f;rw[if_neg h1,if_neg h2,if_neg h3,if_neg h4,if_neg h5])]
  ·simp only[gnZ,gnT,z4,qy,z5,qq,z6,z7,qw,z3,z0,qv,qx,qz,qt,qu,qr] at hlt⊢;have:k=f.g.length:=by omega
   subst this;rw[uN] at hP;rw[hP];rfl
theorem qsx{left:Int}{l:List Te}(h:0≤left∧left≤131072):qmd [.r (l.map eT),.i (131072 - left)]=some [.i (131072 - (jw left l).1),.b (jw left l).2]:=by
 have e:(131072:Int) - (131072 - left)=left:=by omega
 simp only[qmd,qe,qo,q33,if_pos (show 0≤131072 - left∧131072 - left≤131072 by omega),e]
theorem z1n(g:FG):(decide (g.v<0)||decide (1099511627776<g.v)|| !decide (g.p=zPr)|| !decide ((g.l.length:Int)=0))= !q8v g:=by
 unfold q8v qua;have e1:decide (g.v<0)= !decide (0≤g.v):=by rw[←decide_not,decide_eq_decide];omega
 have e2:decide (1099511627776<g.v)= !decide (g.v≤1099511627776):=by rw[←decide_not,decide_eq_decide];omega
 rw[e1,e2];cases decide (0≤g.v)<;>cases decide (g.v≤1099511627776)<;>cases decide (g.p=zPr)<;>cases decide ((g.l.length:Int)=0)<;>rfl
theorem qb7:FOk jf (gFb q1h):=qjq qko qdq fun ds outs hw hg=>by
  obtain⟨d,r,rfl,hd,rfl⟩:=hw;obtain⟨f,rfl,hp,⟨hl,-⟩,hgl,hgo⟩:=qfw hd;simp only[gFb,qr,uA] at hg;subst hg;have e131:qmd [.r (f.l.map eT),.i 0]=some [.i (131072 - (jw 131072 f.l).1),.b (jw 131072 f.l).2]:=qsx (left:=131072) (by omega);rw[q4v,q9];refine⟨by simp[gnZ,gnT,z4,qy,z5,qq,z6,z7,qw,z3,z0,qv,qx,qz,qt,qu,qr,qbd,e131],?_⟩;rw[q9];refine⟨by simp[gnZ,gnT,z4,qy,z5,qq,z6,z7,qw,z3,z0,qv,qx,qz,qt,qu,qr,qbd,e131],?_⟩;rw[qd];refine⟨fun h=>?_,fun h=>?_⟩
  · simp only[gnZ,gnT,z4,qy,z5,qq,z6,z7,qw,z3,z0,qv,qx,qz,qt,qu,qr,qbd,e131] at h;have hh:qbi f=false:=by
      unfold qbi;cases h1:qad f.p<;>cases h2:decide ((f.l.length:Int)=f.p.a)<;>cases h3:(jw 131072 f.l).2<;>simp_all
    rw[q1h,hh];simp only[gnZ,gnT,z4,qy,z5,qq,z6,z7,qw,z3,z0,qv,qx,qz,qt,qu,qr,uM]
  · simp only[gnZ,gnT,z4,qy,z5,qq,z6,z7,qw,z3,z0,qv,qx,qz,qt,qu,qr,qbd,e131] at h;have hh:qbi f=true:=by
      unfold qbi;cases h1:qad f.p<;>cases h2:decide ((f.l.length:Int)=f.p.a)<;>cases h3:(jw 131072 f.l).2<;>simp_all
    rw[q1h,hh,uS];have hh2:=hh;simp only[qbi,gnB] at hh2;obtain⟨⟨q1,q2⟩,q3⟩:=hh2;have hr:=qxq 131072 f.l (by omega) q3;generalize hV:q3h (jw 131072 f.l).1 false f.g=r;rw[j7];refine⟨fun st=>∃(k:Nat)(c o:Bool)(left:Int),k≤f.g.length∧st=[.b false,.i (131072 - left),.b o,.b c,.i k]∧(0≤left∧left≤131072)∧r=q3h left c (f.g.drop k),fun st=>f.g.length - (st.getD 4 .u).int.toNat,⟨0,false,(jw 131072 f.l).2,(jw 131072 f.l).1,uE _,?_,hr,hV.symm⟩,?_⟩
    · simp only[gnZ,gnT,z4,qy,z5,qq,z6,z7,qw,z3,z0,qv,qx,qz,qt,qu,qr,qbd,e131];rfl
    rintro st - ⟨k,c,o,left,hk,rfl,hleft,hP⟩;rw[qd];refine⟨fun hlt=>?_,fun hlt=>?_⟩
    · simp only[gnZ,gnT,z4,qy,z5,qq,z6,z7,qw,z3,z0,qv,qx,qz,qt,qu,qr] at hlt;have hkl:k<f.g.length:=by omega
      have hstep:∀a b o,q2f left c (f.g.getD k default)=some (a,b)→0≤a∧a≤131072→q1n (fun _ _=>False) 6 (fun st'=>(∃(k:Nat)(c o:Bool)(left:Int),k≤f.g.length∧st'=[.b false,.i (131072 - left),.b o,.b c,.i k]∧(0≤left∧left≤131072)∧r=q3h left c (f.g.drop k))∧f.g.length - (st'.getD 4 .u).int.toNat<f.g.length - (k:Int).toNat) 6 [.b false,.i (131072 - a),.b o,.b b,.i ((k:Int)+1)]:=fun a b o hs ha=>by
        rw[q1n,if_pos rfl];refine⟨⟨k+1,b,o,a,by omega,rfl,ha,qm5 hkl hP hs⟩,?_⟩;simp[D.int];omega
      have hno:q2f left c (f.g.getD k default)=none→r=false:=qlv hkl hP;have arm:∀(C:Bool)(a:Int)(b:Bool),q2f left c (f.g.getD k default)=(if C then none else some (a,b))→(C=false→0≤a∧a≤131072)→(C=true→[D.b false]=[D.b r])∧(C=false→(-9223372036854775808≤(k:Int)+1∧(k:Int)+1≤9223372036854775807)∧q1n (fun _ _=>False) 6 (fun st'=>(∃(k:Nat)(c o:Bool)(left:Int),k≤f.g.length∧st'=[.b false,.i (131072 - left),.b o,.b c,.i k]∧(0≤left∧left≤131072)∧r=q3h left c (f.g.drop k))∧f.g.length - (st'.getD 4 .u).int.toNat<f.g.length - (k:Int).toNat) 6 [.b false,.i (131072 - a),.b o,.b b,.i ((k:Int)+1)]):=fun C a b hs ha=>by
        cases C with
        |false=>exact⟨fun h=>by simp at h,fun _=>⟨⟨by omega,by omega⟩,hstep a b o (by rw[hs];rfl) (ha rfl)⟩⟩
        |true=>exact⟨fun _=>by rw[hno (by rw[hs];rfl)],fun h=>by simp at h⟩
      simp only[gnZ,gnT,z4,qy,z5,qq,z6,z7,qw,z3,z0,qv,qx,qz,qt,qu,qr,qb6 eFG hkl,qbd];generalize f.g.getD k default=g at *;have eR:=qsx (left:=left) (l:=g.l) hleft;refine⟨⟨by omega,by omega⟩,fun h1=>?_,fun h1=>⟨fun h2=>⟨fun _=>?_,fun q=>absurd h2 q⟩,fun h2=>⟨fun h3=>⟨fun _=>?_,fun q=>absurd h3 q⟩,fun h3=>⟨fun h4=>?_,fun h4=>⟨fun h5=>?_,fun h5=>?_⟩⟩⟩⟩⟩
      · simp only[eR,kH,kK,qp,kT,true_and,uD,uJ,qe];refine⟨fun h=>?_,fun h=>⟨fun h'=>?_,fun h'=>⟨⟨by omega,by omega⟩,?_⟩⟩⟩
        · rw[hno];unfold q2f;rw[if_pos h1,if_neg];intro q;simp only[gnB,gnD] at q;simp[q] at h
        · rw[hno];unfold q2f;rw[if_pos h1,if_neg];intro q;simp only[gnB,gnD] at q;simp[q] at h'
        · have h':(jw left g.l).2=true:=by simpa using h'
          refine hstep _ true _ ?_ (qxq left g.l hleft h');unfold q2f;rw[if_pos h1,if_pos];simp only[uO,uL] at h;simp only[gnB];exact⟨⟨⟨h.1.1,h.1.2⟩,h.2⟩,h'⟩
      · rw[z1n];have q:=arm (!q8v g||(decide (g.k=2)&&c)) left c (by unfold q2f;rw[if_neg h1,if_pos h2,decide_eq_true h2];cases q8v g<;>cases c<;>rfl) fun _=>hleft;exact q
      · rw[z1n];exact arm (!q8v g||(decide (g.k=2)&&c)) left c (by unfold q2f;rw[if_neg h1,if_neg h2,if_pos h3,decide_eq_false h2];cases q8v g<;>cases c<;>rfl) fun _=>hleft
      · rw[z1n];exact arm (!q8v g||(decide (g.k=2)&&c)) left c (by unfold q2f;rw[if_neg h1,if_neg h2,if_neg h3,if_pos h4,decide_eq_false h2];cases q8v g<;>cases c<;>rfl) fun _=>hleft
      · exact arm (!decide (g.v=0)|| !decide (g.p=zPr)|| !decide ((g.l.length:Int)=0)) left c (by unfold q2f qua;rw[if_neg h1,if_neg h2,if_neg h3,if_neg h4,if_pos h5];cases decide (g.v=0)<;>cases decide (g.p=zPr)<;>cases decide ((g.l.length:Int)=0)<;>rfl) fun _=>hleft
      · rw[hno (by unfold q2f;rw[if_neg h1,if_neg h2,if_neg h3,if_neg h4,if_neg h5])]
    · simp only[gnZ,gnT,z4,qy,z5,qq,z6,z7,qw,z3,z0,qv,qx,qz,qt,qu,qr] at hlt⊢;have:k=f.g.length:=by omega
      subst this;rw[uN] at hP;rw[hP];rfl
def qkn{α:Type}[Inhabited α](f:α→α→Bool)(l m:List α):Bool:=decide (l.length=m.length)&&(kX l.length).all fun j=>f (l.getD j default) (m.getD j default)
theorem qvm(l m:List Te):q3a l m=qkn q6j l m:=rfl
theorem qrf{α:Type}[Inhabited α]{f:α→α→Bool}{l m:List α}(h:¬l.length=m.length):qkn f l m=false:=by
 unfold qkn;rw[decide_eq_false h];rfl
theorem qmk{α:Type}[Inhabited α]{f:α→α→Bool}{l m:List α}{k:Nat}(hk:k<l.length)(h:f (l.getD k default) (m.getD k default)=false):qkn f l m=false:=by
 unfold qkn;rw[qyd hk (by simpa using h),uR]
theorem qmc{α:Type}[Inhabited α]{f:α→α→Bool}{l m:List α}(hn:l.length=m.length)(h:∀j,j<l.length→f (l.getD j default) (m.getD j default)=true):qkn f l m=true:=by
 unfold qkn;rw[qxo h,kR,decide_eq_true hn]
def z5o{α:Type}(dec:D→α)(f:List α→List α→Bool):List D→Option (List D)
 |[a,b]=>some [.b (f (a.rs.map dec) (b.rs.map dec))]
 |_=>none
theorem q35:FOk zm (z0g q3a):=q8a q9v fun ds outs hw hg=>by
 obtain⟨d,r,rfl,hd,e,r',rfl,he,rfl⟩:=hw;obtain⟨l,rfl,hl,-⟩:=qj2 hd;obtain⟨m,rfl,hm,-⟩:=qj2 he;simp only[z0g,qo,q33,uA] at hg;subst hg;simp only[q10,gnZ,gnT,z4,qy,z5,qq,z6,z7,qw,z3,z0,qv,qx,qz,qt,qu,qr,q6v];refine⟨fun hn=>?_,fun hn=>?_⟩
 ·rw[qvm,qrf (by simp at hn;omega)]
 have hn:l.length=m.length:=by simp at hn;omega
 rw[j7];refine⟨fun st=>∃k:Nat,k≤l.length∧st=[.b false,.i k]∧∀j,j<k→q6j (l.getD j default) (m.getD j default)=true,fun st=>l.length - (st.getD 1 .u).int.toNat,⟨0,uE _,rfl,fun j hj=>absurd hj (uQ _)⟩,?_⟩;rintro st - ⟨k,hk,rfl,hP⟩;rw[qd];refine⟨fun hlt=>?_,fun hlt=>?_⟩
 ·simp only[gnZ,gnT,z4,qy,z5,qq,z6,z7,qw,z3,z0,qv,qx,qz,qt,qu,qr] at hlt;have hkl:k<l.length:=by omega
  have hkm:k<m.length:=by omega
  simp only[gnZ,gnT,z4,qy,z5,qq,z6,z7,qw,z3,z0,qv,qx,qz,qt,qu,qr,q12 hkl,q12 hkm,q6v];refine⟨⟨by omega,by omega⟩,⟨by omega,by omega⟩,fun hx=>?_,fun hx=>⟨⟨by omega,by omega⟩,?_⟩⟩
  ·rw[qvm,qmk hkl (by simpa using hx)]
  ·rw[q1n,if_pos rfl];refine⟨⟨k+1,by omega,by simp,q3p hP (by simpa using hx)⟩,?_⟩;simp[D.int];omega
 ·simp only[gnZ,gnT,z4,qy,z5,qq,z6,z7,qw,z3,z0,qv,qx,qz,qt,qu,qr] at hlt⊢;have:k=l.length:=by omega
  subst this;rw[qvm,qmc hn hP]
def qbg(g h:FG):Bool:=decide (g.k=h.k)&&decide (g.p=h.p)&&decide (g.v=h.v)&&q3a g.l h.l
def gGG(f:FG→FG→Bool):List D→Option (List D)
 |[a,b]=>some [.b (f (dFG a) (dFG b))]
 |_=>none
theorem qgo(f:List Te→List Te→Bool)(l m:List Te):z0g f [.r (l.map eT),.r (m.map eT)]=some [.b (f l m)]:=by
 simp only[z0g,qo,q33]
theorem qmh:FOk q0h (gGG qbg):=qi0 q35 fun ds outs hw hg=>by
 obtain⟨d,r,rfl,hd,e,r',rfl,he,rfl⟩:=hw;obtain⟨g,rfl,-⟩:=z8m hd;obtain⟨h,rfl,-⟩:=z8m he;simp only[gGG,qu,uA] at hg;subst hg;simp only[q57,gnZ,gnT,z4,qy,z5,qq,z6,z7,qw,z3,z0,qv,qx,qz,qt,qu,qr,qgo,qbg]
theorem q65:FOk zr (z5o dFG (qkn qbg)):=q5k qmh fun ds outs hw hg=>by
 obtain⟨d,r,rfl,hd,e,r',rfl,he,rfl⟩:=hw;obtain⟨l,rfl,hl,-⟩:=z4e hd;obtain⟨m,rfl,hm,-⟩:=z4e he;simp only[z5o,qo,qrm,uA] at hg;subst hg;simp only[q09,gnZ,gnT,z4,qy,z5,qq,z6,z7,qw,z3,z0,qv,qx,qz,qt,qu,qr,gGG];refine⟨fun hn=>?_,fun hn=>?_⟩
 ·rw[qrf (by simp at hn;omega)]
 have hn:l.length=m.length:=by simp at hn;omega
 rw[j7];refine⟨fun st=>∃k:Nat,k≤l.length∧st=[.b false,.i k]∧∀j,j<k→qbg (l.getD j default) (m.getD j default)=true,fun st=>l.length - (st.getD 1 .u).int.toNat,⟨0,uE _,rfl,fun j hj=>absurd hj (uQ _)⟩,?_⟩;rintro st - ⟨k,hk,rfl,hP⟩;rw[qd];refine⟨fun hlt=>?_,fun hlt=>?_⟩
 ·simp only[gnZ,gnT,z4,qy,z5,qq,z6,z7,qw,z3,z0,qv,qx,qz,qt,qu,qr] at hlt;have hkl:k<l.length:=by omega
  have hkm:k<m.length:=by omega
  simp only[gnZ,gnT,z4,qy,z5,qq,z6,z7,qw,z3,z0,qv,qx,qz,qt,qu,qr,qb6 eFG hkl,qb6 eFG hkm,gGG];refine⟨⟨by omega,by omega⟩,⟨by omega,by omega⟩,fun hx=>?_,fun hx=>⟨⟨by omega,by omega⟩,?_⟩⟩
  ·rw[qmk hkl (by simpa using hx)]
  ·rw[q1n,if_pos rfl];refine⟨⟨k+1,by omega,by simp,q3p hP (by simpa using hx)⟩,?_⟩;simp[D.int];omega
 ·simp only[gnZ,gnT,z4,qy,z5,qq,z6,z7,qw,z3,z0,qv,qx,qz,qt,qu,qr] at hlt⊢;have:k=l.length:=by omega
  subst this;rw[qmc hn hP]
def eqF(a b:FC):Bool:=decide (a.p=b.p)&&q3a a.l b.l&&qkn qbg a.g b.g
def qpb(a b:FC):Bool:=q1h a&&q1h b&&eqF a b
def gFF(f:FC→FC→Bool):List D→Option (List D)
 |[a,b]=>some [.b (f (dFC a) (dFC b))]
 |_=>none
theorem z8i(l m:List FG):z5o dFG (qkn qbg) [.r (l.map eFG),.r (m.map eFG)]=some [.b (qkn qbg l m)]:=by
 simp only[z5o,qo,qrm]
theorem qqp:FOk q1d (gFF qpb):=qob q91 q35 q65 fun ds outs hw hg=>by
 obtain⟨d,r,rfl,hd,e,r',rfl,he,rfl⟩:=hw;obtain⟨a,rfl,-⟩:=qfw hd;obtain⟨b,rfl,-⟩:=qfw he;simp only[gFF,qr,uA] at hg;subst hg;simp only[q7q,gnZ,gnT,z4,qy,z5,qq,z6,z7,qw,z3,z0,qv,qx,qz,qt,qu,qr,gFb,qgo,z8i,qpb,eqF,kQ]
theorem qm1:FOk q0f (gFF eqF):=qjf qh0 fun ds outs hw hg=>by
 obtain⟨d,r,rfl,hd,e,r',rfl,he,rfl⟩:=hw;obtain⟨a,rfl,-,-,ha,-⟩:=qfw hd;obtain⟨b,rfl,-,-,hb,-⟩:=qfw he;simp only[gFF,qr,uA] at hg;subst hg;rw[q50,q9];refine⟨by simp only[gnZ,gnT,z4,qy,z5,qq,z6,z7,qw,z3,z0,qv,qx,qz,qt,qu,qr,qgo],?_⟩;rw[qd];refine⟨fun h=>?_,fun h=>?_⟩
 ·simp only[gnZ,gnT,z4,qy,z5,qq,z6,z7,qw,z3,z0,qv,qx,qz,qt,qu,qr,qgo] at h;simp only[gnZ,gnT,z4,qy,z5,qq,z6,z7,qw,z3,z0,qv,qx,qz,qt,qu,qr]
  congr 2
  unfold eqF;simp only[uP,kM] at h;rcases h with(h|h)|h
  ·rw[h,uM,uM]
  ·rw[h,uR,uM]
  ·rw[qrf (by have:=of_decide_eq_false h;omega),uR]
 ·simp only[gnZ,gnT,z4,qy,z5,qq,z6,z7,qw,z3,z0,qv,qx,qz,qt,qu,qr,qgo,uO,uL] at h;have hn:a.g.length=b.g.length:=by have:=h.2;omega
  unfold eqF;rw[decide_eq_true h.1.1,h.1.2,uS,uS];rw[j7];refine⟨fun st=>∃k:Nat,k≤a.g.length∧st=[.b false,.i k]∧∀j,j<k→qbg (a.g.getD j default) (b.g.getD j default)=true,fun st=>a.g.length - (st.getD 1 .u).int.toNat,⟨0,uE _,rfl,fun j hj=>absurd hj (uQ _)⟩,?_⟩;rintro st - ⟨k,hk,rfl,hP⟩;rw[qd];refine⟨fun hlt=>?_,fun hlt=>?_⟩
  ·simp only[gnZ,gnT,z4,qy,z5,qq,z6,z7,qw,z3,z0,qv,qx,qz,qt,qu,qr] at hlt;have hkl:k<a.g.length:=by omega
   have hkm:k<b.g.length:=by omega
   simp only[gnZ,gnT,z4,qy,z5,qq,z6,z7,qw,z3,z0,qv,qx,qz,qt,qu,qr,qb6 eFG hkl,qb6 eFG hkm,qgo];have hno:=fun h=>qmk (f:=qbg) (l:=a.g) (m:=b.g) hkl h;have hyes:=fun h=>q3p hP h;generalize a.g.getD k default=g at *;generalize b.g.getD k default=g' at *;have e:(!decide (g.k=g'.k)|| !decide (g.p=g'.p)|| !decide (g.v=g'.v)|| !q3a g.l g'.l)= !qbg g g':=by
    unfold qbg;cases decide (g.k=g'.k)<;>cases decide (g.p=g'.p)<;>cases decide (g.v=g'.v)<;>cases q3a g.l g'.l<;>rfl
   rw[e];refine⟨⟨by omega,by omega,by omega,by omega⟩,fun hx=>?_,fun hx=>⟨⟨by omega,by omega⟩,?_⟩⟩
   ·rw[hno (by simpa using hx)]
   ·rw[q1n,if_pos rfl];refine⟨⟨k+1,by omega,by simp,hyes (by simpa using hx)⟩,?_⟩;simp[D.int];omega
  ·simp only[gnZ,gnT,z4,qy,z5,qq,z6,z7,qw,z3,z0,qv,qx,qz,qt,qu,qr] at hlt⊢;have:k=a.g.length:=by omega
   subst this;rw[qmc hn hP]
theorem qo8:FOk q0t (gFF qpb):=ql8 qb7 qm1 fun ds outs hw hg=>by
 obtain⟨d,r,rfl,hd,e,r',rfl,he,rfl⟩:=hw;obtain⟨a,rfl,-⟩:=qfw hd;obtain⟨b,rfl,-⟩:=qfw he;simp only[gFF,qr,uA] at hg;subst hg;simp only[q62,gnZ,gnT,z4,qy,z5,qq,z6,z7,qw,z3,z0,qv,qx,qz,qt,qu,qr,gFb,gFF,qpb]
def qpc:Int→List FG→Bool
 |n,[]=>decide (5000<n)
 |n,g::l=>if n≤5000 then(if 5000<(g.l.length:Int) then true else qpc (n+g.l.length) l) else decide (5000<n)
def qt3(f:FC):Bool:=if decide (5000<(f.l.length:Int))||decide (2000<(f.g.length:Int)) then true else qpc (f.l.length:Int) f.g
theorem qo2:FOk q0s (gFb qt3):=qkh fun ds outs hw hg=>by
 obtain⟨d,r,rfl,hd,rfl⟩:=hw;obtain⟨f,rfl,hp,⟨hl,-⟩,hgl,hgo⟩:=qfw hd;simp only[gFb,qr,uA] at hg;subst hg;rw[q6e,qd];refine⟨fun h=>?_,fun h=>?_⟩
 ·simp only[gnZ,gnT,z4,qy,z5,qq,z6,z7,qw,z3,z0,qv,qx,qz,qt,qu,qr] at h;unfold qt3;rw[if_pos h];simp only[gnZ,gnT,z4,qy,z5,qq,z6,z7,qw,z3,z0,qv,qx,qz,qt,qu,qr]
 ·simp only[gnZ,gnT,z4,qy,z5,qq,z6,z7,qw,z3,z0,qv,qx,qz,qt,qu,qr] at h;unfold qt3;rw[if_neg (by rw[h];decide)];generalize hV:qpc (f.l.length:Int) f.g=r;have h5:(f.l.length:Int)≤5000:=by
   simp only[uO] at h;have:=of_decide_eq_false h.1;omega
  rw[j7];refine⟨fun st=>∃(k:Nat)(n:Int),k≤f.g.length∧st=[.b false,.i n,.i k]∧(0≤n∧n≤10000)∧r=qpc n (f.g.drop k),fun st=>f.g.length - (st.getD 2 .u).int.toNat,⟨0,(f.l.length:Int),uE _,?_,⟨by omega,by omega⟩,hV.symm⟩,?_⟩
  ·simp only[gnZ,gnT,z4,qy,z5,qq,z6,z7,qw,z3,z0,qv,qx,qz,qt,qu,qr];rfl
  rintro st - ⟨k,n,hk,rfl,hn,hP⟩;rw[qd];refine⟨fun hlt=>?_,fun hlt=>?_⟩
  ·simp only[gnZ,gnT,z4,qy,z5,qq,z6,z7,qw,z3,z0,qv,qx,qz,qt,qu,qr,gnB] at hlt;have hkl:k<f.g.length:=by omega
   rw[q71 hkl,qpc,if_pos hlt.2] at hP;simp only[gnZ,gnT,z4,qy,z5,qq,z6,z7,qw,z3,z0,qv,qx,qz,qt,qu,qr,qb6 eFG hkl];refine⟨⟨by omega,by omega⟩,fun hx=>?_,fun hx=>⟨⟨by omega,by omega,by omega,by omega⟩,⟨by omega,by omega⟩,?_⟩⟩
   ·rw[if_pos hx] at hP;rw[hP]
   ·rw[if_neg hx] at hP;rw[q1n,if_pos rfl];refine⟨⟨k+1,_,by omega,rfl,⟨by omega,by omega⟩,hP⟩,?_⟩;simp[D.int];omega
  ·simp only[gnZ,gnT,z4,qy,z5,qq,z6,z7,qw,z3,z0,qv,qx,qz,qt,qu,qr,Bool.and_eq_false_iff] at hlt;simp only[gnZ,gnT,z4,qy,z5,qq,z6,z7,qw,z3,z0,qv,qx,qz,qt,qu,qr];rcases Nat.lt_or_ge k f.g.length with hkl|hkl
   ·rw[q71 hkl,qpc] at hP;have:¬n≤5000:=by
     rcases hlt with hlt|hlt
     ·exact absurd hlt (by omega)
     ·exact hlt
    rw[if_neg this] at hP;rw[hP]
   ·have:k=f.g.length:=by omega
    subst this;rw[uN] at hP;rw[hP];rfl
def qco:ByteArray:=⟨#[116,114,117,101]⟩
def qf3:ByteArray:=⟨#[102,97,105,108]⟩
def quw:ByteArray:=⟨#[33]⟩
def qj8:ByteArray:=⟨#[92,43]⟩
def qb4:ByteArray:=⟨#[111,110,99,101]⟩
abbrev ag(t:Te)(j:Nat):Te:=t.l.getD j default
def qii(t:Te):Bool:=isT t q51 2||isT t q5y 2||isT t q1g 2||isT t qj8 1||isT t qb4 1
mutual
/-- How many goals the parts of a goal are, at most. -/
def rho:Te→Nat
 |.mk k n s l=>if qii (.mk k n s l) then rhos l+1 else 1
def rhos:List Te→Nat
 |[]=>0
 |t::l=>rho t+rhos l
end
theorem qtr(t:Te):rho t=if qii t then rhos t.l+1 else 1:=by cases t;rw[rho];rfl
theorem q18(t:Te):1≤rho t:=by rw[qtr];split<;>omega
theorem qxc{t:Te}{s:ByteArray}{n:Int}(h:isT t s n=true):(t.l.length:Int)=n:=by
 simp only[isT,gnB,gnD] at h;exact h.2
theorem qag{t:Te}(h:isT t q51 2=true∨isT t q5y 2=true∨isT t q1g 2=true):rho t=rho (ag t 0)+rho (ag t 1)+1∧t.l.length=2:=by
 have hl:t.l.length=2:=by rcases h with h|h|h<;>(have:=qxc h;omega)
 have hc:qii t=true:=by
  unfold qii;rcases h with h|h|h<;>simp[h]
 refine⟨?_,hl⟩;rw[qtr,if_pos hc];have e:=z3a hl;unfold ag;generalize t.l.getD 0 default=a at *;generalize t.l.getD 1 default=b at *;rw[e];simp only[rhos];omega
theorem qpr{t:Te}(h:isT t qj8 1=true∨isT t qb4 1=true):rho t=rho (ag t 0)+1∧t.l.length=1:=by
 have hl:t.l.length=1:=by rcases h with h|h<;>(have:=qxc h;omega)
 have hc:qii t=true:=by
  unfold qii;rcases h with h|h<;>simp[h]
 refine⟨?_,hl⟩;rw[qtr,if_pos hc];unfold ag
 match ht:t.l,hl with
 |[a],_=>simp[rhos]
theorem quk(a:Te):rho (.mk 3 0 qkt [a])=1:=by
 rw[qtr,if_neg];simp[qii,isT,Te.k,Te.s,Te.l,qkt,q51,q5y,q1g,qj8,qb4]
theorem qwj{t:Te}(h:q0l t=true):isT t q51 2=true∨isT t q5y 2=true∨isT t q1g 2=true:=by
 simp only[q0l,gnB,uP,gnD] at h;obtain⟨⟨h1,h2⟩,(h3|h3)|h3⟩:=h
 ·exact .inl (by simp[isT,h1,h2,h3])
 ·exact .inr (.inl (by simp[isT,h1,h2,h3]))
 ·exact .inr (.inr (by simp[isT,h1,h2,h3]))
mutual
theorem qpm:∀(t u:Te),jv t=some u→rho u=rho t
 | .mk k n s l, u, h => by
  rw[jv] at h;split at h
  ·rename_i hk;injection h with h;subst h;rw[quk,qtr,if_neg];simp[qii,isT,Te.k,hk]
  ·split at h
   ·rename_i hb;split at h
    ·rename_i m hm;injection h with h;subst h;obtain⟨e1,e2⟩:=qlh l m hm;have hc:=qwj hb;have hc1:qii (.mk k n s l)=true:=by
      unfold qii;rcases hc with h|h|h<;>simp[h]
     have hk3:k=3:=(q54 hb).2;have hc2:qii (.mk 3 0 s m)=true:=by
      have:∀q z,isT (.mk 3 0 s m) q z=isT (.mk k n s l) q z:=fun q z=>by
       subst hk3
       show(((decide ((3:Int)=2)||decide ((3:Int)=3))&&decide (s=q))&&decide ((m.length:Int)=z))=(((decide ((3:Int)=2)||decide ((3:Int)=3))&&decide (s=q))&&decide ((l.length:Int)=z))
       rw[e2]
      unfold qii at hc1⊢;rw[this,this,this,this,this];exact hc1
     rw[rho,rho,if_pos hc1,if_pos hc2,e1]
    ·cases h
   ·split at h
    ·injection h with h;subst h;rfl
    ·cases h
theorem qlh:∀(l m:List Te),q3e l=some m→rhos m=rhos l∧m.length=l.length
 |[],m,h=>by
  rw[q3e] at h;injection h with h;subst h;exact⟨rfl,rfl⟩
 | t :: l, m, h => by
  rw[q3e] at h;split at h
  ·rename_i x y hx hy;injection h with h;subst h;obtain⟨e1,e2⟩:=qlh l y hy;have e3:=qpm t x hx;exact⟨by rw[rhos,rhos,e1,e3],by simp[e2]⟩
  ·cases h
end
def q29(a:Te):Te:=if(q2x a).2 then(q2x a).1 else .mk 3 0 qkt [a]
theorem qvo{a:Te}(h:(q2x a).2=true):jv a=some (q2x a).1:=by
 unfold q2x at h⊢;cases hv:y7 a with
 |false=>rw[hv] at h;cases h
 | true =>
  rw[hv] at h;simp only[if_true] at h⊢;cases hb:jv a with
  |none=>rw[hb] at h;cases h
  |some u=>
   rw[hb] at h;simp only at h⊢;by_cases hs:2000<szT u
   ·rw[if_pos hs] at h;cases h
   ·rw[if_neg hs]
theorem q6z(a:Te):rho (q29 a)≤rho a:=by
 unfold q29;have:=q18 a;split
 ·rename_i h;rw[qpm a _ (qvo h)];exact uF _
 ·rw[quk];exact this
structure X24 where
 nv:Int
 na:Int
 tr:Bool
 aux:List (List FC)
abbrev Rec:=X24→Te→Int→List FG×X24
def opG(k v:Int):FG:=⟨k,zPr,[],v⟩
def qlb(p:Pr)(l:List Te):FG:=⟨1,p,l.map q3x,0⟩
def X24.var(x:X24):X24:=⟨x.nv+1,x.na,x.tr,x.aux⟩
def X24.pred(x:X24):X24:=⟨x.nv,x.na+1,x.tr,x.aux++[[]]⟩
def X24.put(x:X24)(n:Nat)(l:List FC):X24:=⟨x.nv,x.na,x.tr,x.aux.set n l⟩
def q2e(r:List FG×X24)(f:X24→List FG×X24):List FG×X24:=(r.1++(f r.2).1,(f r.2).2)
def qzv(r:List FG×X24)(f:X24→List FG×X24):List (List FG)×X24:=([r.1,(f r.2).1],(f r.2).2)
def qzn(r:List FG×X24):List (List FG)×X24:=([r.1],r.2)
def noX(r:List FG×X24):List (List FG)×X24:=([r.1,[]],r.2)
def z0x(rec:Rec)(x:X24)(a b:Te)(cut:Int):List FG×X24:=
 q2e (q2e (q2e ([opG 2 x.nv,opG 3 (x.nv+1)],x.var.var) fun y=>rec y a (x.nv+1)) fun y=>([opG 4 x.nv],y)) fun y=>rec y b cut
def q3d(rec:Rec)(x:X24)(g:Te)(cut:Int):List (List FG)×X24:=
 if isT (ag g 0) q1g 2 then qzv (z0x rec x (ag (ag g 0) 0) (ag (ag g 0) 1) cut) fun y=>rec y (ag g 1) cut
 else qzv (rec x (ag g 0) cut) fun y=>rec y (ag g 1) cut
def q4w(rec:Rec)(x:X24)(g:Te):List FG×X24:=
 q2e (q2e ([opG 3 x.nv],x.var) fun y=>rec y g x.nv) fun y=>([opG 4 x.nv],y)
def qel(rec:Rec)(x:X24)(g:Te)(cut:Int):List (List FG)×X24:=
 qzn (q2e (q4w rec x (ag g 0)) fun y=>rec y (ag g 1) cut)
def qsh(rec:Rec)(x:X24)(g:Te):List (List FG)×X24:=
 noX (q2e (q2e ([opG 2 x.nv,opG 3 (x.nv+1)],x.var.var) fun y=>rec y (q29 (ag g 0)) (x.nv+1)) fun y=>([opG 4 x.nv,opG 5 0],y))
def qeo(rec:Rec)(x:X24)(g:Te):List (List FG)×X24:=qzn (q4w rec x (q29 (ag g 0)))
def qbn(g:Te)(cut:Int):List Te:=(q8x g).map q2z++(if q6m g then[q2z cut] else[])
def qx6(g:Te)(cut:Int)(x:X24):Pr:=⟨⟨#[]⟩,((qbn g cut).length:Nat),x.na⟩
def qcr(g:Te)(cut:Int)(x:X24)(l:List (List FG)):List FC:=l.map fun gs=>⟨qx6 g cut x,qbn g cut,gs⟩
def q8t(bodies:X24→List (List FG)×X24)(x:X24)(g:Te)(cut:Int):FG×X24:=
 (qlb (qx6 g cut x) (qbn g cut),(bodies x.pred).2.put x.aux.length (qcr g cut x (bodies x.pred).1))
def onR(r:FG×X24):List FG×X24:=([r.1],r.2)
def z7k:ByteArray:=⟨#[99,97,108,108]⟩
def z3m(g:Te):Bool:=if g.s=⟨#[]⟩ then true
 else if g.s=z7k then(decide ((g.l.length:Int)<1)||decide (8<(g.l.length:Int)))
 else if g.s=⟨#[99,97,116,99,104]⟩∨g.s=⟨#[102,105,110,100,97,108,108]⟩∨g.s=⟨#[98,97,103,111,102]⟩∨g.s=⟨#[115,101,116,111,102]⟩ then !decide ((g.l.length:Int)=3)
 else !decide (((g.s.data.getD 0 0).toNat:Int)=36)
def qw2(g:Te):FG:=qlb ⟨g.s,(g.l.length:Nat),0⟩ g.l
def qwr(x:X24)(g:Te):List FG×X24:=
 if !x.tr|| !z3m g then([qw2 g],x) else([qlb ⟨⟨#[]⟩,2,1099511627776⟩ [q2z x.nv,g],qw2 g,qlb ⟨⟨#[]⟩,2,1099511627775⟩ [q2z x.nv,g]],x.var)
def q6n(rec:Rec):Rec:=fun x g cut=>
 if isT g qco 0 then([],x) else if isT g qf3 0 then([opG 5 0],x) else if isT g quw 0 then([opG 4 cut],x)
 else if isT g q51 2 then q2e (rec x (ag g 0) cut) fun y=>rec y (ag g 1) cut
 else if isT g q5y 2 then onR (q8t (fun y=>q3d rec y g cut) x g cut)
 else if isT g q1g 2 then onR (q8t (fun y=>qel rec y g cut) x g cut)
 else if isT g qj8 1 then onR (q8t (fun y=>qsh rec y g) x g cut)
 else if isT g qb4 1 then onR (q8t (fun y=>qeo rec y g) x g cut)
 else qwr x g
def qp9:Nat→Rec
 |0=>fun x _ _=>([],x)
 |n+1=>q6n (qp9 n)
def q05:Rec:=fun x g cut=>qp9 (rho g) x g cut
theorem qqr{r r':Rec}{g:Te}(hg:isT g q5y 2=true)(h:∀g',rho g'<rho g→∀x c,r x g' c=r' x g' c)(x:X24)(c:Int):q3d r x g c=q3d r' x g c:=by
 have hr:=(qag (.inr (.inl hg))).1;unfold q3d;split
 ·rename_i ha;have hr2:=(qag (.inr (.inr ha))).1;simp only[z0x,q2e,qzv,h _ (show rho (ag (ag g 0) 0)<rho g by omega),h _ (show rho (ag (ag g 0) 1)<rho g by omega),h _ (show rho (ag g 1)<rho g by omega)]
 ·simp only[qzv,h _ (show rho (ag g 0)<rho g by omega),h _ (show rho (ag g 1)<rho g by omega)]
theorem qwo{r r':Rec}{g:Te}(hg:isT g q1g 2=true)(h:∀g',rho g'<rho g→∀x c,r x g' c=r' x g' c)(x:X24)(c:Int):qel r x g c=qel r' x g c:=by
 have hr:=(qag (.inr (.inr hg))).1;simp only[qel,q4w,q2e,qzn,h _ (show rho (ag g 0)<rho g by omega),h _ (show rho (ag g 1)<rho g by omega)]
theorem not_congr{r r':Rec}{g:Te}(hg:isT g qj8 1=true)(h:∀g',rho g'<rho g→∀x c,r x g' c=r' x g' c)(x:X24):qsh r x g=qsh r' x g:=by
 have hr:=(qpr (.inl hg)).1;have hi:=q6z (ag g 0);simp only[qsh,q2e,noX,h _ (show rho (q29 (ag g 0))<rho g by omega)]
theorem qvy{r r':Rec}{g:Te}(hg:isT g qb4 1=true)(h:∀g',rho g'<rho g→∀x c,r x g' c=r' x g' c)(x:X24):qeo r x g=qeo r' x g:=by
 have hr:=(qpr (.inr hg)).1;have hi:=q6z (ag g 0);simp only[qeo,q4w,q2e,qzn,h _ (show rho (q29 (ag g 0))<rho g by omega)]
theorem qmv{r r':Rec}{g:Te}(h:∀g',rho g'<rho g→∀x c,r x g' c=r' x g' c)(x:X24)(c:Int):q6n r x g c=q6n r' x g c:=by
 unfold q6n;split
 ·rfl
 split
 ·rfl
 split
 ·rfl
 split
 ·rename_i hg;have hr:=(qag (.inl hg)).1;simp only[q2e,h _ (show rho (ag g 0)<rho g by omega),h _ (show rho (ag g 1)<rho g by omega)]
 split
 ·rename_i hg;simp only[qqr hg h]
 split
 ·rename_i hg;simp only[qwo hg h]
 split
 ·rename_i hg;simp only[not_congr hg h]
 split
 ·rename_i hg;simp only[qvy hg h]
 ·rfl
theorem qm6:∀(n m:Nat)(g:Te),rho g≤n→rho g≤m→∀x c,qp9 n x g c=qp9 m x g c
 |0,_,g,h,_,_,_=>by have:=q18 g;omega
 |_,0,g,_,h,_,_=>by have:=q18 g;omega
 |n+1,m+1,g,h1,h2,x,c=>qmv (fun g' hg' x c=>qm6 n m g' (by omega) (by omega) x c) x c
theorem qvr(x:X24)(g:Te)(c:Int):q05 x g c=q6n q05 x g c:=by
 have h:=q18 g
 show qp9 (rho g) x g c=_
 obtain⟨n,hn⟩:∃n,rho g=n+1:=⟨rho g - 1,by omega⟩;rw[hn];exact qmv (fun g' hg' x c=>qm6 n (rho g') g' (by omega) (uF _) x c) x c
structure Grw(x y:X24)(v a:Nat):Prop where
 v0:x.nv≤y.nv
 v1:y.nv≤x.nv+v
 tr:y.tr=x.tr
 na:y.na - x.na=(y.aux.length:Int) - x.aux.length
 a0:x.aux.length≤y.aux.length
 a1:y.aux.length≤x.aux.length+a
theorem Grw.refl(x:X24):Grw x x 0 0:=⟨Int.le_refl _,by simp,rfl,by omega,uF _,uF _⟩
theorem Grw.trans{x y z:X24}{v a v' a':Nat}(h:Grw x y v a)(h':Grw y z v' a'):Grw x z (v+v') (a+a'):=by
 obtain⟨h1,h2,h3,h4,h5,h6⟩:=h;obtain⟨g1,g2,g3,g4,g5,g6⟩:=h';exact⟨by omega,by push_cast;omega,g3.trans h3,by omega,by omega,by omega⟩
theorem Grw.mono{x y:X24}{v a v' a':Nat}(h:Grw x y v a)(hv:v≤v')(ha:a≤a'):Grw x y v' a':=⟨h.v0,by have:=h.v1;omega,h.tr,h.na,h.a0,by have:=h.a1;omega⟩
theorem Grw.var(x:X24):Grw x x.var 1 0:=⟨by show x.nv≤x.nv+1;omega,by show x.nv+1≤_;simp,rfl,by show x.na - x.na=(x.aux.length:Int) - x.aux.length;omega,uF _,uF _⟩
def Bnd(r:List FG×X24)(x:X24)(v a L:Nat):Prop:=Grw x r.2 v a∧r.1.length≤L
theorem q3o{r:List FG×X24}{f:X24→List FG×X24}{x:X24}{v a L v' a' L':Nat}(h:Bnd r x v a L)(h':Bnd (f r.2) r.2 v' a' L'):Bnd (q2e r f) x (v+v') (a+a') (L+L'):=⟨h.1.trans h'.1,by
 have h1:=h.2;have h2:=h'.2
 show(r.1++(f r.2).1).length≤_
 rw[kL];omega⟩
def qik(r:Rec)(g:Te):Prop:=∀x c,Bnd (r x g c) x (2 * rho g) (rho g) (3 * rho g)
theorem z6k{r:Rec}{a b:Te}(ha:qik r a)(hb:qik r b)(x:X24)(c:Int):Bnd (z0x r x a b c) x (2+2 * rho a+2 * rho b) (rho a+rho b) (3+3 * rho a+3 * rho b):=by
 have h:=q3o (f:=fun y=>r y b c) (q3o (f:=fun y=>([opG 4 x.nv],y)) (v':=0) (a':=0) (L':=1) (q3o (f:=fun y=>r y a (x.nv+1)) (v:=2) (a:=0) (L:=2) (r:=([opG 2 x.nv,opG 3 (x.nv+1)],x.var.var)) ⟨(Grw.var x).trans (Grw.var _),uF _⟩ (ha _ _)) ⟨Grw.refl _,uF _⟩) (hb _ _);exact⟨h.1.mono (by omega) (by omega),by have:=h.2;unfold z0x;omega⟩
theorem qfu{r:Rec}{a:Te}(ha:qik r a)(x:X24):Bnd (q4w r x a) x (1+2 * rho a) (rho a) (2+3 * rho a):=by
 have h:=q3o (f:=fun y=>([opG 4 x.nv],y)) (v':=0) (a':=0) (L':=1) (q3o (f:=fun y=>r y a x.nv) (v:=1) (a:=0) (L:=1) (r:=([opG 3 x.nv],x.var)) ⟨Grw.var x,uF _⟩ (ha _ _)) ⟨Grw.refl _,uF _⟩;exact⟨h.1.mono (by omega) (by omega),by have:=h.2;unfold q4w;omega⟩
theorem qec{b:X24→List (List FG)×X24}{x:X24}{g:Te}{c:Int}{v a:Nat}(h:Grw x.pred (b x.pred).2 v a):Bnd (onR (q8t b x g c)) x v (a+1) 1:=by
 obtain⟨h1,h2,h3,h4,h5,h6⟩:=h;have e:x.pred.aux.length=x.aux.length+1:=by simp[X24.pred]
 have e2:((b x.pred).2.put x.aux.length (qcr g c x (b x.pred).1)).aux.length=(b x.pred).2.aux.length:=by simp[X24.put]
 rw[e] at h4 h5 h6;refine⟨⟨h1,h2,h3,?_,?_,?_⟩,uF _⟩
 ·show(b x.pred).2.na - x.na=(((b x.pred).2.put x.aux.length (qcr g c x (b x.pred).1)).aux.length:Int) - x.aux.length
  rw[e2];have:x.pred.na=x.na+1:=rfl
  push_cast at h4
  omega
 ·show x.aux.length≤((b x.pred).2.put x.aux.length (qcr g c x (b x.pred).1)).aux.length
  omega
 ·show((b x.pred).2.put x.aux.length (qcr g c x (b x.pred).1)).aux.length≤_
  omega
theorem qma{r:Rec}{g:Te}(hg:isT g q5y 2=true)(h:∀g',rho g'<rho g→qik r g')(x:X24)(c:Int):Grw x (q3d r x g c).2 (2 * rho g) (rho g - 1):=by
 have hr:=(qag (.inr (.inl hg))).1;unfold q3d;split
 ·rename_i ha;have hr2:=(qag (.inr (.inr ha))).1;exact((z6k (h _ (by omega)) (h _ (by omega)) x c).1.trans (h (ag g 1) (by omega) _ c).1).mono (by omega) (by omega)
 ·exact((h (ag g 0) (by omega) x c).1.trans (h (ag g 1) (by omega) _ c).1).mono (by omega) (by omega)
theorem qtl{r:Rec}{g:Te}(hg:isT g q1g 2=true)(h:∀g',rho g'<rho g→qik r g')(x:X24)(c:Int):Grw x (qel r x g c).2 (2 * rho g) (rho g - 1):=by
 have hr:=(qag (.inr (.inr hg))).1;exact((qfu (h (ag g 0) (by omega)) x).1.trans (h (ag g 1) (by omega) _ c).1).mono (by omega) (by omega)
theorem z5f{r:Rec}{a:Te}(ha:qik r a)(x:X24):Bnd (q2e (q2e ([opG 2 x.nv,opG 3 (x.nv+1)],x.var.var) fun y=>r y a (x.nv+1)) fun y=>([opG 4 x.nv,opG 5 0],y)) x (2+2 * rho a) (rho a) (4+3 * rho a):=by
 have h:=q3o (f:=fun y=>([opG 4 x.nv,opG 5 0],y)) (v':=0) (a':=0) (L':=2) (q3o (f:=fun y=>r y a (x.nv+1)) (v:=2) (a:=0) (L:=2) (r:=([opG 2 x.nv,opG 3 (x.nv+1)],x.var.var)) ⟨(Grw.var x).trans (Grw.var _),uF _⟩ (ha _ _)) ⟨Grw.refl _,uF _⟩;exact⟨h.1.mono (by omega) (by omega),by have:=h.2;omega⟩
theorem qyo{r:Rec}{g:Te}(hg:isT g qj8 1=true)(h:∀g',rho g'<rho g→qik r g')(x:X24):Grw x (qsh r x g).2 (2 * rho g) (rho g - 1):=by
 have hr:=(qpr (.inl hg)).1;have hi:=q6z (ag g 0);exact(z5f (h (q29 (ag g 0)) (by omega)) x).1.mono (by omega) (by omega)
theorem qsz{r:Rec}{g:Te}(hg:isT g qb4 1=true)(h:∀g',rho g'<rho g→qik r g')(x:X24):Grw x (qeo r x g).2 (2 * rho g) (rho g - 1):=by
 have hr:=(qpr (.inr hg)).1;have hi:=q6z (ag g 0);exact(qfu (h (q29 (ag g 0)) (by omega)) x).1.mono (by omega) (by omega)
theorem Bnd.mono{r:List FG×X24}{x:X24}{v a L v' a' L':Nat}(h:Bnd r x v a L)(hv:v≤v')(ha:a≤a')(hl:L≤L'):Bnd r x v' a' L':=⟨h.1.mono hv ha,Nat.le_trans h.2 hl⟩
theorem z2z{r:Rec}{g:Te}(h:∀g',rho g'<rho g→qik r g'):qik (q6n r) g:=fun x c=>by
 have hp:=q18 g;unfold q6n;split
 ·exact⟨(Grw.refl x).mono (by omega) (by omega),uE _⟩
 split
 ·exact⟨(Grw.refl x).mono (by omega) (by omega),by show 1≤_;omega⟩
 split
 ·exact⟨(Grw.refl x).mono (by omega) (by omega),by show 1≤_;omega⟩
 split
 ·rename_i hg;have hr:=(qag (.inl hg)).1;exact(q3o (f:=fun y=>r y (ag g 1) c) (h (ag g 0) (by omega) x c) (h (ag g 1) (by omega) _ c)).mono (by omega) (by omega) (by omega)
 split
 ·rename_i hg;exact(qec (qma hg h _ _)).mono (by omega) (by omega) (by omega)
 split
 ·rename_i hg;exact(qec (qtl hg h _ _)).mono (by omega) (by omega) (by omega)
 split
 ·rename_i hg;exact(qec (qyo hg h _)).mono (by omega) (by omega) (by omega)
 split
 ·rename_i hg;exact(qec (qsz hg h _)).mono (by omega) (by omega) (by omega)
 ·unfold qwr;split
  ·exact⟨(Grw.refl x).mono (by omega) (by omega),by show 1≤_;omega⟩
  ·exact⟨(Grw.var x).mono (by omega) (by omega),by show 3≤_;omega⟩
theorem qpn:∀(n:Nat)(g:Te),rho g≤n→qik (qp9 n) g
 |0,g,h=>by have:=q18 g;omega
 |n+1,g,h=>z2z fun g' hg'=>qpn n g' (by omega)
theorem q06(g:Te):qik q05 g:=fun x c=>qpn (rho g) g (uF _) x c
end Go.Proofs.Ytbmaffphliignaa
