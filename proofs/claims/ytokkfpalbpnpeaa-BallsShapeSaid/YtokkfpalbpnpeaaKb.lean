/-
 Lemmas of the walk and plain laws, put together. No condition.
-/
import Derived.Test.YtokkfpalbpnpeaaKa
namespace Go.Proofs.Ytokkfpalbpnpeaa
open Go.RowKit
set_option linter.unusedVariables false
set_option linter.unusedSimpArgs false
set_option maxRecDepth 100000
open _root_.Go.Proofs.Try renaming prog→uA
open _root_.Nat renaming beq→uB,mul_le_mul_right→uC,zero_add→uE,add_mul→uO,add_sub_cancel_left→kJ,le_refl→kK,add_zero→kM,ble→vA,le_trans→vC,zero_mul→vM,one_mul→vP,div_mul_le_self→vS,eq_zero_or_pos→vT,beq_eq→vU,mod_eq_of_lt→vY,mul_le_mul→jG,sub_self→jK,mul_comm→jL,blt→jM,mul_pos→jN,mod_lt→jO
open _root_.List renaming getElem?_append_right→uD,getElem?_take_of_lt→uF,mem_append_right→uH,getElem?_append_left→uI,mem_append_left→uJ,size_toArray→uP,eq_nil_of_length_eq_zero→uR,getElem?_toArray→uU,length_append→uW,getElem?_eq_none→kB,mem_filter→kC,length_take→kE,getElem?_drop→kF,mem_cons_of_mem→kH,mem_cons_self→kI,replicate→kN,append_assoc→kQ,length_cons→kS,mem_map→kU,drop_eq_nil_of_le→kV,take_append_drop→kX,ext_getElem?→vB,all_eq_true→vE,nil_append→vF,take_left→vI,getElem_replicate→vK,getElem_set_ne→vQ,getElem_of_mem→vR,drop_append→vW,mem_append→vZ,length_set→jA,append_inj→jB,mem_range→jC,drop_zero→jD,mem_cons→jH,map_cons→jI
open _root_.Option renaming bind_eq_some_iff→uG,isSome_iff_exists→uZ,map_eq_some_iff→kR,isNone_iff_eq_none→vG
open Result renaming andThen_ok→uK
open Builtin renaming zeroCells→uL,append_→uM,firstCells→kZ,lenOf→vH,nextslicecap→vJ
open _root_.Array renaming getElem?_toList→uN,size_setIfInBounds→uS,length_toList→uT,getElem?_eq_some_iff→uY,getElem?_append_left→kG,getElem?_eq_getElem→kO,size_append→kP,ext'→kT,range→kY,getElem_modify→vO
open _root_.Bool renaming not_eq_true'→uQ,or_eq_false_iff→uX,or_eq_true→kW,not_eq_false→vV,not_eq_true→vX,false_or→jJ
open Sem renaming run_bind→uV,run_pure→kA,run→kL
section
def q5o(p:qe)(x g:Nat):qe:=fun y=>if y=x then some g else p y
section
variable{A:Bk}{F:Flr}{p:qe}{w w0:World}{S0:Nat→Prop}
theorem yc{x g:Nat}:q5o p x g x=some g:=if_pos rfl
theorem q2j{x g y:Nat}(h:y≠x):q5o p x g y=p y:=if_neg h
theorem q1s{x:Nat}(hx:p x=none)(bd:∀x b,p x=some b→b<w.heap.size)(o:Obj):Stab A no no p w (q5o p x w.heap.size) (w.alloc o):=by
 refine⟨by simp,fun b hb ha hf=>⟨by rw[hget,if_neg (by omega)],fun y hy=>?_⟩,fun y b _ hy=>?_,fun y b _ hy=>?_,fun b hb _=>by rw[hget,if_neg (by omega)]⟩
 ·by_cases hyx:y=x
  ·subst hyx;rw[yc] at hy;injection hy with hy;omega
  ·rw[q2j hyx] at hy;exact hf y hy
 ·rw[q2j (fun e=>by rw[e,hx] at hy;cases hy)];exact hy
 ·have:=bd y b hy;rw[hget,if_neg (by omega)]
abbrev Unf(P:Nat→Prop)(w:World):Prop:=∀b cs T f,P b→w.heap[b]? =some (.cells cs T f)→f=(0,0)
theorem qdg{P:Nat→Prop}(h:Unf P w){o:Obj}(ho:∀cs T f,o=.cells cs T f→f=(0,0)):Unf P (w.alloc o):=fun b cs T f hb hc=>by
 rw[hget] at hc;split at hc
 ·injection hc with hc;exact ho cs T f hc
 ·exact h b cs T f hb hc
theorem qgi{P:Nat→Prop}(h:Unf P w)(g:Nat)(cs0:Array Value):Unf P (w.setRow g cs0):=fun b cs T f hb hc=>by
 by_cases e:b=g
 ·subst e;cases hh:w.heap[b]? with
  | none =>
   have hlt:¬b<w.heap.size:=fun h=>by
    rw[kO h] at hh;cases hh
   have hlt':b<(w.setRow b cs0).heap.size:=(uY.1 hc).1;exact absurd (by simpa using hlt') hlt
  | some o =>
   have hlt:b<w.heap.size:=(uY.1 hh).1;have hv:w.heap[b]=o:=(uY.1 hh).2;cases o with
   |cells c t fr=>
    rw[setRow_heap w b c cs0 t fr hh] at hc;injection hc with hc;injection hc with e1 e2 e3;rw[←e3];exact h b c t fr hb hh
   |_=>
    unfold World.setRow at hc;rw[kO (by simpa using hlt),vO] at hc;simp[hv] at hc
 ·rw[setRow_other w g b cs0 e] at hc;exact h b cs T f hb hc
theorem qfv{x:Nat}(h:Bs A F w0 S0 p w){o:Obj}(ho:(∃cs T,o=.cells cs T)∨∃es clock,o=.map es clock):Bs A F w0 S0 (q5o p x w.heap.size) (w.alloc o):=by
 have hsz:w0.heap.size≤w.heap.size:=h.but.size;refine⟨fun y z b hy hz=>?_,fun y b hy=>?_,h.but.alloc _,fun y b hy=>?_,h.new,fun y b hy=>?_,fun y b hy=>?_,h.flo.same fun k hk _=>by rw[hget,if_neg (by omega)],h.sp,qdg h.uf fun cs T f e=>by rcases ho with⟨cs',T',rfl⟩|⟨es,clock,rfl⟩<;>cases e;rfl⟩
 ·by_cases h1:y=x
  ·subst h1;rw[yc] at hy;injection hy with hy;by_cases h2:z=y
   ·exact h2.symm
   ·rw[q2j h2] at hz;have:=h.bd z b hz;omega
  ·rw[q2j h1] at hy;by_cases h2:z=x
   ·subst h2;rw[yc] at hz;injection hz with hz;have:=h.bd y b hy;omega
   ·rw[q2j h2] at hz;exact h.inj y z b hy hz
 ·by_cases h1:y=x
  ·subst h1;rw[yc] at hy;injection hy with hy;simp;omega
  ·rw[q2j h1] at hy;have:=h.bd y b hy;simp;omega
 ·by_cases h1:y=x
  ·subst h1;rw[yc] at hy;injection hy with hy;exact .inr (by omega)
  ·rw[q2j h1] at hy;exact h.pin y b hy
 ·by_cases h1:y=x
  ·subst h1;rw[yc] at hy;injection hy with hy;exact(h.new b (by omega)).1
  ·rw[q2j h1] at hy;exact h.pa y b hy
 ·by_cases h1:y=x
  ·subst h1;rw[yc] at hy;injection hy with hy;subst hy;rcases ho with⟨cs,T,rfl⟩|⟨es,clock,rfl⟩
   ·exact .inl ⟨cs,T,q0x rfl⟩
   ·exact .inr ⟨es,clock,q0x rfl⟩
  ·rw[q2j h1] at hy;have:=h.bd y b hy;rcases h.obj y b hy with⟨cs',T',h2⟩|⟨es,clock,h2⟩
   ·exact .inl ⟨cs',T',q8n h2⟩
   ·exact .inr ⟨es,clock,q8n h2⟩
theorem q5m{x:Nat}(h:Bs A F w0 S0 p w)(cs:Array Value)(T:TypeId):Bs A F w0 S0 (q5o p x w.heap.size) (w.alloc (.cells cs T)):=qfv h (.inl ⟨cs,T,rfl⟩)
theorem jz{x g:Nat}(inj:∀x y b,p x=some b→p y=some b→x=y)(ha:A g)(hx:p x=some g)(cs:Array Value):Stab A (fun y=>uB y x) no p w p (w.setRow g cs):=by
 refine⟨by simp,fun b hb ha hf=>⟨setRow_other w g b cs (fun e=>hf x (by rw[e];exact hx)),hf⟩,fun y b _ hy=>hy,fun y b hz hy=>?_,fun b _ hb=>setRow_other w g b cs fun e=>A.d b hb (by rw[e];exact ha)⟩;refine setRow_other w g b cs fun e=>?_;subst e;have:=inj y x b hy hx;simp[this] at hz
theorem qdb{S:Nat→Prop}{g:Nat}(h:But S w0 w)(hg:S g∨w0.heap.size≤g)(cs:Array Value):But S w0 (w.setRow g cs):=
 ⟨h.os,h.tape,h.output,by simpa using h.size,fun k hk hn=>(setRow_other w g k cs (fun e=>by
  rcases hg with hS|hlt
  ·exact hn (e▸hS)
  ·omega)).trans (h.block k hk hn)⟩
def FlW(F:Flr)(w:World)(g:Nat)(cs:Array Value):Prop:=0<F.fl g→∀cur T,w.heap[g]? =some (.cells cur T (0,0))→cs.size=cur.size∧∀j,j<F.fl g→cs[j]? =cur[j]?
theorem Flo.setRow{g:Nat}(h:Flo F w0 w){cs:Array Value}(hf:FlW F w g cs):Flo F w0 (w.setRow g cs):=fun k hk=>by
 obtain⟨c0,c1,T,te,h1,h2,h3,h4,h5,h6,h7,h8⟩:=h k hk;by_cases e:k=g
 ·subst e;obtain⟨q1,q2⟩:=hf hk c1 T h6;exact⟨c0,cs,T,te,h1,h2,h3,h4,h5,setRow_heap w k c1 cs T _ h6,q1.trans h7,fun j hj=>(q2 j hj).trans (h8 j hj)⟩
 ·exact⟨c0,c1,T,te,h1,h2,h3,h4,h5,(setRow_other w g k cs e).trans h6,h7,h8⟩
theorem FlW.var{g:Nat}(h:Flo F w0 w){cur:Array Value}{T:TypeId}{t:Ty}(hg:w.heap[g]? =some (.cells cur T (0,0)))(hT:qc T=some t)(hs:cur.size=t.w)(hnv:nvB t=true→F.mx t=0)(cs:Array Value):FlW F w g cs:=fun hk=>by
 obtain⟨c0,c1,T',te,h1,h2,h3,h4,h5,h6,h7,h8⟩:=h g hk;rw[hg] at h6;injection h6 with h6;injection h6 with e1 e2;subst e1 e2;rw[hT] at h3;injection h3 with h3;subst h3;rcases h5 with h5|⟨h5,-⟩
 ·omega
 ·rw[hnv h5] at h4;omega
theorem FlW.one{g:Nat}(h:Flo F w0 w){u:Value}{T:TypeId}(hg:w.heap[g]? =some (.cells #[u] T (0,0)))(cs:Array Value):FlW F w g cs:=fun hk=>by
 obtain⟨c0,c1,T',te,h1,h2,h3,h4,h5,h6,h7,h8⟩:=h g hk;rw[hg] at h6;injection h6 with h6;injection h6 with e1 e2;subst e1;have:=q0c h3;have h7:(1:Nat)=c0.size:=h7;rcases h5 with h5|⟨h5,h9⟩
 ·omega
 ·have:=qzj h5;omega
theorem FlW.noTy{g:Nat}(h:Flo F w0 w){cur:Array Value}{T:TypeId}(hg:w.heap[g]? =some (.cells cur T (0,0)))(hT:qc T=none)(cs:Array Value):FlW F w g cs:=fun hk=>by
 obtain⟨c0,c1,T',te,h1,h2,h3,h4,h5,h6,h7,h8⟩:=h g hk;rw[hg] at h6;injection h6 with h6;injection h6 with e1 e2;subst e1 e2;rw[hT] at h3;cases h3
theorem FlW.above{g:Nat}(h:Flo F w0 w){cur:Array Value}{T:TypeId}{te:Ty}(hg:w.heap[g]? =some (.cells cur T (0,0)))(hT:qc T=some te){ob:Nat}(hob:F.mx te * te.w≤ob){cs:Array Value}(hs:cs.size=cur.size)(hk:∀j,j<ob→cs[j]? =cur[j]?):FlW F w g cs:=fun hk0 cur' T' hg'=>by
 obtain⟨c0,c1,T1,te',h1,h2,h3,h4,h5,h6,h7,h8⟩:=h g hk0;rw[hg] at h6 hg';injection h6 with h6;injection h6 with e1 e2;injection hg' with hg';injection hg' with e3 e4;subst e1 e2 e3 e4;obtain rfl:=gnI (hT.symm.trans h3);exact⟨hs,fun j hj=>hk j (by omega)⟩
theorem q0m{x g:Nat}(h:Bs A F w0 S0 p w)(hx:p x=some g){cs:Array Value}(hfl:FlW F w g cs):Bs A F w0 S0 p (w.setRow g cs):=by
 refine⟨h.inj,fun y b hy=>by simpa using h.bd y b hy,qdb h.but (h.pin x g hx) cs,h.pin,h.new,h.pa,fun y b hy=>?_,h.flo.setRow hfl,h.sp,qgi h.uf g cs⟩;by_cases hb:b=g
 ·subst hb;rcases h.obj y b hy with⟨cs',T',h2⟩|⟨es,clock,h2⟩
  ·exact .inl ⟨cs,T',setRow_heap w b cs' cs T' _ h2⟩
  ·refine .inr ⟨es,clock,?_⟩;have hlt:b<w.heap.size:=(uY.1 h2).1;have hv:w.heap[b]=.map es clock:=(uY.1 h2).2;unfold World.setRow;rw[kO (by simpa using hlt),vO];simp[hv]
 ·exact(h.obj y b hy).same (setRow_other w g b cs hb)
theorem Bs.no(h:Bs A F w0 S0 p w):Bs A .no w0 S0 p w:=⟨h.inj,h.bd,h.but,h.pin,fun b hb=>⟨(h.new b hb).1,trivial⟩,h.pa,h.obj,Flo.no,h.sp,h.uf⟩
theorem q06{T:TypeId}{t:Ty}(hT:qc T=some t){g o:Nat}{cur:Array Value}{T':TypeId}(hg:w.heap[g]? =some (.cells cur T' (0,0))){c0 c1 c2 c:List Value}(hc:cur.toList=c0++(c1++c2))(ho:c0.length=o)(h1:c1.length=c.length)
  {F:Nat→Prop}{d:D}(hd:Rd w F d t c){v:Value}(hp:z4 t c v):(Instr.storeAt T (.pointer (some ⟨g,o,none⟩)) v).run uA w=.ok () (w.setRow g (c0++(c++c2)).toArray):=by
 obtain⟨hl,hone⟩:=Rd.len d hd;have hcells:=hp.cells hone;obtain⟨i,hi,hsz,-⟩:=q02 hT;have hsize:cur.size=c0.length+(c1.length+c2.length):=by rw[←uT,hc];simp
 have hst:=run_storeCells_at uA g o T' c 0 cur w hg (by omega) hone;have e1:cur.toList.take (o+0)++c++cur.toList.drop (o+0+c.length)=c0++(c++c2):=by
  have e2:(c0++(c1++c2)).drop (c0.length+c.length)=c2:=by
   rw[←h1,←kQ,←uW,List.drop_left]
  rw[hc,kM,←ho,vI,e2,kQ]
 rw[e1] at hst;simp only[Instr.storeAt,Instr.sureAddr,uV,kA,uK,storeVar,sizeOf,typeInfo,run_program,hi,hcells];rw[if_neg (by simp[hl,hsz])];exact hst
end
def qef(t:Ty)(own:List (Nat×Nat)):Option (Option Nat):=match t,own with
 |_,[]=>some none
 |.row _,[(0,pin)]=>some (some pin)
 |_,_=>none
def q51(x:X)(t:Ty)(own:List (Nat×Nat))(xv:X)(ownv:List (Nat×Nat)):List Nat→Option (X×List (Nat×Nat))
 |[]=>some (xv,ownv)
 | j :: path => match t with
  | .st S => match flds S with
   | some fs => match fs[j]? with
    | some t' => match q51 (.fld x j) t' (q7f (lkA own j)) xv ownv path with
     |some (xj,ownj)=>match qef t' ownj with
      |some o=>some (.set x j xj,q0i own j o)
      |none=>none
     |none=>none
    |none=>none
   |none=>none
  |_=>none
section
variable{A:Bk}{F:Flr}{p:qe}{w:World}{dep dep':List Nat}
theorem Fl.mono(hd:∀x∈dep,x∈dep'){o:Option Nat}{d:D}{t:Ty}{cs:List Value}(h:Fl A p w dep o d t cs):Fl A p w dep' o d t cs:=by
 cases o with
 |none=>exact Rd.mono (fun b _ hb=>hb.mono hd) h
 | some pin =>
  rcases h.symm with h|⟨E,te,l,v,e1,hte,e2,e3,hv⟩
  ·exact .inr h
  refine .inl ⟨E,te,l,v,e1,hte,e2,e3,?_⟩;rcases hv with hv|⟨g,cap,cur,e4,hg,hh,h1,h2,h3,h4,h5⟩
  ·exact .inl hv
  ·refine .inr ⟨g,cap,cur,e4,hg,hh,h1,h2,h3,h4,fun i hi=>?_⟩;obtain⟨cs,hr,hx⟩:=h5 i hi;exact⟨cs,hr,hx.mono fun b _ hb=>hb.mono hd⟩
theorem Fls.mono(hd:∀x∈dep,x∈dep'){own:List (Nat×Nat)}:∀{ds:List D}{j:Nat}{fs:List Ty}{cs:List Value},Fls A p w dep own j ds fs cs→Fls A p w dep' own j ds fs cs
 |[],_,_,_,h=>h
 |d::ds,j,fs,cs,⟨t,ts,c1,c2,e1,e2,h1,h2⟩=>⟨t,ts,c1,c2,e1,e2,Fl.mono hd h1,Fls.mono hd h2⟩
theorem Con.mono(hd:∀x∈dep,x∈dep'){own:List (Nat×Nat)}{d:D}{t:Ty}{cs:List Value}(h:Con A p w d t own dep cs):Con A p w d t own dep' cs:=by
 unfold Con at h⊢;split
 ·obtain⟨fs,ds,hf,e,h⟩:=h;exact⟨fs,ds,hf,e,Fls.mono hd h⟩
 ·rename_i hne;split at h
  ·rename_i T;exact absurd rfl (hne T)
  ·exact Fl.mono hd h
theorem Fls.congr{own own':List (Nat×Nat)}:∀{ds:List D}{n:Nat}{fs:List Ty}{cs:List Value},(∀i,n≤i→lkA own i=lkA own' i)→Fls A p w dep own n ds fs cs→Fls A p w dep own' n ds fs cs
 |[],_,_,_,_,h=>h
 |d::ds,n,fs,cs,he,⟨t,ts,c1,c2,e1,e2,h1,h2⟩=>⟨t,ts,c1,c2,e1,e2,by rw[←he n (kK _)];exact h1,Fls.congr (fun i hi=>he i (by omega)) h2⟩
theorem Fls.set{own own':List (Nat×Nat)}:∀{l:List D}{n:Nat}{fs:List Ty}{vs:List Value}{j:Nat}{t:Ty}{d:D}{c:List Value},Fls A p w dep own n l fs vs→fs[j]? =some t→Fl A p w dep (lkA own' (n+j)) d t c→(∀i,i≠n+j→lkA own' i=lkA own i)→
  ∃c0 c1 c2,vs=c0++(c1++c2)∧c0.length=offs fs j∧c1.length=t.w∧Fls A p w dep own' n (l.set j d) fs (c0++(c++c2))
 |[],n,fs,vs,j,t,d,c,⟨h1,h2⟩,hj,_,_=>by subst h1;simp at hj
 | x :: l, n, fs, vs, j, t, d, c, ⟨t0, ts, c1, c2, h1, h2, h3, h4⟩, hj, hd, hown => by
  subst h1 h2;have hlen:c1.length=t0.w:=(Rd.len x (h3.rd (dep':=dep++own.map (·.2)) (fun x hx=>uJ _ hx) (fun x hx=>uH _ (q18 hx)))).1;cases j with
  |zero=>
   simp at hj;subst hj;refine⟨[],c1,c2,rfl,by simp[q1j],hlen,t0,ts,c,c2,rfl,rfl,by simpa using hd,Fls.congr (fun i hi=>(hown i (by omega)).symm) h4⟩
  |succ j=>
   obtain⟨a0,a1,a2,e2,e3,e4,e5⟩:=Fls.set (own':=own') (d:=d) (c:=c) h4 (by simpa using hj) (by rw[show n+1+j=n+(j+1) by omega];exact hd) (fun i hi=>hown i (by omega));exact⟨c1++a0,a1,a2,by rw[e2];simp,by rw[uW,e3,hlen,q1g],e4,t0,ts,c1,a0++(c++a2),rfl,by simp,by rw[hown n (by omega)];exact h3,e5⟩
theorem Con.sup{t:Ty}{own:List (Nat×Nat)}{o:Option Nat}(hs:qef t own=some o){d:D}{cs:List Value}(h:Con A p w d t own dep cs):Fl A p w dep o d t cs:=by
 unfold qef at hs;split at hs
 ·injection hs with hs;subst hs;have:=h.rd (dep':=dep) (fun x hx=>hx) (fun x hx=>by cases hx);exact this
 ·injection hs with hs;subst hs;exact h
 ·cases hs
theorem Fl.thin{dep2:List Nat}{o:Option Nat}{d:D}{t:Ty}{cs:List Value}(hf:qm 8 t=true)(h:Fl A p w dep o d t cs):Fl A p w dep2 o d t cs:=by
 cases o with
 |none=>exact Rd.flat 8 _ hf h
 |some pin=>
  rcases h with⟨E,te,l,v,rfl,-⟩|⟨K,V,kt,vt,l,g,es,clock,rfl,-⟩<;>simp[qm] at hf
theorem Fls.thin{dep2:List Nat}{own:List (Nat×Nat)}:∀{l:List D}{n:Nat}{fs:List Ty}{vs:List Value},(∀t∈fs,qm 8 t=true)→Fls A p w dep own n l fs vs→Fls A p w dep2 own n l fs vs
 |[],n,fs,vs,_,h=>h
 |x::l,n,fs,vs,hf,⟨t0,ts,c1,c2,h1,h2,h3,h4⟩=>by
  subst h1;exact⟨t0,ts,c1,c2,rfl,h2,h3.thin (hf t0 kI),Fls.thin (fun t ht=>hf t (kH _ ht)) h4⟩
theorem Fls.set2{dep2:List Nat}{own own':List (Nat×Nat)}:∀{l:List D}{n:Nat}{fs:List Ty}{vs:List Value}{j:Nat}{t:Ty}{d:D}{c:List Value},(∀i t,i≠j→fs[i]? =some t→qm 8 t=true)→Fls A p w dep own n l fs vs→fs[j]? =some t→Fl A p w dep2 (lkA own' (n+j)) d t c→(∀i,i≠n+j→lkA own' i=lkA own i)→
  ∃c0 c1 c2,vs=c0++(c1++c2)∧c0.length=offs fs j∧c1.length=t.w∧Fls A p w dep2 own' n (l.set j d) fs (c0++(c++c2))
 |[],n,fs,vs,j,t,d,c,_,⟨h1,h2⟩,hj,_,_=>by subst h1;simp at hj
 | x :: l, n, fs, vs, j, t, d, c, hf, ⟨t0, ts, c1, c2, h1, h2, h3, h4⟩, hj, hd, hown => by
  subst h1 h2;have hlen:c1.length=t0.w:=(Rd.len x (h3.rd (dep':=dep++own.map (·.2)) (fun x hx=>uJ _ hx) (fun x hx=>uH _ (q18 hx)))).1;cases j with
  |zero=>
   simp at hj;subst hj;refine⟨[],c1,c2,rfl,by simp[q1j],hlen,t0,ts,c,c2,rfl,rfl,by simpa using hd,Fls.congr (fun i hi=>(hown i (by omega)).symm) (Fls.thin (fun t ht=>?_) h4)⟩;obtain⟨i,hi,rfl⟩:=vR ht;exact hf (i+1) _ (by omega) (by simp)
  |succ j=>
   obtain⟨a0,a1,a2,e2,e3,e4,e5⟩:=Fls.set2 (j:=j) (own':=own') (d:=d) (c:=c) (fun i t hi ht=>hf (i+1) t (by omega) (by simpa using ht)) h4 (by simpa using hj) (by rw[show n+1+j=n+(j+1) by omega];exact hd) (fun i hi=>hown i (by omega));exact⟨c1++a0,a1,a2,by rw[e2];simp,by rw[uW,e3,hlen,q1g],e4,t0,ts,c1,a0++(c++a2),rfl,by simp,by rw[hown n (by omega)];exact h3.thin (hf 0 t0 (by omega) rfl),e5⟩
theorem q1r.past{own:List (Nat×Nat)}{dep2:List Nat}(hd:∀x∈dep,x∈dep2){J:Nat}{own':List (Nat×Nat)}(ho:∀i,i≠J→lkA own' i=lkA own i):∀{l:List D}{n:Nat}{fs:List Ty}{vs:List Value},J<n→q1r A p w dep own J n l fs vs→Fls A p w dep2 own' n l fs vs
 |[],_,_,_,_,h=>h
 |d::l,n,fs,vs,hn,⟨t,ts,c1,c2,e1,e2,_,h1,h2⟩=>⟨t,ts,c1,c2,e1,e2,by rw[ho n (by omega)];exact(h1 (by omega)).mono hd,q1r.past hd ho (by omega) h2⟩
theorem q1r.set{own own':List (Nat×Nat)}{dep2:List Nat}(hd:∀x∈dep,x∈dep2):∀{l:List D}{n:Nat}{fs:List Ty}{vs:List Value}{j:Nat}{t:Ty}{d:D}{c:List Value},q1r A p w dep own (n+j) n l fs vs→fs[j]? =some t→Fl A p w dep2 (lkA own' (n+j)) d t c→(∀i,i≠n+j→lkA own' i=lkA own i)→
  ∃c0 c1 c2,vs=c0++(c1++c2)∧c0.length=offs fs j∧c1.length=t.w∧Fls A p w dep2 own' n (l.set j d) fs (c0++(c++c2))
 |[],n,fs,vs,j,t,d,c,⟨h1,h2⟩,hj,_,_=>by subst h1;simp at hj
 | x :: l, n, fs, vs, j, t, d, c, ⟨t0, ts, c1, c2, h1, h2, hl, h3, h4⟩, hj, hx, hown => by
  subst h1 h2;cases j with
  |zero=>
   simp at hj;subst hj;exact⟨[],c1,c2,rfl,by simp[q1j],hl,t0,ts,c,c2,rfl,rfl,by simpa using hx,q1r.past hd (J:=n) (fun i hi=>hown i (by omega)) (by omega) (by simpa using h4)⟩
  |succ j=>
   obtain⟨a0,a1,a2,e2,e3,e4,e5⟩:=q1r.set hd (j:=j) (own':=own') (d:=d) (c:=c) (by rw[show n+1+j=n+(j+1) by omega];exact h4) (by simpa using hj) (by rw[show n+1+j=n+(j+1) by omega];exact hx) (fun i hi=>hown i (by omega));exact⟨c1++a0,a1,a2,by rw[e2];simp,by rw[uW,e3,hl,q1g],e4,t0,ts,c1,a0++(c++a2),rfl,by simp,by rw[hown n (by omega)];exact(h3 (by omega)).mono hd,e5⟩
theorem q9z{c:Cx}:∀(path:List Nat){x x' xv:X}{t tv:Ty}{own own' ownv ov:List (Nat×Nat)}{o:Nat}{vs cs:List Value}{xo:X},q51 x t own xv ownv path=some (x',own')→jl x t own path=some (xo,tv,ov,o)→
  Con c.A p w (x.ev c.v) t own dep vs→Con c.A p w (xv.ev c.v) tv ownv dep cs→
  ∃c0 c1 c2,vs=c0++(c1++c2)∧c0.length=o∧c1.length=cs.length∧Con c.A p w (x'.ev c.v) t own' dep (c0++(cs++c2))
 |[],x,x',xv,t,tv,own,own',ownv,ov,o,vs,cs,xo,h,ha,hc,hv=>by
  simp only[q51,gnS] at h;simp only[jl,gnS] at ha;obtain⟨rfl,rfl⟩:=h;obtain⟨rfl,rfl,rfl,rfl⟩:=ha;exact⟨[],vs,[],by simp,rfl,by rw[hc.len.1,hv.len.1],by simpa using hv⟩
 | j :: path, x, x', xv, t, tv, own, own', ownv, ov, o, vs, cs, xo, h, ha, hc, hv => by
  unfold q51 at h;unfold jl at ha;split at h
  ·rename_i S;split at h
   ·rename_i fs hfs;simp only[hfs] at ha;split at h
    ·rename_i tj hj;simp only[hj] at ha;split at h
     ·rename_i xj ownj hr;split at h
      ·rename_i oj hoj;simp only[gnS] at h;obtain⟨rfl,rfl⟩:=h;split at ha
       ·rename_i x1 t1 own1 o1 hra;simp only[gnS] at ha;obtain⟨rfl,rfl,rfl,rfl⟩:=ha;obtain⟨c0,c1,c2,rfl,hl,hfl⟩:=hc.get hfs hj;obtain⟨b0,b1,b2,rfl,hl',hl2,hcc⟩:=q9z path hr hra (Con.sub hfl) hv;obtain⟨fs',ds,hf',hds,hfls⟩:=hc;obtain rfl:=gnI (hf'.symm.trans hfs);obtain⟨e0,e1,e2,q1,q2,q3,q4⟩:=Fls.set (own':=q0i own j oj) (d:=xj.ev c.v) (c:=b0++(cs++b2)) hfls hj (by rw[uE,jm,if_pos rfl];exact Con.sup hoj hcc) (fun i hi=>by rw[uE] at hi;rw[jm,if_neg hi]);have hlb:(b0++(b1++b2)).length=tj.w:=by
         have:=hcc.len.1;simp only[uW] at this⊢;omega
        have hce:c0=e0∧(b0++(b1++b2))++c2=e1++e2:=jB q1 (by rw[hl,q2]);obtain⟨rfl,q5⟩:=hce;have hce2:b0++(b1++b2)=e1∧c2=e2:=jB q5 (by rw[hlb,q3]);obtain⟨rfl,rfl⟩:=hce2;refine⟨c0++b0,b1,b2++c2,by simp,by simp[hl,hl'],hl2,_,_,hfs,rfl,?_⟩;have:(x.ev c.v).fs=ds:=by rw[hds];rfl
        rw[this];simpa using q4
       ·cases ha
      ·cases h
     ·cases h
    ·cases h
   ·cases h
  ·cases h
end
end
section
def qg(k:Nat):Nat→Bool:=fun x=>uB (x / 16) k
def yu(x:Nat):Nat→Bool:=fun y=>uB y x
def qr(l:List Nat)(x:Nat):Bool:=l.any fun y=>uB y x
def uni(l m:List Nat):List Nat:=l++m.filter fun y=> !qr l y
theorem qz{l:List Nat}{x:Nat}:qr l x=true↔x∈l:=by
 simp[qr]
theorem yh{l m:List Nat}{x:Nat}(h:x∈l):x∈uni l m:=uJ _ h
theorem jo{l m:List Nat}{x:Nat}(h:x∈m):x∈uni l m:=by
 unfold uni;cases hl:qr l x with
 |true=>exact uJ _ (qz.1 hl)
 |false=>exact uH _ (kC.2 ⟨h,by simp[hl]⟩)
theorem qta{l m:List Nat}{x:Nat}(h:x∈uni l m):x∈l∨x∈m:=by
 rcases vZ.1 h with h|h
 ·exact .inl h
 ·exact .inr (kC.1 h).1
def jq(t:Ty):AV→Option (X×List (Nat×Nat)×List Nat)
 |.v x t' own dep=>if Ty.beq t' t then some (x,own,dep) else none
 |.pt _ _ _ (.v x t' own dep)=>if Ty.beq t' t then some (x,own,dep) else none
 |.nilS=>match t with
  |.row E=>if(qc E).isSome then some (.lit (.r []),[],[]) else none
  |_=>none
 |_=>none
def ql0(t:Ty)(a:AV):Option (X×List (Nat×Nat)×List Nat):=match t,a with
 |.row E,.nilS=>if qds E&&(qc E).isSome then some (.lit .u,[],[]) else jq (.row E) .nilS
 |t,a=>jq t a
def qm1(k:Nat)(path:List Nat)(t:Ty)(x:AV):Option (X×List (Nat×Nat)×List Nat):=match x,path,t with
 |.nilS,[],.row E=>if(qc E).isSome then some (.lit (.r []),[(0,k * 16+1)],[]) else none
 |.nilS,[j],.row E=>if(qc E).isSome then some (.lit (.r []),[(0,k * 16+1+j)],[]) else none
 |x,_,t=>jq t x
def q5c(t:Ty):X:=.lit (q0p 8 t)
def rowsOf(k:Nat):List Ty→Nat→List (Nat×Nat)
 |[],_=>[]
 |.row _::l,j=>(j,k * 16+1+j)::rowsOf k l (j+1)
 |_::l,j=>rowsOf k l (j+1)
def qj(k:Nat)(t:Ty):List (Nat×Nat):=match t with
 |.row _=>[(0,k * 16+1)]
 |.map _ _=>[(0,k * 16+1)]
 |.st S=>match flds S with
  |some fs=>rowsOf k fs 0
  |none=>[]
 |_=>[]
def q60(t:Ty):Bool:=match t with
 |.row E=>(match qc E with|some te=>qm 8 te|none=>false)
 |.st S=>(match flds S with
  |some fs=>fs.all fun u=>qm 8 u||(match u with|.row E=>(match qc E with|some te=>qm 8 te|none=>false)|_=>false)
  |none=>false)
 |.fnv=>false
 |_=>true
def qca(t:Ty)(own:List (Nat×Nat)):Bool:=(qj 0 t).all fun e=>(lkA own e.1).isSome
def depC(t:Ty)(own:List (Nat×Nat))(l:List Nat):List Nat:=if qm 8 t||(qca t own&&q60 t) then[] else l
theorem qcf{t:Ty}(h:(q36 t||qb6 t)=true):q60 t=true∧∀k,qj k t=[(0,k * 16+1)]:=by
 cases t with
 |map K V=>exact⟨rfl,fun k=>rfl⟩
 |row E=>exact⟨h,fun k=>rfl⟩
 |_=>cases h
section
variable{A:Bk}{F:Flr}{p:qe}{w:World}{dep:List Nat}
theorem qg5:∀{fs:List Ty}{k n j:Nat}{E:TypeId},fs[j]? =some (.row E)→lkA (rowsOf k fs n) (n+j)=some (k * 16+1+(n+j))
 |[],k,n,j,E,h=>by simp at h
 |t::ts,k,n,0,E,h=>by
  simp at h;subst h;simp only[rowsOf,kM];exact qa
 |t::ts,k,n,j+1,E,h=>by
  have:=qg5 (k:=k) (n:=n+1) (j:=j) (fs:=ts) (E:=E) (by simpa using h);rw[show n+1+j=n+(j+1) by omega] at this;cases t<;>first|exact this|(simp only[rowsOf];rw[qb (by omega)];exact this)
theorem Con.flat1{t:Ty}{k:Nat}{own:List (Nat×Nat)}(hown:∀j,lkA (qj k t) j≠none→lkA own j≠none){d:D}{cs:List Value}(h:Con A p w d t own dep cs)(hf:q60 t=true):Con A p w d t own [] cs:=by
  cases t with
  | st S =>
    obtain⟨fs,ds,hfs,e,h⟩:=h;refine⟨fs,ds,hfs,e,?_⟩;simp only[q60,hfs] at hf;have hrow:∀j E,fs[j]? =some (.row E)→lkA own j≠none:=fun j E hj=>hown j (by
      simp only[qj,hfs];have:=qg5 (k:=k) (n:=0) hj;rw[uE] at this;rw[this];simp)
    have key:∀{ds:List D}{n:Nat}{fs:List Ty}{cs:List Value},(fs.all fun u=>qm 8 u||(match u with|.row E=>(match qc E with|some te=>qm 8 te|none=>false)|_=>false))=true→(∀j E,fs[j]? =some (.row E)→lkA own (n+j)≠none)→Fls A p w dep own n ds fs cs→Fls A p w [] own n ds fs cs:=by
      intro ds
      induction ds with
      |nil=>intro n fs cs _ _ h;exact h
      | cons d ds ih =>
        rintro n fs cs hall hr⟨t,ts,c1,c2,rfl,rfl,h1,h2⟩;simp only[List.all_cons,gnB] at hall;refine⟨t,ts,c1,c2,rfl,rfl,h1.flat1 ?_,ih hall.2 (fun j E hj=>by have:=hr (j+1) E (by simpa using hj);rwa [show n+(j+1)=n+1+j by omega] at this) h2⟩;rcases Bool.or_eq_true_iff.1 hall.1 with h|h
        · exact .inl h
        · right;cases t with
          | row E =>
            simp only at h;split at h
            · rename_i te hte;exact⟨by have:=hr 0 E rfl;simpa using this,E,te,rfl,hte,h⟩
            · cases h
          |_=>cases h
    exact key hf (fun j E hj=>by rw[uE];exact hrow j E hj) h
  | row E =>
    simp only[q60] at hf;split at hf
    · rename_i te hte;have h':Fl A p w dep (lkA own 0) d (.row E) cs:=h;exact h'.flat1 (.inr ⟨hown 0 (by simp[qj,lkA]),E,te,rfl,hte,hf⟩)
    · cases hf
  |fnv=>cases hf
  |int m=>exact h.flatT rfl
  |bool=>exact h.flatT rfl
  |str=>exact h.flatT rfl
  | map K V =>
    have h':Fl A p w dep (lkA own 0) d (.map K V) cs:=h
    show Fl A p w [] (lkA own 0) d (.map K V) cs
    cases ho:lkA own 0 with
    |none=>exact absurd ho (hown 0 (by simp[qj,lkA]))
    | some x =>
      rw[ho] at h';rcases h' with⟨E,te,l,v,e,-⟩|h'
      · cases e
      · exact .inr h'
theorem Con.depC{t:Ty}{own:List (Nat×Nat)}{d:D}{cs:List Value}(h:Con A p w d t own dep cs):Con A p w d t own (depC t own dep) cs:=by
 unfold Proofs.Ytokkfpalbpnpeaa.depC;split
 ·rename_i hok;cases hf:qm 8 t with
  |true=>exact h.flatT hf
  |false=>
   rw[hf] at hok;simp only[jJ,gnB] at hok;refine h.flat1 (k:=0) (fun j hj=>?_) hok.2;obtain⟨x,hx⟩:=Option.ne_none_iff_exists'.1 hj;have:=vE.1 hok.1 _ (y3 hx);obtain⟨y,hy⟩:=uZ.1 this;have hy':lkA own j=some y:=hy;rw[hy'];exact fun e=>by cases e
 ·exact h
end
def qit(P:Program)(T:TypeId):Bool:=match P.info? T with
 |some i=>(match i.zero with
  |some .nilFunc=>true
  |some (.pointer none)=>true
  |some (.map none)=>true
  |_=>false)
 |none=>false
theorem qsy{T:TypeId}(h:qit uA T=true)(w:World):∃v,(zeroValue T).run uA w=.ok v w∧v.cells= #[v]:=by
 unfold qit at h;split at h
 ·rename_i i hi;split at h
  ·rename_i hz;exact⟨.nilFunc,by simp[zeroValue,typeInfo,hi,hz],rfl⟩
  ·rename_i hz;exact⟨.pointer none,by simp[zeroValue,typeInfo,hi,hz],rfl⟩
  ·rename_i hz;exact⟨.map none,by simp[zeroValue,typeInfo,hi,hz],rfl⟩
  ·cases h
 ·cases h
def qrc(P:Program)(T:TypeId):Option Nat:=match P.info? T with
 |some i=>(match i.zero with
  |some (.agg zc)=>if uB zc.size i.size then some i.size else none
  |_=>none)
 |none=>none
theorem qr2{T:TypeId}{n:Nat}(h:qrc uA T=some n)(w:World):∃zc,(zeroValue T).run uA w=.ok (.agg zc) w∧zc.size=n∧∃i,uA.info? T=some i∧i.size=n:=by
 unfold qrc at h;split at h
 ·rename_i i hi;split at h
  ·rename_i zc hz;split at h
   ·rename_i hs;injection h with h;subst h;exact⟨zc,by simp[zeroValue,typeInfo,hi,hz],gnN hs,i,hi,rfl⟩
   ·cases h
  ·cases h
 ·cases h
def qhq(P:Program)(σ:St)(k:Nat)(T:TypeId):Option St:=match qc T with
 |some t=>if q36 t then(if qit P T then some ⟨zr (σ.un (qg k)).t k (.bx k T .any),(σ.un (qg k)).m⟩ else none) else some ⟨zr (σ.un (qg k)).t k (.ref k [] 0 t),zr (σ.un (qg k)).m k ⟨q5c t,t,qj k t,[]⟩⟩
 |none=>if qit P T then some ⟨zr (σ.un (qg k)).t k (.bx k T .any),(σ.un (qg k)).m⟩ else match qrc P T with
  |some n=>some ⟨zr (σ.un (qg k)).t k (.ax k T n .any),(σ.un (qg k)).m⟩
  |none=>none
def qo6:AV→Bool
 |.ref _ _ _ _=>true
 |.rd _ _ _ _=>true
 |.nilP=>true
 |.fn _ _=>true
 |.bx _ _ _=>true
 |.sn _ a=>qo6 a
 |_=>false
theorem qa2{c:Cx}{p:qe}{w:World}:∀(y:AV){v:Value},qo6 y=true→y.pd c p w v→v.cells= #[v]∧v.oneCell'=true
 |.ref _ _ _ _,v,_,hy=>by obtain⟨g,-,rfl,-⟩:=hy;exact⟨rfl,rfl⟩
 |.rd _ _ _ _,v,_,hy=>by obtain⟨b,o,cs,rfl,-⟩:=hy;exact⟨rfl,rfl⟩
 |.nilP,v,_,hy=>by obtain rfl:v=.pointer none:=hy;exact⟨rfl,rfl⟩
 |.fn _ _,v,_,hy=>by obtain⟨vs,rfl,-⟩:=hy;exact⟨rfl,rfl⟩
 |.bx _ _ _,v,_,hy=>by obtain⟨g,u,-,rfl,-⟩:=hy;exact⟨rfl,rfl⟩
 |.sn _ a,v,h,hy=>qa2 a h hy.2
 |.any,_,h,_=>by cases h
 |.undef,_,h,_=>by cases h
 |.v _ _ _ _,_,h,_=>by cases h
 |.nilS,_,h,_=>by cases h
 |.tup _,_,h,_=>by cases h
 |.gd _ _,_,h,_=>by cases h
 |.nb _ _,_,h,_=>by cases h
 |.fr _ _,_,h,_=>by cases h
 |.ff _ _ _ _ _ _ _ _,_,h,_=>by cases h
 |.pt _ _ _ _,_,h,_=>by cases h
 |.ar _ _ _,_,h,_=>by cases h
 |.lv _ _,_,h,_=>by cases h
 |.wf _ _ _ _ _ _ _,_,h,_=>by cases h
 |.el _ _ _ _,_,h,_=>by cases h
 |.hd _ _ _,_,h,_=>by cases h
 |.ax _ _ _ _,_,h,_=>by cases h
theorem qdu{c:Cx}{p:qe}{w:World}{y:AV}{v:Value}(h:qo6 y=true)(hy:y.pd c p w v):v.cells= #[v]:=(qa2 y h hy).1
theorem qsk{c:Cx}{p:qe}{w:World}{y:AV}{v:Value}(h:qo6 y=true)(hy:y.pd c p w v):v.oneCell'=true:=(qa2 y h hy).2
def qyn(σ:St)(cs:List (X×Bool))(y:Operand):Option AV:=match y with
 |.tmp t=>(match lkA σ.t t with
  |some (.sn q a)=>some (.sn q a)
  |_=>opd σ cs y)
 |_=>opd σ cs y
theorem qua{c:Cx}{p:qe}{w:World}{a:Act}{σ:St}{cs:List (X×Bool)}(hf:SF c σ p w a)(hc:hold c.v cs=true){y:Operand}{x:AV}(h:qyn σ cs y=some x):x.pd c p w (a.eval y):=by
 unfold qyn at h;split at h
 ·rename_i t;split at h
  ·rename_i q b hq;injection h with h;subst h;obtain⟨v,h1,h2⟩:=hf.t t _ hq;have:a.eval (.tmp t)=v:=by
    show a.tmps.getD t undef=v
    rw[Array.getD_eq_getD_getElem?,h1];rfl
   rw[this];exact h2
  ·exact qd hf hc h
 ·exact qd hf hc h
def qs3(σ:St)(cs:List (X×Bool))(k:Nat)(T:TypeId)(y:Operand):Option St:=match qc T with
 |some t=>match(opd (σ.un (qg k)) cs y).bind (jq t) with
  |some (x,own,dep)=>some ⟨zr (σ.un (qg k)).t k (.ref k [] 0 t),zr (σ.un (qg k)).m k ⟨x,t,own,dep⟩⟩
  |none=>none
 |none=>match qyn (σ.un (qg k)) cs y with
  |some a=>if qo6 a then some ⟨zr (σ.un (qg k)).t k (.bx k T a),(σ.un (qg k)).m⟩ else none
  |none=>none
def qjf(t:Ty)(path:List Nat):Bool:=match t,path with
  | .st S, [j] => (match flds S with
    | some fs => (List.range fs.length).all fun i => uB i j || (match fs[i]? with
      |some t=>qm 8 t
      |none=>true)
    |none=>false)
  |_,_=>false
def q4z(σ:St)(k:Nat)(path:List Nat)(o:Nat)(t:Ty)(xv:X)(ownv:List (Nat×Nat))(depv:List Nat):Option St:=match lkA σ.m k with
 |some e=>match jl e.x e.t e.own path,q51 e.x e.t e.own xv ownv path with
  | some (_, t', _, o'), some (x', own') => if Ty.beq t' t && (uB o' o && !qr (own'.map (·.2) ++ uni e.dep depv) (k * 16)) then
    some ⟨q2h (yu (k * 16)) no σ.t,zr (q3i (yu (k * 16)) no σ.m) k ⟨x',e.t,own',depC e.t own' (if qjf e.t path then depv else uni e.dep depv)⟩⟩ else none
  |_,_=>none
 |none=>none
def qck(σ:St)(k:Nat)(path:List Nat)(o:Nat)(t:Ty)(xv:X)(ownv:List (Nat×Nat))(depv:List Nat):Option St:=q4z σ k path o t xv ownv (depC t ownv depv)
def qoh(i:X)(te:Ty)(path:List Nat)(xv xr:X):Option X:=match q51 (.get xr i) te [] xv [] path with
 |some (xe,[])=>some (.put xr i xe)
 |_=>none
def qgo(E:TypeId)(te:Ty):Bool:=match qc E with
 |some t=>Ty.beq t te
 |none=>false
def qa3(pin:Nat)(i:X)(te:Ty)(path:List Nat)(xv:X)(depv:List Nat)(x:X)(t:Ty)(own:List (Nat×Nat))(dep:List Nat):Option (X×List Nat):=
 if qr dep pin|| !jh own then none else match own.filter fun e=>uB e.2 pin with
  |[]=>some (x,dep)
  | [(j, _)] => match t with
   |.row E=>if qgo E te&&uB j 0 then(qoh i te path xv x).map fun x'=>(x',uni dep depv) else none
   | .st S => match flds S with
    |some fs=>match fs[j]? with
     |some (.row E)=>if qgo E te then(qoh i te path xv (.fld x j)).map fun x'=>(.set x j x',uni dep depv) else none
     |_=>none
    |none=>none
   |_=>none
  |_=>none
def qqo(pin:Nat)(i:X)(te:Ty)(path:List Nat)(xv:X)(depv:List Nat):AV→AV
 |.v x t own dep=>match qa3 pin i te path xv depv x t own dep with
  |some (x',dep')=>.v x' t own dep'
  |none=>.any
 |.sn q (.v x t own dep)=>match qa3 pin i te path xv depv x t own dep with
  |some (x',dep')=>.sn q (.v x' t own dep')
  |none=>.any
 |a=>if okA (yu pin) no a then a else .any
def ql7(pin:Nat)(i:X)(te:Ty)(path:List Nat)(xv:X)(depv:List Nat):List (Nat×Ent)→List (Nat×Ent)
  |[]=>[]
  | (k, e) :: l => match qa3 pin i te path xv depv e.x e.t e.own e.dep with
    |some (x',dep')=>if uB (k * 16) pin then(ql7 pin i te path xv depv l).filter (fun y=>y.1 !=k) else(k,⟨x',e.t,e.own,dep'⟩)::ql7 pin i te path xv depv l
    |none=>(ql7 pin i te path xv depv l).filter fun y=>y.1 !=k
def q90(σ:St)(pin:Nat)(i:X)(path:List Nat)(q:Nat)(te t:Ty)(xv:X)(ownv:List (Nat×Nat))(depv:List Nat):Option St:=
 match jl (.lit .u) te [] path with
 |some (_,t',_,q')=>if Ty.beq t' t&&(uB q' q&&(ownv.isEmpty&& !qr depv pin)) then some ⟨σ.t.map fun e=>(e.1,qqo pin i te path xv depv e.2),ql7 pin i te path xv depv σ.m⟩ else none
 |none=>none
mutual
/-- A value that holds a pointer to the variable k itself: known by its number alone. -/
def keyed(k:Nat):AV→AV
 |.bx k' T a=>if uB k' k then .ref k [] 0 (.int .i64) else .bx k' T a
 |.fn f l=>.fn f (keyeds k l)
 |a=>a
def keyeds(k:Nat):List AV→List AV
 |[]=>[]
 |a::l=>keyed k a::keyeds k l
end
mutual
theorem qjg{c:Cx}{p:qe}{w:World}{k:Nat}:∀(a:AV){v:Value},a.pd c p w v→(keyed k a).pd c p w v
 | .bx k' T a, v, h => by
  unfold keyed;split
  ·rename_i hk;have hk:=gnN hk;subst hk;obtain⟨g,u,⟨hg,hat⟩,e,-⟩:=h;exact⟨g,hg,e,hat⟩
  ·exact h
 |.fn f l,v,⟨vs,e,h⟩=>⟨vs,e,qgm l h⟩
 |.any,v,h=>h
 |.undef,v,h=>h
 |.v _ _ _ _,v,h=>h
 |.nilS,v,h=>h
 |.nilP,v,h=>h
 |.ref _ _ _ _,v,h=>h
 |.rd _ _ _ _,v,h=>h
 |.tup _,v,h=>h
 |.gd _ _,v,h=>h
 |.nb _ _,v,h=>h
 |.fr _ _,v,h=>h
 |.ff _ _ _ _ _ _ _ _,v,h=>h
 |.sn _ _,v,h=>h
 |.pt _ _ _ _,v,h=>h
 |.ar _ _ _,v,h=>h
 |.lv _ _,v,h=>h
 |.wf _ _ _ _ _ _ _,v,h=>h
 |.el _ _ _ _,v,h=>h
 |.hd _ _ _,v,h=>h
 |.ax _ _ _ _,v,h=>h
theorem qgm{c:Cx}{p:qe}{w:World}{k:Nat}:∀(l:List AV){vs:List Value},pds c p w l vs→pds c p w (keyeds k l) vs
 |[],vs,h=>h
 |a::l,vs,⟨v,r,e,h1,h2⟩=>⟨v,r,e,qjg a h1,qgm l h2⟩
end
def qwl(P:Program)(T:TypeId):Bool:=match P.info? T with
 |some i=>uB i.size 1
 |none=>false
def qan(P:Program)(σ:St)(k:Nat)(T:TypeId)(x:AV):Option St:=
 if qo6 x&&(qwl P T&&okA (yu (k * 16)) no (keyed k x)) then(match lkA σ.t k with
  |some (.bx k' T' _)=>if uB k' k&&uB T' T then some ⟨zr (q2h (yu (k * 16)) no σ.t) k (.bx k T (keyed k x)),q3i (yu (k * 16)) no σ.m⟩ else none
  |_=>none) else none
def q94(σ:St)(k:Nat)(T:TypeId)(t:Ty)(x:AV):Option St:=match lkA σ.t k,jq t x with
 |some (.bx k' T' _),some (xv,own,dep)=>if uB k' k&&(uB T' T&& !qr (own.map (·.2)++dep) (k * 16)) then some ⟨zr (q2h (yu (k * 16)) no σ.t) k (.ref k [] 0 t),zr (q3i (yu (k * 16)) no σ.m) k ⟨xv,t,own,dep⟩⟩ else none
 |_,_=>none
def unlv(k:Nat)(t:Ty):AV→AV
 |.lv k' t'=>if uB k' k then .ref k [] 0 t else .lv k' t'
 |a=>a
def q99(σ:St)(k:Nat)(t:Ty)(xv:X)(own:List (Nat×Nat))(dep:List Nat):Option St:=if nvB t then none else
 if qr (own.map (·.2)++dep) (k * 16) then none else some ⟨q2h (yu (k * 16)) no (σ.t.map fun e=>(e.1,unlv k t e.2)),zr (q3i (yu (k * 16)) no σ.m) k ⟨xv,t,own,dep⟩⟩
def qal(P:Program)(σ:St)(k:Nat)(T:TypeId)(n:Nat)(E:TypeId)(xs:List X)(dep:List Nat):Option St:=
 match P.info? T,qc E,lkA σ.t k with
 | some i, some te, some (.ax k' T' n' _) => if uB i.size n && (uB (xs.length * te.w) n && (uB k' k && (uB T' T && (uB n' n && (!qr dep (k * 16) && (qc T).isNone))))) then
   some ⟨zr (q2h (yu (k * 16)) no σ.t) k (.ax k T n (.ar E xs dep)),q3i (yu (k * 16)) no σ.m⟩ else none
 |_,_,_=>none
def qpn(T:List (Nat×AV))(k j:Nat):List (Nat×AV)→Option (X×Ty×List (Nat×Nat)×List Nat)
  |[]=>none
  | (s, _) :: l => match lkA T s with
    |some (.wf k' j' x t own dep _)=>if uB k' k&&uB j' j then some (x,t,own,dep) else qpn T k j l
    |_=>qpn T k j l
def qed(σ:St)(k:Nat)(path:List Nat)(o:Nat)(t:Ty)(xv:X)(ownv:List (Nat×Nat))(depv:List Nat):Option St:=match path,ownv with
 | [j], _ :: _ => (match qpn σ.t k j σ.t with
  | some (x0, .st S, own0, dep0) => (match flds S with
   |some fs=>(match fs[j]?,qef t ownv with
    | some t', some oj => if Ty.beq t' t && (uB (offs fs j) o && (!nvB (.st S) && !qr ((q0i own0 j oj).map (·.2) ++ uni dep0 depv) (k * 16))) then
      some ⟨q2h (yu (k * 16)) no σ.t,zr (q3i (yu (k * 16)) no σ.m) k ⟨.set x0 j xv,.st S,q0i own0 j oj,depC (.st S) (q0i own0 j oj) (uni dep0 depv)⟩⟩ else none
    |_,_=>none)
   |none=>none)
  |_=>none)
 |_,_=>none
def q4y(σ:St)(k:Nat)(path:List Nat)(o:Nat)(t:Ty)(xv:X)(ownv:List (Nat×Nat))(depv:List Nat):Option St:=match qed σ k path o t xv ownv (depC t ownv depv) with
 |some σ'=>some σ'
 |none=>qck σ k path o t xv ownv depv
def qwq(pin:Nat):List (Nat×Ent)→Option (Nat×Nat)
  |[]=>none
  | (k, e) :: l => match e.own.filter fun y => uB y.2 pin with
    |[(j,_)]=>some (k,j)
    |_=>qwq pin l
def qsl(e:Ent)(j pin:Nat)(te:Ty):Bool:=match e.t with
 | .st S => (match flds S with
  |some fs=>(match fs[j]? with
   |some (.row E)=>qgo E te&&(jh e.own&& !qr e.dep pin)
   |_=>false)
  |none=>false)
 |_=>false
def qmt(own:List (Nat×Nat))(pin:Nat):Option Nat:=match own.filter fun y=>uB y.2 pin with
 |[(j,_)]=>some j
 |_=>none
def qxr(σ σ':St)(pin:Nat)(i:X)(path:List Nat)(te:Ty)(z:Operand)(xv:X):St:=match path,te,z with
 | [], .row E', .tmp tz => if qds E' then (match lkA σ'.t tz, qwq pin σ.m with
  |some (.v x' t' [(0,q)] dep'),some (k,j)=>(match lkA σ.m k with
   | some e => if qsl e j pin te && (decide (qmt e.own pin = some j) && !Nat.beq (k * 16) pin) then
     ⟨zr σ'.t tz (.el (some ⟨k,j,.set e.x j (.put (.fld e.x j) i xv),e.t,e.own.filter (fun y=>y.1 !=j),e.dep,xv⟩) pin i (.v x' t' [(0,q)] dep')),σ'.m⟩ else σ'
   |none=>σ')
  |_,_=>σ') else σ'
 |_,_,_=>σ'
def qid(P:Program)(σ:St)(cs:List (X×Bool))(T:TypeId)(y z:Operand):Option St:=match opd σ cs y with
 |some (.ref k path o t)=>if q5b T t then(match(opd σ cs z).bind (qm1 k path t) with
  |some (xv,ownv,depv)=>q4y σ k path o t xv ownv depv
  |none=>none) else none
 |some (.rd _ t dep (some (pin,i,path,q,te)))=>if q5b T t then(match(opd σ cs z).bind (jq t) with
  |some (xv,ownv,depv)=>(q90 σ pin i path q te t xv [] (if ownv.isEmpty then depv else uni (ownv.map (·.2)) depv)).map fun σ'=>qxr σ σ' pin i path te z xv
  |none=>none) else none
 |some (.lv k t)=>if q5b T t then(match(opd σ cs z).bind (jq t) with
  |some (xv,own,dep)=>q99 σ k t xv own dep
  |none=>none) else none
 | some (.bx k T' _) => if uB T' T then (match opd σ cs z with
  |some x=>(match qc T with
   |some (.map K V)=>q94 σ k T (.map K V) x
   |_=>qan P σ k T' x)
  |none=>none) else none
 |some (.ax k T' n _)=>if uB T' T then(match opd σ cs z with
  |some (.ar E xs dep)=>qal P σ k T' n E xs dep
  |_=>none) else none
 |_=>none
section
variable{c:Cx}{p:qe}{w w0:World}{S0:Nat→Prop}{a:Act}{σ σ':St}{cs:List (X×Bool)}{o:Oper}{d:List Deferred}{z:Nat}
def zl(c:Cx)(w0:World)(S0:Nat→Prop)(d:List Deferred)(z:Nat)(σ':St)(a':Act)(w':World):Prop:=∃p',Bs c.A c.F w0 S0 p' w'∧SF c σ' p' w' a'∧a'.defers=d∧a'.tmps.size=z
theorem yg{t:Ty}{y:AV}{x:X}{own:List (Nat×Nat)}{dep:List Nat}{v:Value}(h:jq t y=some (x,own,dep))(hy:y.pd c p w v):∃vs,z4 t vs v∧Con c.A p w (x.ev c.v) t own dep vs:=by
 unfold jq at h;split at h
 ·split at h
  ·rename_i ht;rw[Ty.beq_iff] at ht;subst ht;simp only[gnS] at h;obtain⟨rfl,rfl,rfl⟩:=h;exact hy
  ·cases h
 ·split at h
  ·rename_i ht;rw[Ty.beq_iff] at ht;subst ht;simp only[gnS] at h;obtain⟨rfl,rfl,rfl⟩:=h;exact hy.2
  ·cases h
 ·split at h
  ·split at h
   ·rename_i E hE;obtain⟨te,hte⟩:=uZ.1 hE;simp only[gnS] at h;obtain⟨rfl,rfl,rfl⟩:=h;obtain rfl:v=.slice none 0 0:=hy;exact⟨[_],rfl,E,te,none,0,rfl,hte,rfl,by simp,by simp,by simp[maxLen],by simp[RdE]⟩
   ·cases h
  ·cases h
 ·cases h
theorem qom{t:Ty}{y:AV}{x:X}{own:List (Nat×Nat)}{dep:List Nat}{v:Value}(h:ql0 t y=some (x,own,dep))(hy:y.pd c p w v):∃vs,z4 t vs v∧Con c.A p w (x.ev c.v) t own dep vs:=by
 unfold ql0 at h;split at h
 ·split at h
  ·rename_i E hok;simp only[gnB] at hok;obtain⟨te,hte⟩:=uZ.1 hok.2;simp only[gnS] at h;obtain⟨rfl,rfl,rfl⟩:=h;obtain rfl:v=.slice none 0 0:=hy;exact⟨[_],rfl,E,te,rfl,hok.1,hte,rfl⟩
  ·exact yg h hy
 ·exact yg h hy
theorem qoa{k:Nat}{path:List Nat}{t:Ty}{y:AV}{x:X}{own:List (Nat×Nat)}{dep:List Nat}{v:Value}(h:qm1 k path t y=some (x,own,dep))(hy:y.pd c p w v):∃vs,z4 t vs v∧Con c.A p w (x.ev c.v) t own dep vs:=by
 unfold qm1 at h;split at h
 ·split at h
  ·rename_i E hE;obtain⟨te,hte⟩:=uZ.1 hE;simp only[gnS] at h;obtain⟨rfl,rfl,rfl⟩:=h;obtain rfl:v=.slice none 0 0:=hy;exact⟨[_],rfl,.inl ⟨E,te,[],_,rfl,hte,rfl,rfl,.inl ⟨rfl,rfl⟩⟩⟩
  ·cases h
 ·split at h
  ·rename_i E hE;obtain⟨te,hte⟩:=uZ.1 hE;simp only[gnS] at h;obtain⟨rfl,rfl,rfl⟩:=h;obtain rfl:v=.slice none 0 0:=hy;exact⟨[_],rfl,.inl ⟨E,te,[],_,rfl,hte,rfl,rfl,.inl ⟨rfl,rfl⟩⟩⟩
  ·cases h
 ·exact yg h hy
theorem qcj:∀{fs:List Ty}{k n j q:Nat},lkA (rowsOf k fs n) (n+j)=some q→∃E,fs[j]? =some (.row E)
 |[],k,n,j,q,h=>by cases h
 | t :: ts, k, n, 0, q, h => by
  have lt:∀{fs:List Ty}{n m q:Nat},lkA (rowsOf k fs n) m=some q→n≤m:=by
   intro fs
   induction fs with
   |nil=>intro n m q h;cases h
   | cons t ts ih =>
    intro n m q h;cases t with
    | row E =>
     simp only[rowsOf] at h;by_cases hm:n=m
     ·omega
     ·rw[qb hm] at h;have:=ih h;omega
    |_=>have:=ih (n:=n+1) h;omega
  cases t with
  |row E=>exact⟨E,rfl⟩
  |_=>have:=lt (n:=n+1) h;omega
 | t :: ts, k, n, j + 1, q, h => by
  have:lkA (rowsOf k ts (n+1)) (n+1+j)=some q:=by
   rw[show n+1+j=n+(j+1) by omega];cases t with
   |row E=>
    simp only[rowsOf] at h;rw[qb (by omega)] at h;exact h
   |_=>exact h
  obtain⟨E,hE⟩:=qcj this;exact⟨E,by simpa using hE⟩
theorem qp5{m:Nat}{E:TypeId}{cs r:List Value}{d:D}(h:jv m (.row E) cs=some (d,r)):(qc E).isSome=true∧d=.r []∧cs=.slice none 0 0::r:=by
 cases m with
 |zero=>simp[jv] at h
 | succ m =>
  cases cs with
  |nil=>simp[jv] at h
  | cons v cs =>
   cases v with
   | slice a l c =>
    cases a with
    |some a=>simp[jv] at h
    | none =>
     cases l with
     |succ l=>simp[jv] at h
     | zero =>
      cases c with
      |succ c=>simp[jv] at h
      | zero =>
       simp only[jv] at h;split at h
       ·rename_i hs;simp only[gnS] at h;exact⟨hs,h.1.symm,by rw[h.2]⟩
       ·cases h
   |_=>simp[jv] at h
theorem qfp(w:World){A:Bk}{p:qe}{own:List (Nat×Nat)}{m:Nat}:∀{fs:List Ty}{j:Nat}{cs r:List Value}{l:List D},q3g (jv m) fs cs=some (l,r)→(∀i q,lkA own (j+i)=some q→∃E,fs[i]? =some (.row E))→∃c1,cs=c1++r∧Fls A p w [] own j l fs c1
 |[],j,cs,r,l,h,ho=>by
  simp only[q3g,gnS] at h;obtain⟨rfl,rfl⟩:=h;exact⟨[],rfl,rfl,rfl⟩
 | t :: ts, j, cs, r, l, h, ho => by
  unfold q3g at h;split at h
  ·rename_i d cs' hd;split at h
   ·rename_i l' r' hl;simp only[gnS] at h;obtain⟨rfl,rfl⟩:=h;obtain⟨c2,e2,h2⟩:=qfp w (j:=j+1) hl fun i q hq=>by
     obtain⟨E,hE⟩:=ho (i+1) q (by rw[show j+(i+1)=j+1+i by omega];exact hq);exact⟨E,by simpa using hE⟩
    have h1:∃c1,cs=c1++cs'∧Fl A p w [] (lkA own j) d t c1:=by
     cases hj:lkA own j with
     |none=>exact qke w (FFD A p []) m hd
     |some pin=>
      obtain⟨E,hE⟩:=ho 0 pin hj;simp at hE;subst hE;obtain⟨hs,rfl,rfl⟩:=qp5 hd;obtain⟨te,hte⟩:=uZ.1 hs;exact⟨[.slice none 0 0],rfl,.inl ⟨E,te,[],_,rfl,hte,rfl,rfl,.inl ⟨rfl,rfl⟩⟩⟩
    obtain⟨c1,e1,h1⟩:=h1;exact⟨c1++c2,by rw[e1,e2];simp,t,ts,c1,c2,rfl,rfl,h1,h2⟩
   ·cases h
  ·cases h
theorem qj7{T:TypeId}{t:Ty}(h:qc T=some t)(hm:q36 t=false)(w:World)(A:Bk)(p:qe)(k:Nat):∃v vs,(zeroValue T).run uA w=.ok v w∧z4 t vs v∧Con A p w (q0p 8 t) t (qj k t) [] vs∧v.cells=vs.toArray:=by
 obtain⟨v,vs,h1,h2,h3,-,h4⟩:=q5z h w (FFD A p []);have h3:=h3 hm;cases t with
 |map K V=>cases hm
 |fnv=>exact⟨v,vs,h1,h2,h3,h4⟩
 |row E=>
  obtain⟨-,⟨te,hte⟩,i,hi,-,hz⟩:=yi h;exact⟨.slice none 0 0,[.slice none 0 0],by simp[zeroValue,typeInfo,hi,hz],rfl,.inl ⟨E,te,[],_,rfl,hte,rfl,rfl,.inl ⟨rfl,rfl⟩⟩,rfl⟩
 | st S =>
  obtain⟨fields,fs,zc,i,hu,hf,hfb,hi,hs,hz,hpz,-⟩:=q0j h;unfold jv at hpz;simp only[hf] at hpz;split at hpz
  ·rename_i l r hl;simp only[gnS] at hpz;obtain⟨hd,rfl⟩:=hpz;obtain⟨c1,e1,hcon⟩:=qfp (A:=A) (p:=p) w (own:=qj k (.st S)) (j:=0) hl fun i q hq=>by
    have:lkA (rowsOf k fs 0) (0+i)=some q:=by simpa[qj,hf] using hq
    exact qcj this
   have e2:c1=zc.toList:=by simpa using e1.symm
   subst e2;exact⟨.agg zc,zc.toList,by simp[zeroValue,typeInfo,hi,hz],by simp[z4],⟨fs,l,hf,hd.symm,hcon⟩,by simp[Value.cells]⟩
  ·cases hpz
 |int k'=>exact⟨v,vs,h1,h2,Con.of_rd h3,h4⟩
 |bool=>exact⟨v,vs,h1,h2,Con.of_rd h3,h4⟩
 |str=>exact⟨v,vs,h1,h2,Con.of_rd h3,h4⟩
theorem qmb(hb:Bs c.A c.F w0 S0 p w)(hf:SF c σ p w a)(hd:a.defers=d)(hz:a.tmps.size=z){k:Nat}(hk:k<z)(hlo:c.lo≤k∧k<VB){T:TypeId}{t:Ty}{x:X}{own:List (Nat×Nat)}{dep:List Nat}{vs:List Value}
  (hT:qc T=some t)(hc:Con c.A (unP (qg k) p) w (x.ev c.v) t own dep vs):zl c w0 S0 d z ⟨zr (σ.un (qg k)).t k (.ref k [] 0 t),zr (σ.un (qg k)).m k ⟨x,t,own,dep⟩⟩ (a.put (some k) (.pointer (some ⟨w.heap.size,0,none⟩))) (w.alloc (.cells vs.toArray T)):=by
 have hb1:=hb.un (qg k);have hf1:=SF.un (q:=qg k) hb.inj hb.pa hf;have hkq:qg k (k * 16)=true:=by simp[qg]
 have hpx:unP (qg k) p (k * 16)=none:=by unfold unP;rw[if_pos hkq]
 have hst:=q1s (A:=c.A) hpx hb1.bd (.cells vs.toArray T);refine⟨q5o (unP (qg k) p) (k * 16) w.heap.size,q5m hb1 _ _,?_,hd,by simp only[Act.put,uS];exact hz⟩;have hkeep:SF c (σ.un (qg k)) (q5o (unP (qg k) p) (k * 16) w.heap.size) (w.alloc (.cells vs.toArray T)) a:=by
  refine⟨fun t' y hy=>?_,fun k' e he=>?_⟩
  ·obtain⟨v,h1,h2⟩:=hf1.t t' y hy;exact⟨v,h1,AV.kept hst y v (fun _ _=>⟨rfl,rfl⟩) (fun _ _=>rfl) h2⟩
  ·exact(hf1.m k' e he).kept hst (fun _ _=>⟨rfl,rfl⟩) ⟨rfl,rfl⟩
 have h2:=(hkeep.var (k:=k) (e:=⟨x,t,own,dep⟩) ⟨w.heap.size,vs.toArray,T,yc,q0x rfl,hT,by simpa using hc.kept hst (fun _ _=>⟨rfl,rfl⟩) (fun _ _=>⟨rfl,rfl⟩)⟩);exact h2.put (t:=k) (by rw[hz];exact hk) ⟨w.heap.size,yc,rfl,c.new k _ hlo.1 hlo.2⟩
theorem qy6(hb:Bs c.A c.F w0 S0 p w)(hf:SF c σ p w a)(hd:a.defers=d)(hz:a.tmps.size=z){k:Nat}(hk:k<z)(hlo:c.lo≤k∧k<VB){T:TypeId}{x:AV}{v:Value}(hx:x.pd c (unP (qg k) p) w v):
  zl c w0 S0 d z ⟨zr (σ.un (qg k)).t k (.bx k T x),(σ.un (qg k)).m⟩ (a.put (some k) (.pointer (some ⟨w.heap.size,0,none⟩))) (w.alloc (.cells #[v] T)):=by
 have hb1:=hb.un (qg k);have hf1:=SF.un (q:=qg k) hb.inj hb.pa hf;have hkq:qg k (k * 16)=true:=by simp[qg]
 have hpx:unP (qg k) p (k * 16)=none:=by unfold unP;rw[if_pos hkq]
 have hst:=q1s (A:=c.A) hpx hb1.bd (.cells #[v] T);refine⟨q5o (unP (qg k) p) (k * 16) w.heap.size,q5m hb1 _ _,?_,hd,by simp only[Act.put,uS];exact hz⟩;have hkeep:SF c (σ.un (qg k)) (q5o (unP (qg k) p) (k * 16) w.heap.size) (w.alloc (.cells #[v] T)) a:=by
  refine⟨fun t' y hy=>?_,fun k' e he=>?_⟩
  ·obtain⟨v,h1,h2⟩:=hf1.t t' y hy;exact⟨v,h1,AV.kept hst y v (fun _ _=>⟨rfl,rfl⟩) (fun _ _=>rfl) h2⟩
  ·exact(hf1.m k' e he).kept hst (fun _ _=>⟨rfl,rfl⟩) ⟨rfl,rfl⟩
 exact hkeep.put (t:=k) (by rw[hz];exact hk) ⟨w.heap.size,v,⟨yc,c.new k _ hlo.1 hlo.2⟩,rfl,q0x rfl,AV.kept hst x _ (fun _ _=>⟨rfl,rfl⟩) (fun _ _=>rfl) hx⟩
theorem qy4(hb:Bs c.A c.F w0 S0 p w)(hf:SF c σ p w a)(hd:a.defers=d)(hz:a.tmps.size=z){k:Nat}(hk:k<z)(hlo:c.lo≤k∧k<VB){T:TypeId}(cs:Array Value):
  zl c w0 S0 d z ⟨zr (σ.un (qg k)).t k (.ax k T cs.size .any),(σ.un (qg k)).m⟩ (a.put (some k) (.pointer (some ⟨w.heap.size,0,none⟩))) (w.alloc (.cells cs T)):=by
 have hb1:=hb.un (qg k);have hf1:=SF.un (q:=qg k) hb.inj hb.pa hf;have hkq:qg k (k * 16)=true:=by simp[qg]
 have hpx:unP (qg k) p (k * 16)=none:=by unfold unP;rw[if_pos hkq]
 have hst:=q1s (A:=c.A) hpx hb1.bd (.cells cs T);refine⟨q5o (unP (qg k) p) (k * 16) w.heap.size,q5m hb1 _ _,?_,hd,by simp only[Act.put,uS];exact hz⟩;have hkeep:SF c (σ.un (qg k)) (q5o (unP (qg k) p) (k * 16) w.heap.size) (w.alloc (.cells cs T)) a:=by
  refine⟨fun t' y hy=>?_,fun k' e he=>?_⟩
  ·obtain⟨v,h1,h2⟩:=hf1.t t' y hy;exact⟨v,h1,AV.kept hst y v (fun _ _=>⟨rfl,rfl⟩) (fun _ _=>rfl) h2⟩
  ·exact(hf1.m k' e he).kept hst (fun _ _=>⟨rfl,rfl⟩) ⟨rfl,rfl⟩
 exact hkeep.put (t:=k) (by rw[hz];exact hk) ⟨w.heap.size,cs,⟨yc,c.new k _ hlo.1 hlo.2⟩,rfl,q0x rfl,rfl,trivial⟩
theorem qpm(hb:Bs c.A c.F w0 S0 p w)(hf:SF c σ p w a)(hd:a.defers=d)(hz:a.tmps.size=z){k:Nat}(hk:k<z)(hlo:c.lo≤k∧k<VB)(hdst:o.dst=some k){T:TypeId}(heq:o.op=.alloc T)(h:qhq uA σ k T=some σ'){Q:Exit→Act→World→Prop}:
  o.wp uA a w (zl c w0 S0 d z σ') Q:=by
 have one:qit uA T=true→∀σ'',some σ''=some σ'→σ''=⟨zr (σ.un (qg k)).t k (.bx k T .any),(σ.un (qg k)).m⟩→o.wp uA a w (zl c w0 S0 d z σ') Q:=fun hz1 σ'' h e=>by
  injection h with h;subst h;subst e;obtain⟨v,hzv,hcells⟩:=qsy hz1 w;have hrun:(execOp a.eval o).run uA w=.ok (.value (.pointer (some ⟨w.heap.size,0,none⟩))) (w.alloc (.cells #[v] T)):=by
   simp[execOp,heq,Instr.alloc,hzv,newVar,newRow,newObj,hcells,kL]
  unfold Oper.wp;rw[hrun]
  show zl c w0 S0 d z _ (a.put o.dst _) _
  rw[hdst];exact qy6 hb hf hd hz hk hlo (x:=.any) trivial
 unfold qhq at h;split at h
 ·rename_i t hT;cases hm:q36 t with
  | true =>
   rw[hm] at h;simp only[if_true] at h;split at h
   ·rename_i hz1;exact one hz1 _ h rfl
   ·cases h
  |false=>
  rw[hm] at h;simp only[gnF,if_false] at h;injection h with h;subst h;obtain⟨v,vs,hzv,hp,hrd,hcells⟩:=qj7 hT hm w c.A (unP (qg k) p) k;have hrun:(execOp a.eval o).run uA w=.ok (.value (.pointer (some ⟨w.heap.size,0,none⟩))) (w.alloc (.cells vs.toArray T)):=by
   simp[execOp,heq,Instr.alloc,hzv,newVar,newRow,newObj,hcells,kL]
  unfold Oper.wp;rw[hrun]
  show zl c w0 S0 d z _ (a.put o.dst _) _
  rw[hdst];exact qmb hb hf hd hz hk hlo (by assumption) hrd
 ·split at h
  ·rename_i hz1;exact one hz1 _ h rfl
  ·split at h
   ·rename_i n hn;injection h with h;subst h;obtain⟨zc,hzv,rfl,-⟩:=qr2 hn w;have hrun:(execOp a.eval o).run uA w=.ok (.value (.pointer (some ⟨w.heap.size,0,none⟩))) (w.alloc (.cells zc T)):=by
     simp[execOp,heq,Instr.alloc,hzv,newVar,newRow,newObj,Value.cells,kL]
    unfold Oper.wp;rw[hrun]
    show zl c w0 S0 d z _ (a.put o.dst _) _
    rw[hdst];exact qy4 hb hf hd hz hk hlo zc
   ·cases h
theorem qyx(hb:Bs c.A c.F w0 S0 p w)(hf:SF c σ p w a)(hc:hold c.v cs=true)(hd:a.defers=d)(hz:a.tmps.size=z){k:Nat}(hk:k<z)(hlo:c.lo≤k∧k<VB)(hdst:o.dst=some k){T:TypeId}{y:Operand}(heq:o.op=.box T y)(h:qs3 σ cs k T y=some σ'){Q:Exit→Act→World→Prop}:
  o.wp uA a w (zl c w0 S0 d z σ') Q:=by
 unfold qs3 at h;split at h
 ·rename_i t hT;split at h
  ·rename_i x own dep hy;injection h with h;subst h;obtain⟨y',hy1,hy2⟩:=uG.1 hy;have hf1:=SF.un (q:=qg k) hb.inj hb.pa hf;obtain⟨vs,hp,hcon⟩:=yg hy2 (qd hf1 hc hy1);have hcells:=hp.cells hcon.len.2;have hrun:(execOp a.eval o).run uA w=.ok (.value (.pointer (some ⟨w.heap.size,0,none⟩))) (w.alloc (.cells vs.toArray T)):=by
    generalize a.eval=r at *;simp[execOp,heq,Instr.box,newVar,newRow,newObj,hcells,kL]
   unfold Oper.wp;rw[hrun]
   show zl c w0 S0 d z _ (a.put o.dst _) _
   rw[hdst];exact qmb hb hf hd hz hk hlo (by assumption) hcon
  ·cases h
 ·split at h
  ·rename_i y' hy;split at h
   ·rename_i hpv;injection h with h;subst h;have hb1:=hb.un (qg k);have hf1:=SF.un (q:=qg k) hb.inj hb.pa hf;have hy1:=qua hf1 hc hy;have hcells:=qdu hpv hy1;have hrun:(execOp a.eval o).run uA w=.ok (.value (.pointer (some ⟨w.heap.size,0,none⟩))) (w.alloc (.cells #[a.eval y] T)):=by
     generalize a.eval=r at *;simp[execOp,heq,Instr.box,newVar,newRow,newObj,hcells,kL]
    unfold Oper.wp;rw[hrun]
    show zl c w0 S0 d z _ (a.put o.dst _) _
    rw[hdst];have hkq:qg k (k * 16)=true:=by simp[qg]
    have hpx:unP (qg k) p (k * 16)=none:=by unfold unP;rw[if_pos hkq]
    have hst:=q1s (A:=c.A) hpx hb1.bd (.cells #[a.eval y] T);refine⟨q5o (unP (qg k) p) (k * 16) w.heap.size,q5m hb1 _ _,?_,hd,by simp only[Act.put,uS];exact hz⟩;have hkeep:SF c (σ.un (qg k)) (q5o (unP (qg k) p) (k * 16) w.heap.size) (w.alloc (.cells #[a.eval y] T)) a:=by
     refine⟨fun t' y hy=>?_,fun k' e he=>?_⟩
     ·obtain⟨v,h1,h2⟩:=hf1.t t' y hy;exact⟨v,h1,AV.kept hst y v (fun _ _=>⟨rfl,rfl⟩) (fun _ _=>rfl) h2⟩
     ·exact(hf1.m k' e he).kept hst (fun _ _=>⟨rfl,rfl⟩) ⟨rfl,rfl⟩
    exact hkeep.put (t:=k) (by rw[hz];exact hk) ⟨w.heap.size,a.eval y,⟨yc,c.new k _ hlo.1 hlo.2⟩,rfl,q0x rfl,AV.kept hst y' _ (fun _ _=>⟨rfl,rfl⟩) (fun _ _=>rfl) hy1⟩
   ·cases h
  ·cases h
end
end
section
section
variable{c:Cx}{p:qe}{w w0:World}{S0:Nat→Prop}{a:Act}{σ σ':St}{cs:List (X×Bool)}{o:Oper}{d:List Deferred}{z:Nat}
theorem ji{l:List Nat}{pin:Nat}(h:qr l pin=false):∀x∈l,yu pin x=false∧no x=false:=fun y hy=>by
 refine⟨?_,rfl⟩;cases hq:yu pin y with
 |false=>rfl
 |true=>
  have:=gnN hq;subst this;rw[qz.2 hy] at h;cases h
theorem qjd{l m:List Nat}{x:Nat}(h1:qr l x=false)(h2:qr m x=false):qr (uni l m) x=false:=by
 cases h:qr (uni l m) x with
 |false=>rfl
 |true=>
  rcases qta (qz.1 h) with h|h
  ·rw[qz.2 h] at h1;cases h1
  ·rw[qz.2 h] at h2;cases h2
theorem qhv(hb:Bs c.A c.F w0 S0 p w)(hf:SF c σ p w a)(hd:a.defers=d)(hz:a.tmps.size=z){T:TypeId}{t:Ty}(hT:qc T=some t){k q g:Nat}{path:List Nat}(hg:p (k * 16)=some g)(hnv:∀e,lkA σ.m k=some e→nvB e.t=true→c.F.mx e.t=0){v:Value}{xv:X}{ownv:List (Nat×Nat)}{depv:List Nat}{vs:List Value}
  (hp:z4 t vs v)(hv:Con c.A p w (xv.ev c.v) t ownv depv vs)(h:q4z σ k path q t xv ownv depv=some σ'):
  ∃w',(Instr.storeAt T (.pointer (some ⟨g,q,none⟩)) v).run uA w=.ok () w'∧zl c w0 S0 d z σ' a w':=by
 unfold q4z at h;split at h
 ·rename_i e he;split at h
  ·rename_i xo t' ov q' x' own' hat hset;split at h
   ·rename_i hok;simp only[gnB,uQ] at hok;obtain⟨h1,h2,h3⟩:=hok;rw[Ty.beq_iff] at h1;have h2':=gnN h2;subst h1 h2';injection h with h;subst h;obtain⟨g',cur,T',hg',hh,hty,hcon⟩:=hf.m k e he;obtain rfl:g=g':=gnI (hg.symm.trans hg');have hcon2:Con c.A p w (e.x.ev c.v) e.t e.own (uni e.dep depv) cur.toList:=hcon.mono fun x hx=>yh hx;have hv2:Con c.A p w (xv.ev c.v) t' ownv (uni e.dep depv) vs:=hv.mono fun x hx=>jo hx;obtain⟨c0,c1,c2,e1,e2,e3,e4⟩:∃c0 c1 c2,cur.toList=c0++(c1++c2)∧c0.length=q'∧c1.length=vs.length∧Con c.A p w (x'.ev c.v) e.t own' (if qjf e.t path then depv else uni e.dep depv) (c0++(vs++c2)):=by
     cases hth:qjf e.t path with
     |false=>
      simp only[gnF,if_false];exact q9z path hset hat hcon2 hv2
     | true =>
      simp only[if_true];unfold qjf at hth;split at hth
      ·rename_i S j het;split at hth
       ·rename_i fs hfs;have hflat:∀i t,i≠j→fs[i]? =some t→qm 8 t=true:=fun i t hi ht=>by
         have hlt:=(gnH.1 ht).1;have:=vE.1 hth i (jC.2 hlt);simp only[kW,ht] at this;rcases this with h|h
         ·exact absurd (gnN h) hi
         ·exact h
        rw[het] at hset hat hcon;unfold q51 at hset;unfold jl at hat;simp only[hfs] at hset hat;split at hset
        ·rename_i tj hj;simp only[hj,jl,q51] at hset hat;split at hset
         ·rename_i oj hoj;simp only[gnS] at hset hat;obtain⟨rfl,rfl⟩:=hset;obtain⟨-,rfl,-,rfl⟩:=hat;obtain⟨fs',ds,hf',hds,hfls⟩:=hcon;obtain rfl:=gnI (hf'.symm.trans hfs);obtain⟨c0,c1,c2,q1,q2,q3,q4⟩:=Fls.set2 (own':=q0i e.own j oj) (d:=xv.ev c.v) (c:=vs) hflat hfls hj (by rw[uE,jm,if_pos rfl];exact Con.sup hoj hv) (fun i hi=>by rw[uE] at hi;rw[jm,if_neg hi]);refine⟨c0,c1,c2,q1,by rw[q2];simp,by rw[q3,hv.len.1],?_⟩;rw[het];exact⟨fs',ds.set j (xv.ev c.v),hfs,by show D.a ((e.x.ev c.v).fs.set j _)=_;rw[hds];rfl,q4⟩
         ·cases hset
        ·cases hset
       ·cases hth
      ·cases hth
    have hrun:=q06 hT hh e1 e2 e3 (hv.rd (dep':=depv++ownv.map (·.2)) (fun x hx=>uJ _ hx) (fun x hx=>uH _ hx)) hp;refine⟨_,hrun,p,q0m hb hg (FlW.var hb.flo hh hty (by simpa using hcon.len.1) (hnv _ he) _),?_,hd,hz⟩;have hst:Stab c.A (yu (k * 16)) no p w p (w.setRow g (c0++(vs++c2)).toArray):=jz hb.inj (hb.pa _ _ hg) hg _;have hno:=ji h3;have hk:=hf.keep hst;refine hk.var ⟨g,(c0++(vs++c2)).toArray,T',hg,setRow_heap w g cur _ T' _ hh,hty,?_⟩;have hno2:∀x∈(if qjf e.t path then depv else uni e.dep depv),yu (k * 16) x=false∧no x=false:=fun x hx=>by
     split at hx
     ·exact hno x (uH _ (jo hx))
     ·exact hno x (uH _ hx)
    exact(e4.kept hst hno2 (fun x hx=>hno x (uJ _ hx))).depC
   ·cases h
  ·cases h
 ·cases h
theorem qjx(hb:Bs c.A c.F w0 S0 p w)(hf:SF c σ p w a)(hd:a.defers=d)(hz:a.tmps.size=z){T:TypeId}{t:Ty}(hT:qc T=some t){k q g:Nat}{path:List Nat}(hg:p (k * 16)=some g)(hnv:∀e,lkA σ.m k=some e→nvB e.t=true→c.F.mx e.t=0){v:Value}{xv:X}{ownv:List (Nat×Nat)}{depv:List Nat}{vs:List Value}
  (hp:z4 t vs v)(hv:Con c.A p w (xv.ev c.v) t ownv depv vs)(h:qck σ k path q t xv ownv depv=some σ'):
  ∃w',(Instr.storeAt T (.pointer (some ⟨g,q,none⟩)) v).run uA w=.ok () w'∧zl c w0 S0 d z σ' a w':=
 qhv hb hf hd hz hT hg hnv hp hv.depC h
theorem qgy{T:List (Nat×AV)}{k j:Nat}{x0:X}{t0:Ty}{own0:List (Nat×Nat)}{dep0:List Nat}:∀{l:List (Nat×AV)},qpn T k j l=some (x0,t0,own0,dep0)→∃t b,lkA T t=some (.wf k j x0 t0 own0 dep0 b)
  |[],h=>by cases h
  | (s, _) :: l, h => by
    unfold qpn at h;split at h
    · rename_i k' j' x t own dep b hs;split at h
      · rename_i hk;simp only[gnB] at hk;obtain rfl:=gnN hk.1;obtain rfl:=gnN hk.2;simp only[gnS] at h;obtain⟨rfl,rfl,rfl,rfl⟩:=h;exact⟨s,b,hs⟩
      · exact qgy h
    · exact qgy h
theorem qo7(hb:Bs c.A c.F w0 S0 p w)(hf:SF c σ p w a)(hd:a.defers=d)(hz:a.tmps.size=z){T:TypeId}{t:Ty}(hT:qc T=some t){k q g:Nat}{path:List Nat}(hg:p (k * 16)=some g){v:Value}{xv:X}{ownv:List (Nat×Nat)}{depv:List Nat}{vs:List Value}
  (hp:z4 t vs v)(hv:Con c.A p w (xv.ev c.v) t ownv depv vs)(h:qed σ k path q t xv ownv depv=some σ'):
  ∃w',(Instr.storeAt T (.pointer (some ⟨g,q,none⟩)) v).run uA w=.ok () w'∧zl c w0 S0 d z σ' a w':=by
 unfold qed at h;split at h
 ·rename_i j ow1 ow2;split at h
  ·rename_i x0 S own0 dep0 hwf;split at h
   ·rename_i fs hfs;split at h
    ·rename_i t' oj hj hoj;split at h
     ·rename_i hok;simp only[gnB,uQ] at hok;obtain⟨h1,h2,h4,h3⟩:=hok;rw[Ty.beq_iff] at h1;have h2':=gnN h2;subst h1 h2';injection h with h;subst h;obtain⟨s,b,hs⟩:=qgy hwf;obtain⟨-,-,⟨g',cur,T',S',fs',ds,hg',hh,hty,hS,hf',hds,hfls⟩,-⟩:=hf.t s _ hs;obtain rfl:g=g':=gnI (hg.symm.trans hg');injection hS with hS;subst hS;obtain rfl:=gnI (hf'.symm.trans hfs);obtain⟨c0,c1,c2,e1,e2,e3,q4⟩:=q1r.set (own':=q0i own0 j oj) (dep2:=uni dep0 depv) (d:=xv.ev c.v) (c:=vs) (fun x hx=>yh hx) (by rw[uE];exact hfls) hj (by rw[uE,jm,if_pos rfl];exact(Con.sup hoj hv).mono fun x hx=>jo hx) (fun i hi=>by rw[uE] at hi;rw[jm,if_neg hi]);have e4:Con c.A p w ((X.set x0 j xv).ev c.v) (.st S) (q0i own0 j oj) (uni dep0 depv) (c0++(vs++c2)):=⟨_,ds.set j (xv.ev c.v),hfs,by show D.a ((x0.ev c.v).fs.set j _)=_;rw[hds];rfl,q4⟩;have e3':c1.length=vs.length:=by rw[e3,hv.len.1]
      have hrun:=q06 hT hh e1 e2 e3' (hv.rd (dep':=depv++(ow1::ow2).map (·.2)) (fun x hx=>uJ _ hx) (fun x hx=>uH _ hx)) hp;have hsz:cur.size=(Ty.st S).w:=by
       have:=e4.len.1;rw[←uT,e1,←this];simp only[uW,e3']
      refine⟨_,hrun,p,q0m hb hg (FlW.var hb.flo hh hty hsz (fun hn=>by rw[h4] at hn;cases hn) _),?_,hd,hz⟩;have hst:Stab c.A (yu (k * 16)) no p w p (w.setRow g (c0++(vs++c2)).toArray):=jz hb.inj (hb.pa _ _ hg) hg _;have hno:=ji h3;have hk:=hf.keep hst;refine hk.var ⟨g,(c0++(vs++c2)).toArray,T',hg,setRow_heap w g cur _ T' _ hh,hty,?_⟩;exact(e4.kept hst (fun x hx=>hno x (uH _ hx)) (fun x hx=>hno x (uJ _ hx))).depC
     ·cases h
    ·cases h
   ·cases h
  ·cases h
 ·cases h
theorem qgt(hb:Bs c.A c.F w0 S0 p w)(hf:SF c σ p w a)(hd:a.defers=d)(hz:a.tmps.size=z){T:TypeId}{t:Ty}(hT:qc T=some t){k q g:Nat}{path:List Nat}(hg:p (k * 16)=some g)(hnv:∀e,lkA σ.m k=some e→nvB e.t=true→c.F.mx e.t=0){v:Value}{xv:X}{ownv:List (Nat×Nat)}{depv:List Nat}{vs:List Value}
  (hp:z4 t vs v)(hv:Con c.A p w (xv.ev c.v) t ownv depv vs)(h:q4y σ k path q t xv ownv depv=some σ'):
  ∃w',(Instr.storeAt T (.pointer (some ⟨g,q,none⟩)) v).run uA w=.ok () w'∧zl c w0 S0 d z σ' a w':=by
 unfold q4y at h;split at h
 ·rename_i σ1 h1;injection h with h;subst h;exact qo7 hb hf hd hz hT hg hp hv.depC h1
 ·exact qjx hb hf hd hz hT hg hnv hp hv h
theorem qaq{g oo:Nat}{c0 c1 c2 vs cl:List Value}{cur:Array Value}{T:TypeId}(hg:w.heap[g]? =some (.cells cur T (0,0)))(hc:cur.toList=c0++(c1++c2))(h1:c1.length=cl.length)(hr:w.rangeAt g oo vs)(hap:oo+vs.length≤c0.length∨c0.length+cl.length≤oo):
  (w.setRow g (c0++(cl++c2)).toArray).rangeAt g oo vs:=fun j v hj=>by
 have h:=hr j v hj;rw[cell_of_row w g _ cur T (0,0) hg,←uN,hc] at h;rw[cell_of_row _ g _ _ T (0,0) (setRow_heap w g cur _ T _ hg)];have hjl:=(gnH.1 hj).1;simp only[uU];rcases hap with hap|hap
 ·rw[uI (by omega)] at h⊢;exact h
 ·rw[uD (by omega),uD (by omega)] at h⊢;rw[h1] at h;exact h
theorem qqi{g oo:Nat}{c0 c1 c2 b0 b1 b2 cl:List Value}{cur:Array Value}{T:TypeId}(hg:w.heap[g]? =some (.cells cur T (0,0)))(hc:cur.toList=c0++(c1++c2))(h1:c1.length=cl.length)(hr:w.rangeAt g oo (b0++(b1++b2)))(hb:oo+b0.length=c0.length)(hb1:b1.length=cl.length):
  (w.setRow g (c0++(cl++c2)).toArray).rangeAt g oo (b0++(cl++b2)):=fun j v hj=>by
 rw[cell_of_row _ g _ _ T (0,0) (setRow_heap w g cur _ T _ hg)];simp only[uU];by_cases hj0:j<b0.length
 ·rw[uI hj0] at hj;have h:=hr j v (by rw[uI hj0];exact hj);rw[cell_of_row w g _ cur T (0,0) hg,←uN,hc,uI (by omega)] at h;rw[uI (by omega)];exact h
 ·rw[uD (by omega)] at hj;rw[uD (by omega)];by_cases hj1:j<b0.length+cl.length
  ·rw[uI (by omega)] at hj⊢;rw[show oo+j - c0.length=j - b0.length by omega];exact hj
  ·rw[uD (by omega)] at hj⊢;have h:=hr j v (by rw[uD (by omega),uD (by omega),hb1];exact hj);rw[cell_of_row w g _ cur T (0,0) hg,←uN,hc,uD (by omega),uD (by omega)] at h;rw[show oo+j - c0.length - cl.length=oo+j - c0.length - c1.length by omega];exact h
structure ElSt(c:Cx)(p:qe)(w:World)(pin g:Nat)(i:X)(path:List Nat)(te:Ty)(xv:X)(depv:List Nat)(c0 c1 c2 cl:List Value)(w':World):Prop where
 hp:p pin=some g
 inj:∀x y b,p x=some b→p y=some b→x=y
 cur:∃cur T,w.heap[g]? =some (.cells cur T (0,0))∧cur.toList=c0++(c1++c2)
 len:c1.length=cl.length
 out:w'=w.setRow g (c0++(cl++c2)).toArray
 off:∃t q,(∃xo ov,jl (.lit .u) te [] path=some (xo,t,ov,q))∧c0.length=(i.ev c.v).int.toNat * te.w+q∧q+cl.length≤te.w∧Con c.A p w (xv.ev c.v) t [] depv cl
 dv:qr depv pin=false
 ag:c.A g
theorem qar:∀(path:List Nat){x y x':X}{t t':Ty}{ov:List (Nat×Nat)}{q:Nat},jl x t [] path=some (x',t',ov,q)→∃y',jl y t [] path=some (y',t',[],q)∧ov=[]
 |[],x,y,x',t,t',ov,q,h=>by
  simp only[jl,gnS] at h;obtain⟨rfl,rfl,rfl,rfl⟩:=h;exact⟨y,rfl,rfl⟩
 | j :: path, x, y, x', t, t', ov, q, h => by
  unfold jl at h;split at h
  ·rename_i S;split at h
   ·rename_i fs hfs;split at h
    ·rename_i tj hj;split at h
     ·rename_i x1 t1 own1 o1 hr;simp only[gnS] at h;obtain⟨rfl,rfl,rfl,rfl⟩:=h;have hr':jl (.fld x j) tj [] path=some (x1,t1,own1,o1):=hr;obtain⟨y',hy,rfl⟩:=qar path (y:=.fld y j) hr';refine⟨y',?_,rfl⟩;unfold jl;simp only[hfs,hj,show q7f (lkA ([]:List (Nat×Nat)) j)=[] from rfl,hy]
     ·cases h
    ·cases h
   ·cases h
  ·cases h
theorem ElSt.stab{pin g:Nat}{i:X}{path:List Nat}{te:Ty}{xv:X}{depv:List Nat}{c0 c1 c2 cl:List Value}{w':World}(h:ElSt c p w pin g i path te xv depv c0 c1 c2 cl w'):Stab c.A (yu pin) no p w p w':=by
 rw[h.out];exact jz h.inj h.ag h.hp _
theorem ElSt.row{pin g:Nat}{i:X}{path:List Nat}{te:Ty}{xv x x':X}{depv dep:List Nat}{c0 c1 c2 cl:List Value}{w':World}(h:ElSt c p w pin g i path te xv depv c0 c1 c2 cl w')(hu:qoh i te path xv x=some x')(hn:qr dep pin=false)
  {E:TypeId}{l:List D}(hl:x.ev c.v=.r l){v:Value}(hte:qc E=some te)(hv:qbj c.A p w dep pin E te l v):∃l',x'.ev c.v=.r l'∧qbj c.A p w' (uni dep depv) pin E te l' v:=by
 unfold qoh at hu;split at hu
 ·rename_i xe hxe;injection hu with hu;subst hu;obtain⟨t,q,⟨xo,ov,hat⟩,hoff,hfit,hcv⟩:=h.off;obtain⟨cur,T,hcur,hcl⟩:=h.cur;have hst:=h.stab;have hnd:=ji (qjd hn h.dv);refine⟨l.set (i.ev c.v).int.toNat (xe.ev c.v),by show D.r _=_;rw[hl];rfl,?_⟩;rcases hv with⟨rfl,rfl⟩|⟨g',cap,cur',rfl,hg',hh,h1,h2,h3,h4,h5⟩
  ·exact .inl ⟨rfl,by simp⟩
  ·obtain rfl:g=g':=gnI (h.hp.symm.trans hg');rw[hcur] at hh;injection hh with hh;injection hh with hh1 hh2;subst hh1 hh2;have hsz:(c0++(cl++c2)).toArray.size=cur.size:=by
    rw[←uT (xs:=cur),hcl];simp[h.len]
   refine .inr ⟨g,cap,(c0++(cl++c2)).toArray,by simp,h.hp,by rw[h.out];exact setRow_heap w g cur _ _ _ hcur,by simpa using h1,h2,by rw[hsz];exact h3,by simpa using h4,fun j hj=>?_⟩;have hj':j<l.length:=by simpa using hj
   obtain⟨vs,hr,hd⟩:=h5 j hj';have hvl:=(Rd.len _ hd).1;by_cases hji:j=(i.ev c.v).int.toNat
   ·subst hji;have hget:(X.get x i).ev c.v=l[(i.ev c.v).int.toNat]:=by
     show(x.ev c.v).rs.getD (i.ev c.v).int.toNat .u=_
     rw[hl];simp[D.rs,gnG,gnK hj']
    obtain⟨y',hat',-⟩:=qar path (y:=.get x i) hat;have hcon:Con c.A p w ((X.get x i).ev c.v) te [] (uni dep depv) vs:=by rw[hget];exact Con.of_rd (hd.mono fun b _ hb=>hb.mono fun y hy=>yh hy)
    obtain⟨b0,b1,b2,e1,e2,e3,e4⟩:=q9z path hxe hat' hcon (hcv.mono fun y hy=>jo hy);subst e1;refine⟨b0++(cl++b2),?_,?_⟩
    ·rw[h.out];exact qqi hcur hcl h.len hr (by rw[e2,hoff]) e3
    ·have hrd:=(e4.kept hst hnd (fun x hx=>by cases hx)).rd (dep':=uni dep depv) (fun x hx=>hx) (fun x hx=>by cases hx);rw[List.getElem_set_self];exact hrd
   ·refine⟨vs,?_,?_⟩
    ·rw[h.out];refine qaq hcur hcl h.len hr ?_;rcases Nat.lt_or_gt_of_ne hji with hlt|hgt
     ·left;have:=uC te.w (show j+1≤(i.ev c.v).int.toNat by omega);rw[uO] at this;omega
     ·right;have:=uC te.w (show(i.ev c.v).int.toNat+1≤j by omega);rw[uO] at this;omega
    ·rw[vQ (Ne.symm hji)];exact Rd.keeps (hst.kp hnd) _ (hd.mono fun b _ hb=>hb.mono fun y hy=>yh hy)
 ·cases hu
theorem filter_one{own:List (Nat×Nat)}(hn:jh own=true){pin j pin':Nat}(h:own.filter (fun e=>uB e.2 pin)=[(j,pin')]):lkA own j=some pin∧∀i,i≠j→lkA own i≠some pin:=by
 have hm:(j,pin')∈own.filter (fun e=>uB e.2 pin):=by rw[h];exact kI
 obtain⟨h1,h2⟩:=kC.1 hm;have h3:=gnN h2;simp only at h3;subst h3;refine⟨?_,fun i hi he=>?_⟩
 ·clear h hm
  induction own with
  |nil=>cases h1
  | cons e l ih =>
   obtain⟨k,x⟩:=e;simp only[jh,gnB,vG] at hn;rcases jH.1 h1 with he|he
   ·injection he with e1 e2;subst e1 e2;exact qa
   ·by_cases hk:k=j
    ·subst hk;have:=q88 hn.1 _ he;exact absurd rfl this
    ·rw[qb hk];exact ih hn.2 he
 ·have:(i,pin')∈own.filter (fun e=>uB e.2 pin'):=kC.2 ⟨y3 he,by simp⟩;rw[h] at this;simp at this;exact hi this
theorem Fls.kept'{A:Bk}{p p':qe}{w w':World}{dep:List Nat}{Z L:Nat→Bool}{own:List (Nat×Nat)}(hs:Stab A Z L p w p' w')(hz:∀x∈dep,Z x=false∧L x=false):∀{ds:List D}{n:Nat}{fs:List Ty}{cs:List Value},(∀i x,n≤i→lkA own i=some x→Z x=false∧L x=false)→Fls A p w dep own n ds fs cs→Fls A p' w' dep own n ds fs cs
 |[],_,_,_,_,h=>h
 |d::ds,j,fs,cs,hp,⟨t,ts,c1,c2,e1,e2,h1,h2⟩=>⟨t,ts,c1,c2,e1,e2,h1.kept hs hz fun x hx=>hp j x (kK _) hx,Fls.kept' hs hz (fun i x hi hx=>hp i x (by omega) hx) h2⟩
theorem ElSt.flds{pin g:Nat}{i:X}{path:List Nat}{te:Ty}{xv x x':X}{depv dep:List Nat}{c0 c1 c2 cl:List Value}{w':World}(h:ElSt c p w pin g i path te xv depv c0 c1 c2 cl w')(hn:qr dep pin=false){own:List (Nat×Nat)}{E:TypeId}(hte:qc E=some te):
  ∀{ds:List D}{n j:Nat}{fs:List Ty}{vs:List Value},Fls c.A p w dep own n ds fs vs→fs[j]? =some (.row E)→lkA own (n+j)=some pin→(∀k,k≠n+j→lkA own k≠some pin)→x.ev c.v=ds.getD j .u→qoh i te path xv x=some x'→Fls c.A p w' (uni dep depv) own n (ds.set j (x'.ev c.v)) fs vs
 |[],n,j,fs,vs,⟨h1,h2⟩,hj,_,_,_,_=>by subst h1;simp at hj
 | d :: ds, n, j, fs, vs, ⟨t, ts, a1, a2, e1, e2, h1, h2⟩, hj, ho, hne, hx, hu => by
  subst e1 e2;have hst:=h.stab;have hnd:=ji (qjd hn h.dv);have hpin:∀k y,k≠n+j→lkA own k=some y→yu pin y=false∧no y=false:=fun k y hk hy=>by
   refine⟨?_,rfl⟩;cases hq:yu pin y with
   |false=>rfl
   |true=>
    have:=gnN hq;subst this;exact absurd hy (hne k hk)
  cases j with
  |zero=>
   simp at hj;subst hj;rw[kM] at ho;rw[ho] at h1;rcases h1.symm with⟨K,V,kt,vt,lm,gm,es,clock,em,-⟩|⟨E1,te1,l,v,q1,q2,q3,q4,q5⟩
   ·cases em
   injection q1 with q1;subst q1;obtain rfl:=gnI (q2.symm.trans hte);subst q3 q4;obtain⟨l',hl',hown⟩:=h.row hu hn (l:=l) (by rw[hx];rfl) hte q5;refine⟨_,ts,_,a2,rfl,rfl,?_,Fls.kept' hst hnd (fun k y hk hy=>hpin k y (by omega) hy) (Fls.mono (fun y hy=>yh hy) h2)⟩;rw[ho];exact .inl ⟨_,te1,l',v,rfl,hte,hl',rfl,hown⟩
  |succ j=>
   refine⟨t,ts,a1,a2,rfl,rfl,?_,ElSt.flds h hn hte h2 (by simpa using hj) (by rw[show n+1+j=n+(j+1) by omega];exact ho) (fun k hk=>hne k (by omega)) (by simpa using hx) hu⟩;exact(Fl.mono (fun y hy=>yh hy) h1).kept hst hnd fun y hy=>hpin n y (by omega) hy
theorem q7p{E:TypeId}{te:Ty}(h:qgo E te=true):qc E=some te:=by
 unfold qgo at h;split at h
 ·rename_i t ht;rw[ht,(Ty.beq_iff _ _).1 h]
 ·cases h
theorem q9v{pin g:Nat}{i:X}{path:List Nat}{te:Ty}{xv:X}{depv:List Nat}{c0 c1 c2 cl:List Value}{w':World}(h:ElSt c p w pin g i path te xv depv c0 c1 c2 cl w'){x x':X}{t:Ty}{own:List (Nat×Nat)}{dep dep':List Nat}{vs:List Value}
  (hu:qa3 pin i te path xv depv x t own dep=some (x',dep'))(hc:Con c.A p w (x.ev c.v) t own dep vs):Con c.A p w' (x'.ev c.v) t own dep' vs:=by
 unfold qa3 at hu;split at hu
 ·cases hu
 ·rename_i hok;simp only[kW,uQ,not_or,vX,vV] at hok;obtain⟨hn,hnd⟩:=hok;have hst:=h.stab;have hdep:=ji hn;split at hu
  ·rename_i hfil;simp only[gnS] at hu;obtain⟨rfl,rfl⟩:=hu;refine hc.kept hst hdep fun y hy=>⟨?_,rfl⟩;cases hq:yu pin y with
   |false=>rfl
   |true=>
    obtain⟨e,he,rfl⟩:=kU.1 hy;have:e∈own.filter (fun e=>uB e.2 pin):=kC.2 ⟨he,hq⟩;rw[hfil] at this;cases this
  ·rename_i j pin' hfil;obtain⟨ho,hne⟩:=filter_one hnd hfil;split at hu
   ·rename_i E;split at hu
    ·rename_i hE;simp only[gnB] at hE;have hte:=q7p hE.1;have hj:=gnN hE.2;subst hj;simp only[kR,Prod.mk.injEq] at hu;obtain⟨x1,hx1,rfl,rfl⟩:=hu;have hc':Fl c.A p w dep (lkA own 0) (x.ev c.v) (.row E) vs:=hc;rw[ho] at hc';rcases hc'.symm with⟨K,V,kt,vt,lm,gm,es,clock,em,-⟩|⟨E1,te1,l,v,q1,q2,q3,q4,q5⟩
     ·cases em
     injection q1 with q1;subst q1;obtain rfl:=gnI (q2.symm.trans hte);obtain⟨l',hl',hown⟩:=h.row hx1 hn q3 hte q5
     show Fl c.A p w' (uni dep depv) (lkA own 0) (x1.ev c.v) (.row E) vs
     rw[ho];exact .inl ⟨E,te1,l',v,rfl,hte,hl',q4,hown⟩
    ·cases hu
   ·rename_i S;split at hu
    ·rename_i fs hfs;split at hu
     ·rename_i E hj;split at hu
      ·rename_i hE;have hte:=q7p hE;simp only[kR,Prod.mk.injEq] at hu;obtain⟨x1,hx1,rfl,rfl⟩:=hu;obtain⟨fs',ds,hf',hds,hfl⟩:=hc;obtain rfl:=gnI (hf'.symm.trans hfs);have:=h.flds hn hte hfl hj (by rw[uE];exact ho) (fun k hk=>hne k (by omega)) (x:=.fld x j) (by show(x.ev c.v).fld j=_;rw[hds];rfl) hx1;refine⟨_,_,hf',?_,this⟩
       show D.a ((x.ev c.v).fs.set j (x1.ev c.v))=_
       rw[hds];rfl
      ·cases hu
     ·cases hu
    ·cases hu
   ·cases hu
  ·cases hu
end
end
section
theorem qnt:∀{fs:List Ty}{j:Nat}{t:Ty},fs[j]? =some t→offs fs j+t.w≤widths fs
 |[],j,t,h=>by simp at h
 |u::ts,0,t,h=>by
  simp at h;subst h;rw[q1j,q1x];omega
 |u::ts,j+1,t,h=>by
  have:=qnt (fs:=ts) (j:=j) (t:=t) (by simpa using h);rw[q1g,q1x];omega
theorem qd5:∀(path:List Nat){x x':X}{t t':Ty}{own ov:List (Nat×Nat)}{q:Nat},jl x t own path=some (x',t',ov,q)→q+t'.w≤t.w
 |[],x,x',t,t',own,ov,q,h=>by
  simp only[jl,gnS] at h;obtain⟨rfl,rfl,rfl,rfl⟩:=h;omega
 | j :: path, x, x', t, t', own, ov, q, h => by
  unfold jl at h;split at h
  ·rename_i S;split at h
   ·rename_i fs hfs;split at h
    ·rename_i tj hj;split at h
     ·rename_i x1 t1 own1 o1 hr;simp only[gnS] at h;obtain⟨rfl,rfl,rfl,rfl⟩:=h;have h1:=qd5 path hr;have h2:=qnt hj;rw[(qc2 hfs).1];omega
     ·cases h
    ·cases h
   ·cases h
  ·cases h
section
variable{c:Cx}{p:qe}{w w0:World}{S0:Nat→Prop}{a:Act}{σ σ':St}{cs:List (X×Bool)}{o:Oper}{d:List Deferred}{z:Nat}
theorem qu8{pin g:Nat}{i:X}{path:List Nat}{te:Ty}{xv:X}{depv:List Nat}{c0 c1 c2 cl:List Value}{w':World}(h:ElSt c p w pin g i path te xv depv c0 c1 c2 cl w'){x:AV}{v:Value}(hx:x.pd c p w v):(qqo pin i te path xv depv x).pd c p w' v:=by
 have gen:∀y:AV,y.pd c p w v→(if okA (yu pin) no y then y else AV.any).pd c p w' v:=fun y hy=>by
  split
  ·rename_i hok;exact AV.kept h.stab y v (q34 hok).1 (q34 hok).2 hy
  ·trivial
 unfold qqo;split
 ·rename_i x t own dep;split
  ·rename_i x' dep' hu;obtain⟨vs,hp,hc⟩:=hx;exact⟨vs,hp,q9v h hu hc⟩
  ·trivial
 ·rename_i q x t own dep;split
  ·rename_i x' dep' hu;obtain⟨hs,vs,hp,hc⟩:=hx;exact⟨hs,vs,hp,q9v h hu hc⟩
  ·trivial
 ·exact gen _ hx
theorem quw{pin:Nat}{i:X}{te:Ty}{path:List Nat}{xv:X}{depv:List Nat}{l:List (Nat×Ent)}{k:Nat}{e:Ent}(h:lkA (ql7 pin i te path xv depv l) k=some e):
  ∃e0 x' dep',lkA l k=some e0∧qa3 pin i te path xv depv e0.x e0.t e0.own e0.dep=some (x',dep')∧e=⟨x',e0.t,e0.own,dep'⟩∧yu pin (k * 16)=false:=by
 induction l with
 |nil=>cases h
 | cons y l ih =>
  obtain⟨m,y⟩:=y;unfold ql7 at h;split at h
  ·rename_i x' dep' hu;split at h
   ·by_cases hm:m=k
    ·subst hm;rw[qh] at h;cases h
    ·rw[j5 hm] at h;rw[qb hm];exact ih h
   ·rename_i hpin;by_cases hm:m=k
    ·subst hm;rw[qa] at h;injection h with h;exact⟨y,x',dep',qa,hu,h.symm,by
      cases hq:yu pin (m * 16) with
      |false=>rfl
      |true=>exact absurd hq hpin⟩
    ·rw[qb hm] at h⊢;exact ih h
  ·by_cases hm:m=k
   ·subst hm;rw[qh] at h;cases h
   ·rw[j5 hm] at h;rw[qb hm];exact ih h
theorem El.sf{pin g:Nat}{i:X}{path:List Nat}{te:Ty}{xv:X}{depv:List Nat}{c0 c1 c2 cl:List Value}{w':World}(h:ElSt c p w pin g i path te xv depv c0 c1 c2 cl w')(hf:SF c σ p w a):SF c ⟨σ.t.map fun e=>(e.1,qqo pin i te path xv depv e.2),ql7 pin i te path xv depv σ.m⟩ p w' a:=by
 refine⟨fun t x hx=>?_,fun k e he=>?_⟩
 ·obtain⟨y,hy,rfl⟩:=q08 (f:=qqo pin i te path xv depv) hx;obtain⟨v,h1,h2⟩:=hf.t t y hy;exact⟨v,h1,qu8 h h2⟩
 ·obtain⟨e0,x',dep',h1,h2,rfl,h3⟩:=quw he;obtain⟨g',vs,T,hg',hh,hty,hc⟩:=hf.m k e0 h1;exact⟨g',vs,T,hg',(h.stab.con _ _ h3 hg').trans hh,hty,q9v h h2 hc⟩
theorem qlg(hb:Bs c.A c.F w0 S0 p w)(hf:SF c σ p w a)(hd:a.defers=d)(hz:a.tmps.size=z){T:TypeId}{t:Ty}(hT:qc T=some t){pin b ob q:Nat}{i x:X}{path:List Nat}{te:Ty}(hpin:p pin=some b)(hob:ob=(i.ev c.v).int.toNat * te.w+q)(hblk:∃cur E,w.heap[b]? =some (.cells cur E (0,0))∧qc E=some te)(hfl:c.F.mx te≤(i.ev c.v).int.toNat){F:Nat→Prop}{dx:D}{vo:List Value}
  (hr:w.rangeAt b ob vo)(hrd:Rd w F dx t vo){v:Value}{xv:X}{ownv:List (Nat×Nat)}{depv:List Nat}{vs:List Value}
  (hp:z4 t vs v)(hv:Con c.A p w (xv.ev c.v) t ownv depv vs)(h:q90 σ pin i path q te t xv ownv depv=some σ'):
  ∃w',(Instr.storeAt T (.pointer (some ⟨b,ob,none⟩)) v).run uA w=.ok () w'∧((∃c0 c1 c2,ElSt c p w pin b i path te xv depv c0 c1 c2 vs w')∧(path=[]→t=te))∧Bs c.A c.F w0 S0 p w'∧SF c σ' p w' a∧a.defers=d∧a.tmps.size=z:=by
 unfold q90 at h;split at h
 ·rename_i xo t' ov q' hat;split at h
  ·rename_i hok;simp only[gnB,uQ] at hok;obtain⟨h1,h2,h3,h4⟩:=hok;rw[Ty.beq_iff] at h1;have h2':=gnN h2;subst h1 h2';have hown:ownv=[]:=by simpa using h3
   subst hown;injection h with h;subst h;have hl0:=(Rd.len _ hrd).1;have hpos0:=q0c hT;obtain⟨cur,T',hcur⟩:=(hb.obj pin b hpin).cells (hr 0 _ (gnK (by omega)));have hlv:=hv.len.1;have hpos:=q0c hT;have hsz:ob+vo.length≤cur.size:=by
    have:=hr (vo.length - 1) vo[vo.length - 1] (gnK (by omega));rw[cell_of_row w b _ cur T' (0,0) hcur] at this;have:=(uY.1 this).1;omega
   have hspl:cur.toList=cur.toList.take ob++((cur.toList.drop ob).take vs.length++(cur.toList.drop ob).drop vs.length):=by
    rw[kX,kX]
   have hl1:(cur.toList.take ob).length=ob:=by simp;omega
   have hl2:((cur.toList.drop ob).take vs.length).length=vs.length:=by simp;omega
   have hrun:=q06 hT hcur hspl hl1 hl2 (hv.rd (dep':=depv) (fun x hx=>hx) (fun x hx=>by cases hx)) hp;have hfit:=qd5 path hat
   have hel:ElSt c p w pin b i path te xv depv (cur.toList.take ob) ((cur.toList.drop ob).take vs.length) ((cur.toList.drop ob).drop vs.length) vs (w.setRow b (cur.toList.take ob++(vs++(cur.toList.drop ob).drop vs.length)).toArray):=
    ⟨hpin,hb.inj,⟨cur,T',hcur,hspl⟩,hl2,rfl,⟨t',q',⟨xo,ov,hat⟩,by rw[hl1,hob],by rw[hlv];exact hfit,hv⟩,h4,hb.pa _ _ hpin⟩
   obtain⟨cur',E,hb1,hb2⟩:=hblk;rw[hcur] at hb1;injection hb1 with hb1;injection hb1 with hb3 hb4;subst hb3 hb4;refine⟨_,hrun,⟨⟨_,_,_,hel⟩,fun hpt=>by subst hpt;simp only[jl,gnS] at hat;exact hat.2.1.symm⟩,q0m hb hpin (FlW.above hb.flo hcur hb2 (ob:=ob) (by rw[hob];exact vC (uC _ hfl) (Nat.le_add_right _ _)) (by simp;omega) fun j hj=>?_),El.sf hel hf,hd,hz⟩;rw[uU,uI (by omega),uF hj,uN]
  ·cases h
 ·cases h
theorem q1r.put{A:Bk}{dep:List Nat}{own:List (Nat×Nat)}{x:D}:∀{l:List D}{n j:Nat}{fs:List Ty}{vs:List Value},q1r A p w dep own (n+j) n l fs vs→q1r A p w dep own (n+j) n (l.set j x) fs vs
 |[],n,j,fs,vs,h=>by simpa using h
 |d::l,n,0,fs,vs,⟨t,ts,c1,c2,e1,e2,hl,h1,h2⟩=>⟨t,ts,c1,c2,e1,e2,hl,fun h=>absurd rfl h,h2⟩
 | d :: l, n, j + 1, fs, vs, ⟨t, ts, c1, c2, e1, e2, hl, h1, h2⟩ => ⟨t, ts, c1, c2, e1, e2, hl, h1, by
   have:=q1r.put (x:=x) (n:=n+1) (j:=j) (by rw[show n+1+j=n+(j+1) by omega];exact h2);rw[show n+1+j=n+(j+1) by omega] at this;exact this⟩
theorem qjh:∀{own:List (Nat×Nat)}{e:Nat×Nat},jh own=true→e∈own→lkA own e.1=some e.2
 | f :: l, e, hn, h => by
  simp only[jh,gnB,vG] at hn;rcases jH.1 h with rfl|h
  ·exact qa
  ·have hne:f.1≠e.1:=fun h0=>q88 hn.1 e h h0.symm;have h2:=qjh hn.2 h;rw[show f=(f.1,f.2) from rfl,qb hne];exact h2
theorem qq0{own:List (Nat×Nat)}{pin j:Nat}(hn:jh own=true)(h:qmt own pin=some j):lkA own j=some pin∧∀i,i≠j→lkA own i≠some pin:=by
 unfold qmt at h;split at h
 ·rename_i j' pin' hf;injection h with h;subst h;exact filter_one hn hf
 ·cases h
theorem qyd{pin g:Nat}{i:X}{E':TypeId}{xv:X}{depv:List Nat}{c0 c1 c2:List Value}{v:Value}{w':World}(h:ElSt c p w pin g i [] (.row E') xv depv c0 c1 c2 [v] w')(hblk:∃cur E,w.heap[g]? =some (.cells cur E (0,0))∧qc E=some (.row E')){k j:Nat}{e:Ent}(he:ju c p w k e)(hk:qsl e j pin (.row E')=true)(hj:qmt e.own pin=some j)(hkp:uB (k * 16) pin=false):
  ql4 c p w' pin i v∧qfd c p w' pin i ⟨k,j,.set e.x j (.put (.fld e.x j) i xv),e.t,e.own.filter (fun y=>y.1 !=j),e.dep,xv⟩:=by
 unfold qsl at hk;split at hk
 ·rename_i S het;split at hk
  ·rename_i fs hfs;split at hk
   ·rename_i E hfj;simp only[gnB,uQ] at hk;obtain⟨hk1,hnd,hdp⟩:=hk;have hte:=q7p hk1;obtain⟨ho,hne⟩:=qq0 hnd hj;obtain⟨gk,csk,Tk,hgk,hhk,hTk,hcon⟩:=he;have hst:=h.stab;have hdep:=ji hdp;have hkz:yu pin (k * 16)=false:=by
     unfold yu;exact hkp
    rw[het] at hcon;have hcon0:=hcon;obtain⟨fs',ds,hf',hds,hfls⟩:=hcon;obtain rfl:=gnI (hf'.symm.trans hfs);have hat:jl e.x (.st S) e.own [j]=some (.fld e.x j,.row E,q7f (lkA e.own j),offs fs' j+0):=by
     simp only[jl,hfs,hfj]
    obtain⟨b0,b1,b2,q1,q2,q3⟩:=qda [j] hat hcon0;have q3':Fl c.A p w e.dep (lkA (q7f (lkA e.own j)) 0) ((X.fld e.x j).ev c.v) (.row E) b1:=q3;rw[ho] at q3';rcases (show Fl c.A p w e.dep (some pin) ((X.fld e.x j).ev c.v) (.row E) b1 from q3').symm with⟨K,V,kt,vt,lm,gm,es,clock,em,-⟩|⟨E1,te1,l,v1,r1,r2,r3,r4,r5⟩
    ·cases em
    injection r1 with r1;subst r1 r4;obtain rfl:=gnI (r2.symm.trans hte);have hu:qoh i (.row E') [] xv (.fld e.x j)=some (.put (.fld e.x j) i xv):=rfl;obtain⟨l',hl',hown⟩:=h.row hu hdp r3 hte r5;have hl2:l'=l.set (i.ev c.v).int.toNat (xv.ev c.v):=by
     have:(X.put (.fld e.x j) i xv).ev c.v=.r (l.set (i.ev c.v).int.toNat (xv.ev c.v)):=by show D.r _=_;rw[r3];rfl
     rw[hl'] at this;injection this
    subst hl2;obtain⟨cur,Tc,hcur,hcl⟩:=h.cur;obtain⟨t0,q0,-,hoff,hfit,-⟩:=h.off;have hfit':q0+1≤1:=hfit;have hq0:q0=0:=by omega
    subst hq0;have hoff':c0.length=(i.ev c.v).int.toNat:=by simpa[Ty.w] using hoff
    have hcell:((c0++([v]++c2)).toArray)[(i.ev c.v).int.toNat]? =some v:=by
     rw[uU,←hoff',uD (kK _),jK];rfl
    have hw':w'.heap[g]? =some (.cells (c0++([v]++c2)).toArray Tc (0,0)):=by rw[h.out];exact setRow_heap w g cur _ _ _ hcur
    have hTc:qc Tc=some (.row E'):=by
     obtain⟨cur',E'',hb1,hb2⟩:=hblk;rw[hcur] at hb1;injection hb1 with hb1;injection hb1 with hb3 hb4;subst hb4;exact hb2
    refine⟨⟨g,_,Tc,_,h.hp,hw',hTc,rfl,hcell⟩,gk,csk,Tk,S,fs',ds.set j (.r (l.set (i.ev c.v).int.toNat (xv.ev c.v))),E,.row E',l.set (i.ev c.v).int.toNat (xv.ev c.v),v1,hgk,(hst.con _ _ hkz hgk).trans hhk,hTk,het,hfs,?_,?_,hfj,hte,?_,?_,?_,?_,?_⟩
    ·show D.a ((e.x.ev c.v).fs.set j ((X.put (.fld e.x j) i xv).ev c.v))=_
     rw[hl',hds];rfl
    ·have hX:q1r c.A p w e.dep (e.own.filter (fun y=>y.1 !=j)) j 0 ds fs' csk.toList:=q1r.of0 (fun n hn=>qwr hn) hfls;have hX2:=hX.kept hst hdep fun y hy=>by
      obtain⟨f,hf1,rfl⟩:=kU.1 hy;obtain⟨hf2,hf3⟩:=kC.1 hf1;refine⟨?_,rfl⟩;cases hq:yu pin f.2 with
      |false=>rfl
      |true=>
       have hq':=gnN hq;exact absurd (by rw[←hq'];exact qjh hnd hf2) (hne f.1 (by simpa using hf3))
     have:=q1r.put (x:=D.r (l.set (i.ev c.v).int.toNat (xv.ev c.v))) (n:=0) (j:=j) (by rw[uE];exact hX2);rw[uE] at this;exact this
    ·refine List.getElem?_set_self ?_;have:j<ds.length:=by
      rcases Nat.lt_or_ge j ds.length with h|h
      ·exact h
      ·exfalso;have:(X.fld e.x j).ev c.v=.u:=by
        show(e.x.ev c.v).fld j=.u
        rw[hds]
        show(D.a ds).fs.getD j .u=.u
        simp[D.fs,h]
       rw[r3] at this;cases this
     exact this
    ·show csk.toList[offs fs' j]? =some v1
     rw[q1,←kM (offs fs' j),←q2,uD (kK _),jK];rfl
    ·rcases hown with⟨e1,e2⟩|⟨g2,cap2,cur2,e1,e2,e3,e4,e5,e6,e7,-⟩
     ·exact .inl ⟨e1,e2⟩
     ·exact .inr ⟨g2,cap2,cur2,e1,e2,e3,e4,e5,e6,e7⟩
    ·intro d hd;rw[List.getElem?_set] at hd;split at hd
     ·split at hd
      ·injection hd with hd;exact hd.symm
      ·cases hd
     ·rename_i hn;exact absurd rfl hn
    ·intro n hn hne2;rw[jA] at hn;rcases r5 with⟨-,e2⟩|⟨g2,cap2,cur2,e1,e2,e3,e4,e5,e6,e7,e8⟩
     ·subst e2;exact absurd hn (Nat.not_lt_zero _)
     ·obtain rfl:g=g2:=gnI (h.hp.symm.trans e2);obtain⟨vs,s1,s2⟩:=e8 n hn;have hvl:vs.length=1:=(Rd.len _ s2).1;refine⟨g,vs,h.hp,?_,?_⟩
      ·rw[h.out];refine qaq hcur hcl h.len s1 ?_
       show n * 1+vs.length≤_∨_+1≤n * 1
       omega
      ·rw[vQ (Ne.symm hne2)];exact Rd.keeps (hst.kp hdep) _ s2
   ·cases hk
  ·cases hk
 ·cases hk
theorem qut{pin g:Nat}{i:X}{path:List Nat}{te t:Ty}{xv:X}{depv:List Nat}{c0 c1 c2 vs:List Value}{w':World}{z:Operand}(h:ElSt c p w pin g i path te xv depv c0 c1 c2 vs w')(hblk:∃cur E,w.heap[g]? =some (.cells cur E (0,0))∧qc E=some te)(htt:path=[]→t=te)(hf:SF c σ p w a)(hf2:SF c σ' p w' a)(hp:z4 t vs (a.eval z)):SF c (qxr σ σ' pin i path te z xv) p w' a:=by
 unfold qxr;split
 ·rename_i E' tz;split
  ·split
   ·rename_i x' t' q dep' k j h1 h2;split
    ·rename_i e he;split
     ·rename_i hok;simp only[gnB,gnD,uQ] at hok;obtain⟨hc1,hc2,hc3⟩:=hok;obtain⟨v,hv1,hv2⟩:=hf2.t tz _ h1;have hev:a.eval (.tmp tz)=v:=by simp[Act.eval,hv1]
      rw[hev] at hp;have ht:=htt rfl;subst ht;have hvs:vs=[v]:=hp;subst hvs;obtain⟨g1,g2⟩:=qyd h hblk (hf.m k e he) hc1 hc2 hc3;refine⟨fun s y hs=>?_,hf2.m⟩;by_cases hst:tz=s
      ·subst hst;have hs':lkA (zr σ'.t tz _) tz=some y:=hs;rw[yd] at hs';injection hs' with hs';subst hs';exact⟨v,hv1,⟨g1,g2⟩,hv2⟩
      ·have hs':lkA (zr σ'.t tz _) s=some y:=hs;rw[jn hst] at hs';exact hf2.t s y hs'
     ·exact hf2
    ·exact hf2
   ·exact hf2
  ·exact hf2
 ·exact hf2
theorem qko(hb:Bs c.A c.F w0 S0 p w)(hf:SF c σ p w a)(hd:a.defers=d)(hz:a.tmps.size=z){k g:Nat}{T:TypeId}{x:AV}(hg:p (k * 16)=some g){u v:Value}(hh:w.heap[g]? =some (.cells #[u] T (0,0)))(hx:x.pd c p w v)
  (h:qan uA σ k T x=some σ'):(Instr.storeAt T (.pointer (some ⟨g,0,none⟩)) v).run uA w=.ok () (w.setRow g #[v])∧zl c w0 S0 d z σ' a (w.setRow g #[v]):=by
 unfold qan at h;split at h
 ·rename_i hok;simp only[gnB] at hok;obtain⟨h1,h2,h3⟩:=hok;split at h
  ·rename_i k' T' y hl;split at h
   ·rename_i hkk;simp only[gnB] at hkk;obtain⟨e1,e2⟩:=hkk;have e1:=gnN e1;have e2:=gnN e2;subst e1 e2;injection h with h;subst h;have hcells:=qdu h1 hx;have hone:=qsk h1 hx;refine⟨?_,p,q0m hb hg (FlW.one hb.flo hh _),?_,hd,hz⟩
    ·unfold qwl at h2;split at h2
     ·rename_i i hi;have hsz:=gnN h2;have hst:=run_storeCells_at uA g 0 T' [v] 0 #[u] w hh (by simp) (by simpa using hone);have e1:((#[u]:Array Value).toList.take (0+0)++[v]++(#[u]:Array Value).toList.drop (0+0+[v].length))=[v]:=by simp
      rw[e1] at hst;simp only[Instr.storeAt,Instr.sureAddr,uV,kA,uK,storeVar,sizeOf,typeInfo,run_program,hi,hcells];rw[if_neg (by simp[hsz])];exact hst
     ·cases h2
    ·have hst:=jz (A:=c.A) (w:=w) hb.inj (hb.pa _ _ hg) hg #[v];have hkeep:=hf.keep hst;obtain⟨q1,q2⟩:=q34 h3;obtain⟨v',hv',g',u',⟨hg',hat⟩,e,-,-⟩:=hf.t k' _ hl;obtain rfl:=gnI (hg.symm.trans hg');refine⟨fun t y hy=>?_,hkeep.m⟩;by_cases hkt:k'=t
     ·subst hkt;have hy':lkA (zr (q2h (yu (k' * 16)) no σ.t) k' (.bx k' T' (keyed k' x))) k'=some y:=hy;rw[yd] at hy';injection hy' with hy';subst hy';exact⟨v',hv',g,v,⟨hg,hat⟩,e,setRow_heap w g _ _ _ _ hh,AV.kept hst _ _ q1 q2 (qjg x hx)⟩
     ·have hy':lkA (zr (q2h (yu (k' * 16)) no σ.t) k' (.bx k' T' (keyed k' x))) t=some y:=hy;rw[jn hkt] at hy';exact hkeep.t t y hy'
   ·cases h
  ·cases h
 ·cases h
theorem qkq(hb:Bs c.A c.F w0 S0 p w)(hf:SF c σ p w a)(hd:a.defers=d)(hz:a.tmps.size=z){k g:Nat}{T K V:TypeId}{x:AV}(hT:qc T=some (.map K V))(hg:p (k * 16)=some g){u v:Value}(hh:w.heap[g]? =some (.cells #[u] T (0,0)))(hx:x.pd c p w v)
  (h:q94 σ k T (.map K V) x=some σ'):∃w',(Instr.storeAt T (.pointer (some ⟨g,0,none⟩)) v).run uA w=.ok () w'∧zl c w0 S0 d z σ' a w':=by
 unfold q94 at h;split at h
 ·rename_i k' T' y xv own dep hl hv;split at h
  ·rename_i hkk;simp only[gnB,uQ] at hkk;obtain⟨e1,e2,h3⟩:=hkk;have e1:=gnN e1;have e2:=gnN e2;subst e1 e2;injection h with h;subst h;obtain⟨vs,hp,hcon⟩:=yg hv hx;have hlen:vs.length=1:=hcon.len.1;have hrun:=q06 hT hh (c0:=[]) (c1:=[u]) (c2:=[]) (by simp) rfl (by simp[hlen]) (hcon.rd (dep':=dep++own.map (·.2)) (fun x hx=>uJ _ hx) (fun x hx=>uH _ hx)) hp;refine⟨_,hrun,p,q0m hb hg (FlW.one hb.flo hh _),?_,hd,hz⟩;have hst:Stab c.A (yu (k' * 16)) no p w p (w.setRow g ([]++(vs++[])).toArray):=jz hb.inj (hb.pa _ _ hg) hg _;have hno:=ji h3;have hk:=hf.keep hst;obtain⟨v',hv',g',u',⟨hg',hat⟩,e,-,-⟩:=hf.t k' _ hl;obtain rfl:=gnI (hg.symm.trans hg');have h2:=hk.var (k:=k') (e:=⟨xv,.map K V,own,dep⟩) ⟨g,([]++(vs++[])).toArray,T',hg,setRow_heap w g _ _ T' _ hh,hT,by
    simpa using hcon.kept hst (fun x hx=>hno x (uH _ hx)) (fun x hx=>hno x (uJ _ hx))⟩
   refine⟨fun t y hy=>?_,h2.m⟩;by_cases hkt:k'=t
   ·subst hkt;have hy':lkA (zr (q2h (yu (k' * 16)) no σ.t) k' (.ref k' [] 0 (.map K V))) k'=some y:=hy;rw[yd] at hy';injection hy' with hy';subst hy';exact⟨v',hv',g,hg,e,hat⟩
   ·have hy':lkA (zr (q2h (yu (k' * 16)) no σ.t) k' (.ref k' [] 0 (.map K V))) t=some y:=hy;rw[jn hkt] at hy';exact h2.t t y hy'
  ·cases h
 ·cases h
theorem qth{k:Nat}{t:Ty}:∀(x:AV){v:Value},x.pd c p w v→(unlv k t x).pd c p w v:=fun x v h=>by
 cases x with
 | lv k' t' =>
  show AV.pd c p w (if uB k' k then .ref k [] 0 t else .lv k' t') v
  split
  ·rename_i hk;have hk:=gnN hk;subst hk;obtain⟨g,cs,T,⟨hg,hat⟩,e,-⟩:=h;exact⟨g,hg,e,hat⟩
  ·exact h
 |_=>exact h
theorem qll(hb:Bs c.A c.F w0 S0 p w)(hf:SF c σ p w a)(hd:a.defers=d)(hz:a.tmps.size=z){T:TypeId}{t:Ty}(hT:qc T=some t){k g:Nat}(hg:p (k * 16)=some g)(hat:c.At k g){cur:Array Value}{T':TypeId}(hh:w.heap[g]? =some (.cells cur T' (0,0)))(hty:qc T'=some t)(hsz:cur.size=t.w){v:Value}{xv:X}{own:List (Nat×Nat)}{dep:List Nat}{vs:List Value}
  (hp:z4 t vs v)(hv:Con c.A p w (xv.ev c.v) t own dep vs)(h:q99 σ k t xv own dep=some σ'):∃w',(Instr.storeAt T (.pointer (some ⟨g,0,none⟩)) v).run uA w=.ok () w'∧zl c w0 S0 d z σ' a w':=by
 unfold q99 at h;split at h
 ·cases h
 rename_i hnv;split at h
 ·cases h
 ·rename_i h3;injection h with h;subst h;have hlen:=hv.len.1;have hrun:=q06 hT hh (c0:=[]) (c1:=cur.toList) (c2:=[]) (by simp) rfl (by simp[hlen,hsz]) (hv.rd (dep':=dep++own.map (·.2)) (fun x hx=>uJ _ hx) (fun x hx=>uH _ hx)) hp;refine⟨_,hrun,p,q0m hb hg (FlW.var hb.flo hh hty hsz (fun h=>absurd h (by simpa using hnv)) _),?_,hd,hz⟩;have hst:Stab c.A (yu (k * 16)) no p w p (w.setRow g ([]++(vs++[])).toArray):=jz hb.inj (hb.pa _ _ hg) hg _;have hno:=ji (by simpa using h3);have hf1:SF c ⟨σ.t.map fun e=>(e.1,unlv k t e.2),σ.m⟩ p w a:=by
   refine⟨fun t' x hx=>?_,hf.m⟩;obtain⟨y,hy,rfl⟩:=q08 (f:=unlv k t) hx;obtain⟨u,h1,h2⟩:=hf.t t' y hy;exact⟨u,h1,qth y h2⟩
  exact(hf1.keep hst).var (k:=k) (e:=⟨xv,t,own,dep⟩) ⟨g,([]++(vs++[])).toArray,T',hg,setRow_heap w g _ _ T' _ hh,hty,by
   simpa using hv.kept hst (fun x hx=>hno x (uH _ hx)) (fun x hx=>hno x (uJ _ hx))⟩
theorem qxv{E:TypeId}{te:Ty}(hte:qc E=some te){xs:List X}{dep:List Nat}{cs:Array Value}(h:qlc c p w E xs dep (.agg cs)):cs.size=xs.length * te.w∧One cs.toList:=by
 obtain⟨te',l,hte',e,hl,hr⟩:=h;obtain rfl:=gnI (hte'.symm.trans hte);injection e with e;subst e;have hw:=q0c hte;refine⟨by simpa using hl,fun v hv=>?_⟩;obtain⟨i,hi,rfl⟩:=vR (show v∈l from hv);have hl2:(X.evs c.v xs).length=xs.length:=q1e xs;have hq:i / te'.w<xs.length:=by
  rw[Nat.div_lt_iff_lt_mul hw];omega
 have h1:=(Rd.len _ (hr (i / te'.w) _ (gnK (by omega)))).2;refine h1 _ (List.mem_iff_getElem?.2 ⟨i % te'.w,?_⟩);rw[List.getElem?_take,if_pos (jO _ hw),kF,show i / te'.w * te'.w+i % te'.w=i from by rw[jL];exact Nat.div_add_mod i te'.w,gnK hi]
theorem ql2(hb:Bs c.A c.F w0 S0 p w)(hf:SF c σ p w a)(hd:a.defers=d)(hz:a.tmps.size=z){k g n:Nat}{T E:TypeId}{xs:List X}{dep:List Nat}(hg:p (k * 16)=some g){u:Array Value}{v:Value}(hh:w.heap[g]? =some (.cells u T (0,0)))(hun:u.size=n)(hx:(AV.ar E xs dep).pd c p w v)
  (h:qal uA σ k T n E xs dep=some σ'):∃w',(Instr.storeAt T (.pointer (some ⟨g,0,none⟩)) v).run uA w=.ok () w'∧zl c w0 S0 d z σ' a w':=by
 unfold qal at h;split at h
 ·rename_i i te k' T' n' y hi hte hl;split at h
  ·rename_i hok;simp only[gnB,uQ] at hok;obtain⟨h1,h2,e1,e2,e3,h3,hno0⟩:=hok;have h1:=gnN h1;have h2:=gnN h2;have e1:=gnN e1;have e2:=gnN e2;have e3:=gnN e3;subst e1 e2 e3;injection h with h;subst h;have hx0:qlc c p w E xs dep v:=hx;obtain⟨-,l,-,rfl,-⟩:=hx;obtain⟨hsz,hone⟩:=qxv hte hx0;have hsz:l.length=n':=by
    have:l.toArray.size=l.length:=by simp
    omega
   have hone:One l:=hone;have hst0:=run_storeCells_at uA g 0 T' l 0 u w hh (by omega) hone;have e1:(u.toList.take (0+0)++l++u.toList.drop (0+0+l.length))=l:=by
    have:u.toList.length≤l.length:=by simp;omega
    simp[kV this]
   rw[e1] at hst0;refine⟨w.setRow g l.toArray,?_,p,q0m hb hg (FlW.noTy hb.flo hh (by simpa using hno0) _),?_,hd,hz⟩
   ·have hcells:(Value.agg l.toArray).cells=l.toArray:=rfl;simp only[Instr.storeAt,Instr.sureAddr,uV,kA,uK,storeVar,sizeOf,typeInfo,run_program,hi,hcells];rw[if_neg (by simp only[uP];omega)];exact hst0
   ·have hst:=jz (A:=c.A) (w:=w) hb.inj (hb.pa _ _ hg) hg l.toArray;have hkeep:=hf.keep hst;have hno:=ji h3;obtain⟨v',hv',g',u',⟨hg',hat⟩,e,-,-⟩:=hf.t k' _ hl;obtain rfl:=gnI (hg.symm.trans hg');refine⟨fun t y hy=>?_,hkeep.m⟩;by_cases hkt:k'=t
    ·subst hkt;have hy':lkA (zr (q2h (yu (k' * 16)) no σ.t) k' (.ax k' T' n' (.ar E xs dep))) k'=some y:=hy;rw[yd] at hy';injection hy' with hy';subst hy';refine⟨v',hv',g,l.toArray,⟨hg,hat⟩,e,setRow_heap w g _ _ _ _ hh,by simpa using hsz,?_⟩;exact AV.kept hst (.ar E xs dep) _ (fun x hx=>hno x hx) (fun x hx=>by cases hx) hx0
    ·have hy':lkA (zr (q2h (yu (k' * 16)) no σ.t) k' (.ax k' T' n' (.ar E xs dep))) t=some y:=hy;rw[jn hkt] at hy';exact hkeep.t t y hy'
  ·cases h
 ·cases h
theorem qq7(hb:Bs c.A c.F w0 S0 p w)(hf:SF c σ p w a)(hc:hold c.v cs=true)(hd:a.defers=d)(hz:a.tmps.size=z)(hdst:o.dst=none){T:TypeId}{y x:Operand}(heq:o.op=.store T y x)(h:qid uA σ cs T y x=some σ')(hfl:∀xx t dep pin i path q te,opd σ cs y=some (.rd xx t dep (some (pin,i,path,q,te)))→c.F.mx te≤(i.ev c.v).int.toNat)(hnv:∀k path q t e,opd σ cs y=some (.ref k path q t)→lkA σ.m k=some e→nvB e.t=true→c.F.mx e.t=0){Q:Exit→Act→World→Prop}:
  o.wp uA a w (zl c w0 S0 d z σ') Q:=by
 have fin:∀{w':World},(Instr.storeAt T (a.eval y) (a.eval x)).run uA w=.ok () w'→zl c w0 S0 d z σ' a w'→o.wp uA a w (zl c w0 S0 d z σ') Q:=fun{w'}hr hp=>by
  have hrun:(execOp a.eval o).run uA w=.ok .skip w':=by
   generalize a.eval=r at *;simp[execOp,heq,hr]
  unfold Oper.wp;rw[hrun]
  show zl c w0 S0 d z σ' (a.put o.dst undef) w'
  rw[hdst];exact hp
 unfold qid at h;split at h
 ·rename_i k path oo t hy;obtain⟨g,hg,hev,-⟩:=qd hf hc hy;split at h
  ·rename_i hT;split at h
   ·rename_i xv ownv depv hx;obtain⟨y',hx1,hx2⟩:=uG.1 hx;obtain⟨vs,hp,hcon⟩:=qoa hx2 (qd hf hc hx1);obtain⟨w',h1,h2⟩:=qgt hb hf hd hz (j6 hT) hg (fun e he hv=>hnv _ _ _ _ _ hy he hv) hp hcon h;exact fin (by rw[hev];exact h1) h2
   ·cases h
  ·cases h
 ·rename_i xx t dep pin i path q te hy;obtain⟨b,o1,vo,hev,hFb,hr,h0,hrd,hw1,hw2,hw3⟩:=qd hf hc hy;split at h
  ·rename_i hT;split at h
   ·rename_i xv ownv depv hx;obtain⟨y',hx1,hx2⟩:=uG.1 hx;obtain⟨vs,hp,hcon⟩:=yg hx2 (qd hf hc hx1);have hcon2:Con c.A p w (xv.ev c.v) t [] (if ownv.isEmpty then depv else uni (ownv.map (·.2)) depv) vs:=by
     cases ownv with
     |nil=>exact hcon
     |cons e l=>exact Con.of_rd (hcon.rd (fun x hx=>jo hx) (fun x hx=>yh hx))
    obtain⟨σ1,h0',rfl⟩:=kR.1 h;obtain⟨w',h1,⟨⟨c0,c1,c2,hel⟩,htt⟩,hb2,hf2,hd2,hz2⟩:=qlg (x:=xx) hb hf hd hz (j6 hT) hw1 hw2 hw3 (hfl _ _ _ _ _ _ _ _ hy) hr hrd hp hcon2 h0';exact fin (by rw[hev];exact h1) ⟨p,hb2,qut hel hw3 htt hf hf2 hp,hd2,hz2⟩
   ·cases h
  ·cases h
 ·rename_i k t hy;obtain⟨g,cur,T',⟨hg,hat⟩,hev,hh,hty,hsz⟩:=qd hf hc hy;split at h
  ·rename_i hT;split at h
   ·rename_i xv own dep hx;obtain⟨y',hx1,hx2⟩:=uG.1 hx;obtain⟨vs,hp,hcon⟩:=yg hx2 (qd hf hc hx1);obtain⟨w',h1,h2⟩:=qll hb hf hd hz (j6 hT) hg hat hh hty hsz hp hcon h;exact fin (by rw[hev];exact h1) h2
   ·cases h
  ·cases h
 ·rename_i k T' y' hy;obtain⟨g,u,⟨hg,-⟩,hev,hh,-⟩:=qd hf hc hy;split at h
  ·rename_i hT;have hT:=gnN hT;subst hT;split at h
   ·rename_i x' hx;split at h
    ·rename_i K V hT;obtain⟨w',h1,h2⟩:=qkq hb hf hd hz hT hg hh (qd hf hc hx) h;exact fin (by rw[hev];exact h1) h2
    ·obtain⟨h1,h2⟩:=qko hb hf hd hz hg hh (qd hf hc hx) h;exact fin (by rw[hev];exact h1) h2
   ·cases h
  ·cases h
 ·rename_i k T' n y' hy;obtain⟨g,u,⟨hg,-⟩,hev,hh,hn,-⟩:=qd hf hc hy;split at h
  ·rename_i hT;have hT:=gnN hT;subst hT;split at h
   ·rename_i E xs dep hx;obtain⟨w',h1,h2⟩:=ql2 hb hf hd hz hg hh hn (qd hf hc hx) h;exact fin (by rw[hev];exact h1) h2
   ·cases h
  ·cases h
 ·cases h
end
end
section
theorem qey{w:World}{F:Nat→Prop}{te:Ty}{b o:Nat}:∀(l:List D)(i:Nat),RdE w F l te (some ⟨b,o,none⟩) i→∃news:List Value,news.length=l.length * te.w∧(∀j u,news[j]? =some u→w.cell? ⟨b,o+i * te.w+j,none⟩=some u)∧One news∧
  ∀j(h:j<l.length),Rd w F l[j] te ((news.drop (j * te.w)).take te.w)
 |[],i,_=>⟨[],by simp,fun j u h=>by simp at h,fun c hc=>(by cases hc),fun j h=>by simp at h⟩
 | d :: l, i, ⟨⟨b', o', vs, e, hF, hr, hd⟩, h2⟩ => by
  injection e with e;injection e with e1 e2;subst e1 e2;obtain⟨news,n1,n2,n3,n4⟩:=qey l (i+1) h2;obtain⟨hl,hone⟩:=Rd.len d hd;refine⟨vs++news,by simp[n1,hl,uO];omega,fun j u hj=>?_,fun c hc=>?_,fun j hj=>?_⟩
  ·by_cases hjl:j<vs.length
   ·rw[uI hjl] at hj;exact hr j u hj
   ·rw[uD (by omega)] at hj;have:=n2 _ u hj;rw[show o+i * te.w+j=o+(i+1) * te.w+(j - vs.length) by rw[uO];omega];exact this
  ·rcases vZ.1 hc with h|h
   ·exact hone c h
   ·exact n3 c h
  ·cases j with
   |zero=>
    simp only[vM,jD,List.getElem_cons_zero];rw[←hl,vI];exact hd
   |succ j=>
    have:=n4 j (by simpa using hj);rw[show(j+1) * te.w=vs.length+j * te.w by rw[uO];omega,vW,kV (by omega),kJ];simpa using this
section
variable{A:Bk}{F:Flr}{p:qe}{w w0:World}{S0:Nat→Prop}
theorem q6v{o:Obj}{k:Nat}(h:k<w.heap.size):(w.drew.alloc o).heap[k]? =w.heap[k]? :=by
 rw[hget,if_neg (by show ¬k=w.heap.size;omega)];rfl
theorem q77{o:Obj}:(w.drew.alloc o).heap[w.heap.size]? =some o:=by
 rw[hget,if_pos (by rfl)]
theorem q5q{o:Obj}:(w.drew.alloc o).heap.size=w.heap.size+1:=by
 rw[hsize];rfl
def qi3(p:qe)(pin:Option Nat)(P':Nat)(g:Option Nat):qe:=fun y=>if y=P' then g else if some y=pin then none else p y
theorem q65{pin:Option Nat}{P':Nat}{g:Option Nat}:qi3 p pin P' g P'=g:=if_pos rfl
theorem q7h{pin:Option Nat}{P':Nat}{g:Option Nat}{y:Nat}(h1:y≠P')(h2:some y≠pin):qi3 p pin P' g y=p y:=by unfold qi3;rw[if_neg h1,if_neg h2]
theorem zu{pin:Option Nat}{P':Nat}{g:Option Nat}{y b:Nat}(h:qi3 p pin P' g y=some b):(y=P'∧g=some b)∨(y≠P'∧some y≠pin∧p y=some b):=by
 unfold qi3 at h;split at h
 ·rename_i e;exact .inl ⟨e,h⟩
 ·rename_i e;split at h
  ·cases h
  ·rename_i e2;exact .inr ⟨e,e2,h⟩
def q8h(pin:Option Nat)(P':Nat):Nat→Bool:=fun y=>uB y P'||(match pin with|some x=>uB y x|none=>false)
theorem qc8{pin:Option Nat}{P' y:Nat}(h:q8h pin P' y=false):y≠P'∧some y≠pin:=by
 unfold q8h at h;simp only[uX] at h;refine⟨fun e=>by subst e;simp at h,fun e=>?_⟩;subst e;simp at h
structure AppOut(A:Bk)(F:Flr)(w0:World)(S0:Nat→Prop)(p:qe)(w:World)(pin:Option Nat)(P':Nat)(E:TypeId)(te:Ty)(n:Nat)(news:List Value)(m:Nat)(v':Value)(p':qe)(w':World):Prop where
 bs:Bs A F w0 S0 p' w'
 stab:Stab A (q8h pin P') (q8h pin P') p w p' w'
 res:(v'=.slice none 0 0∧n+m=0)∨∃g' cap' cur',v'=.slice (some ⟨g',0,none⟩) (n+m) cap'∧p' P'=some g'∧w'.heap[g']? =some (.cells cur' E (0,0))∧n+m≤cap'∧cap'≤maxLen∧cur'.size=cap' * te.w∧
  (∀j u,news[j]? =some u→cur'[n * te.w+j]? =some u)∧(0<n→∃x g cur,pin=some x∧p x=some g∧w.heap[g]? =some (.cells cur E (0,0))∧∀j,j<n * te.w→cur'[j]? =cur[j]?)
 old:∀x g,pin=some x→p x=some g→(A g∧q3n p' g∧w'.heap[g]? =w.heap[g]?)∨(p' P'=some g∧∀cur,w.heap[g]? =some (.cells cur E (0,0))→∃cur',w'.heap[g]? =some (.cells cur' E (0,0))∧∀j,j<n * te.w→cur'[j]? =cur[j]?)
theorem qnb{pin:Option Nat}{P':Nat}(hb:Bs A F w0 S0 p w)(hP:∀b,p P'=some b→pin=some P')(cs:Array Value)(E:TypeId):
  Bs A F w0 S0 (qi3 p pin P' (some w.heap.size)) (w.drew.alloc (.cells cs E))∧Stab A (q8h pin P') (q8h pin P') p w (qi3 p pin P' (some w.heap.size)) (w.drew.alloc (.cells cs E)):=by
 have hsz:w0.heap.size≤w.heap.size:=hb.but.size;have hheap:∀k,k<w.heap.size→(w.drew.alloc (.cells cs E)).heap[k]? =w.heap[k]? :=fun k hk=>q6v hk;constructor
 ·refine⟨fun y z b hy hz=>?_,fun y b hy=>?_,hb.but.drew.alloc _,fun y b hy=>?_,hb.new,fun y b hy=>?_,fun y b hy=>?_,hb.flo.same fun k hk _=>hheap k hk,hb.sp,qdg (w:=w.drew) hb.uf fun cs' T f e=>by cases e;rfl⟩
  ·rcases zu hy with⟨rfl,e1⟩|⟨h1,h2,h3⟩
   ·injection e1 with e1;subst e1;rcases zu hz with⟨rfl,e2⟩|⟨h4,h5,h6⟩
    ·rfl
    ·have:=hb.bd z _ h6;omega
   ·rcases zu hz with⟨rfl,e2⟩|⟨h4,h5,h6⟩
    ·injection e2 with e2;subst e2;have:=hb.bd y _ h3;omega
    ·exact hb.inj y z b h3 h6
  ·rcases zu hy with⟨rfl,e1⟩|⟨h1,h2,h3⟩
   ·injection e1 with e1;subst e1;rw[q5q];omega
   ·have:=hb.bd y b h3;rw[q5q];omega
  ·rcases zu hy with⟨rfl,e1⟩|⟨h1,h2,h3⟩
   ·injection e1 with e1;exact .inr (by omega)
   ·exact hb.pin y b h3
  ·rcases zu hy with⟨rfl,e1⟩|⟨h1,h2,h3⟩
   ·injection e1 with e1;exact(hb.new b (by omega)).1
   ·exact hb.pa y b h3
  ·rcases zu hy with⟨rfl,e1⟩|⟨h1,h2,h3⟩
   ·injection e1 with e1;subst e1;exact .inl ⟨cs,E,q77⟩
   ·exact(hb.obj y b h3).same (hheap b (hb.bd y b h3))
 ·refine⟨by rw[q5q];omega,fun b hlt ha hf=>⟨hheap b hlt,fun y hy=>?_⟩,fun y b hz hy=>?_,fun y b hz hy=>hheap b (hb.bd y b hy),fun b hlt _=>hheap b hlt⟩
  ·rcases zu hy with⟨rfl,e1⟩|⟨h1,h2,h3⟩
   ·injection e1 with e1;omega
   ·exact hf y h3
  ·obtain⟨h1,h2⟩:=qc8 hz;rw[q7h h1 h2];exact hy
theorem qk9{T E:TypeId}{te:Ty}(hT:qc T=some (.row E))(hte:qc E=some te){i:TypeInfo}(hi:uA.info? E=some i)(hsz:i.size=te.w){zv:Value}(hzl:zv.cells.size=te.w){pin:Option Nat}{P':Nat}(hb:Bs A F w0 S0 p w)(hP:∀b,p P'=some b→pin=some P'){n m:Nat}{va:Value}(hfl:∀x,pin=some x→F.mx te≤n)
    (hva:(va=.slice none 0 0∧n=0)∨∃x g cap cur,pin=some x∧va=.slice (some ⟨g,0,none⟩) n cap∧p x=some g∧w.heap[g]? =some (.cells cur E (0,0))∧n≤cap∧cap≤maxLen∧cur.size=cap * te.w)
    {news:List Value}(hl:news.length=m * te.w)(hmx:n+m≤maxLen){R:Value→World→Prop}
    (R0:va=.slice none 0 0→m=0→R (.slice none 0 0) w)
    (R1:va=.slice none 0 0→m≠0→R (.slice (some ⟨w.heap.size,0,none⟩) m (grownCap w m 0 E)) (w.drew.alloc (.cells (news.toArray++uL zv.cells (grownCap w m 0 E - m)) E)))
    (R2:∀x g cap cur,pin=some x→va=.slice (some ⟨g,0,none⟩) n cap→p x=some g→w.heap[g]? =some (.cells cur E (0,0))→n≤cap→cap≤maxLen→cur.size=cap * te.w→n+m≤cap→R (.slice (some ⟨g,0,none⟩) (n+m) cap) (w.setRow g (cur.toList.take (n * te.w)++news++cur.toList.drop (n * te.w+news.length)).toArray))
    (R3:∀x g cap cur,pin=some x→va=.slice (some ⟨g,0,none⟩) n cap→p x=some g→w.heap[g]? =some (.cells cur E (0,0))→n≤cap→cap≤maxLen→cur.size=cap * te.w→¬n+m≤cap→R (.slice (some ⟨w.heap.size,0,none⟩) (n+m) (grownCap w (n+m) cap E)) (w.drew.alloc (.cells ((cur.toList.take (n * te.w)).toArray++news.toArray++uL zv.cells (grownCap w (n+m) cap E - (n+m))) E))):
    ∃v' p' w',R v' w'∧AppOut A F w0 S0 p w pin P' E te n news m v' p' w':=by
  rcases hva with⟨rfl,rfl⟩|⟨x,g,cap,cur,rfl,rfl,hg,hh,q1,q2,q3⟩
  · by_cases hm:m=0
    · subst hm;have hn0:news=[]:=uR (by simpa using hl);subst hn0;refine⟨.slice none 0 0,qi3 p pin P' none,w,?_,?_⟩
      · exact R0 rfl rfl
      · refine⟨⟨fun y z b hy hz=>?_,fun y b hy=>?_,hb.but,fun y b hy=>?_,hb.new,fun y b hy=>?_,fun y b hy=>?_,hb.flo,hb.sp,hb.uf⟩,⟨kK _,fun b hlt ha hf=>⟨rfl,fun y hy=>?_⟩,fun y b hz hy=>?_,fun y b hz hy=>rfl,fun _ _ _=>rfl⟩,.inl ⟨rfl,rfl⟩,fun x g hx hg=>.inl ⟨hb.pa x g hg,fun y hy=>?_,rfl⟩⟩
        all_goals first
          | (rcases zu hy with ⟨-, e⟩ | ⟨a1, a2, a3⟩
             · cases e
             · first
               |exact hb.bd y b a3
               |exact hb.pin y b a3
               |exact hb.pa y b a3
               |exact hb.obj y b a3
               |exact hf y a3
               | (rcases zu hz with ⟨-, e⟩ | ⟨b1, b2, b3⟩
                  · cases e
                  · exact hb.inj y z b a3 b3)
               |(have:=hb.inj y x g a3 hg;subst this;exact a2 hx.symm))
          |(obtain⟨z1,z2⟩:=qc8 hz;rw[q7h z1 z2];exact hy)
    · have hr:=R1 rfl hm;have hge:=grownCap_ge w m 0 E;have hcm:=grownCap_le_maxLen w m 0 E (by omega);obtain⟨n1,n2⟩:=qnb hb hP (news.toArray++uL zv.cells (grownCap w m 0 E - m)) E;refine⟨_,_,_,hr,n1,n2,.inr ⟨w.heap.size,_,_,by rw[uE],q65,q77,by omega,hcm,?_,fun j u hj=>?_,fun h0=>absurd h0 (by omega)⟩,fun x g hx hg=>.inl ⟨hb.pa x g hg,fun y hy=>?_,q6v (hb.bd x g hg)⟩⟩
      · simp only[kP,uP,size_zeroCells,hzl,hl,←uO]
        congr 1
        omega
      · have hlt:=(gnH.1 hj).1;rw[vM,uE,kG (by simpa using hlt)];simpa using hj
      · rcases zu hy with⟨-,e⟩|⟨a1,a2,a3⟩
        · injection e with e;have:=hb.bd x g hg;omega
        · have:=hb.inj y x g a3 hg;subst this;exact a2 hx.symm
  · by_cases hroom:n+m≤cap
    · have hfit:n * i.size+news.length≤cur.size:=by rw[hsz,hl,q3,←uO];exact uC _ hroom
      have hr:=R2 x g cap cur rfl rfl hg hh q1 q2 q3 hroom;rw[hsz] at hfit;have hcl:(cur.toList.take (n * te.w)).length=n * te.w:=by rw[kE,uT];omega
      have hsize:(cur.toList.take (n * te.w)++news++cur.toList.drop (n * te.w+news.length)).toArray.size=cur.size:=by simp;omega
      have hold:∀j,j<n * te.w→(cur.toList.take (n * te.w)++news++cur.toList.drop (n * te.w+news.length)).toArray[j]? =cur[j]? :=fun j hj=>by
        rw[uU,kQ,uI (by omega),uF hj,uN]
      have hheap:=setRow_heap w g cur (cur.toList.take (n * te.w)++news++cur.toList.drop (n * te.w+news.length)).toArray E (0,0) hh;have hbs:=q0m hb hg (FlW.above hb.flo hh hte (uC _ (hfl _ rfl)) hsize hold)
      refine⟨_,qi3 p (some x) P' (some g),_,hr,⟨fun y z b hy hz=>?_,fun y b hy=>?_,hbs.but,fun y b hy=>?_,hb.new,fun y b hy=>?_,fun y b hy=>?_,hbs.flo,hb.sp,hbs.uf⟩,⟨by simp,fun b hlt ha hf=>⟨setRow_other w g b _ (fun e=>hf x (by rw[e];exact hg)),fun y hy=>?_⟩,fun y b hz hy=>?_,fun y b hz hy=>?_,fun b _ hob=>setRow_other w g b _ (fun e=>A.d b hob (by rw[e];exact hb.pa x g hg))⟩,
        .inr ⟨g,cap,_,rfl,q65,hheap,hroom,q2,by rw[hsize];exact q3,fun j u hj=>?_,fun _=>⟨x,g,cur,rfl,hg,hh,hold⟩⟩,fun x' g' hx hg'=>?_⟩
      · rcases zu hy with⟨rfl,e1⟩|⟨a1,a2,a3⟩
        · injection e1 with e1;subst e1;rcases zu hz with⟨rfl,e2⟩|⟨b1,b2,b3⟩
          · rfl
          · exact absurd (congrArg some (hb.inj z x _ b3 hg)) b2
        · rcases zu hz with⟨rfl,e2⟩|⟨b1,b2,b3⟩
          · injection e2 with e2;subst e2;exact absurd (congrArg some (hb.inj y x _ a3 hg)) a2
          · exact hb.inj y z b a3 b3
      · rcases zu hy with⟨rfl,e1⟩|⟨a1,a2,a3⟩
        · injection e1 with e1;subst e1;simpa using hb.bd x _ hg
        · simpa using hb.bd y b a3
      · rcases zu hy with⟨rfl,e1⟩|⟨a1,a2,a3⟩
        · injection e1 with e1;subst e1;exact hb.pin x _ hg
        · exact hb.pin y b a3
      · rcases zu hy with⟨rfl,e1⟩|⟨a1,a2,a3⟩
        · injection e1 with e1;subst e1;exact hb.pa x _ hg
        · exact hb.pa y b a3
      · rcases zu hy with⟨rfl,e1⟩|⟨a1,a2,a3⟩
        · injection e1 with e1;subst e1;exact hbs.obj x _ hg
        · exact hbs.obj y b a3
      · rcases zu hy with⟨rfl,e1⟩|⟨a1,a2,a3⟩
        · injection e1 with e1;subst e1;exact hf x hg
        · exact hf y a3
      · obtain⟨z1,z2⟩:=qc8 hz;rw[q7h z1 z2];exact hy
      · obtain⟨z1,z2⟩:=qc8 hz;refine setRow_other w g b _ fun e=>?_;subst e;exact z2 (congrArg some (hb.inj y x b hy hg))
      · have hlt:=(gnH.1 hj).1;rw[uU,kQ,uD (by omega),hcl,kJ,uI hlt];exact hj
      · injection hx with hx;subst hx;obtain rfl:=gnI (hg'.symm.trans hg);refine .inr ⟨q65,fun cur' hc=>?_⟩;rw[hh] at hc;injection hc with hc;injection hc with hc1 hc2;subst hc1;exact⟨_,hheap,hold⟩
    · have hnw:n * te.w≤cur.size:=by rw[q3];exact uC _ q1
      have holdl:(cur.toList.take (n * te.w)).length=n * i.size:=by rw[hsz,kE,uT];omega
      have holds:∀j u,(cur.toList.take (n * te.w))[j]? =some u→w.cell? ((⟨g,0,none⟩:Addr).add j)=some u:=fun j u hj=>by
        have hjl:=(gnH.1 hj).1;rw[Addr.mid_eq,uE,cell_of_row w g j cur E (0,0) hh,←uN];rw[uF (by simp at hjl;omega)] at hj;exact hj
      have hr:=R3 x g cap cur rfl rfl hg hh q1 q2 q3 hroom;have hge:=grownCap_ge w (n+m) cap E;have hcm:=grownCap_le_maxLen w (n+m) cap E hmx;obtain⟨n1,n2⟩:=qnb hb hP ((cur.toList.take (n * te.w)).toArray++news.toArray++uL zv.cells (grownCap w (n+m) cap E - (n+m))) E;refine⟨_,_,_,hr,n1,n2,.inr ⟨w.heap.size,_,_,rfl,q65,q77,hge,hcm,?_,fun j u hj=>?_,fun _=>⟨x,g,cur,rfl,hg,hh,fun j hj=>?_⟩⟩,fun x' g' hx hg'=>.inl ⟨hb.pa x' g' hg',fun y hy=>?_,q6v (hb.bd x' g' hg')⟩⟩
      · rw[hsz] at holdl;simp only[kP,uP,size_zeroCells,hzl,hl,holdl,←uO]
        congr 1
        omega
      · have hlt:=(gnH.1 hj).1;rw[hsz] at holdl;rw[kG (by rw[kP,uP,uP,holdl];omega),Array.getElem?_append_right (by rw[uP,holdl];omega)];simp only[uP,holdl,kJ];simpa using hj
      · rw[hsz] at holdl;rw[kG (by rw[kP,uP,uP,holdl];omega),kG (by rw[uP,holdl];omega),uU,uF hj,uN]
      · injection hx with hx;subst hx;rcases zu hy with⟨-,e⟩|⟨a1,a2,a3⟩
        · injection e with e;have:=hb.bd _ g' hg';omega
        · have:=hb.inj y _ g' a3 hg';subst this;exact a2 rfl
theorem qo4{T E:TypeId}{te:Ty}(hT:qc T=some (.row E))(hte:qc E=some te){pin:Option Nat}{P':Nat}(hb:Bs A F w0 S0 p w)(hP:∀b,p P'=some b→pin=some P'){n m cb:Nat}{va:Value}(hfl:∀x,pin=some x→F.mx te≤n)
  (hva:(va=.slice none 0 0∧n=0)∨∃x g cap cur,pin=some x∧va=.slice (some ⟨g,0,none⟩) n cap∧p x=some g∧w.heap[g]? =some (.cells cur E (0,0))∧n≤cap∧cap≤maxLen∧cur.size=cap * te.w)
  {Ab:Option Addr}{news:List Value}(hl:news.length=m * te.w)(hnews:∀ad,Ab=some ad→∀j u,news[j]? =some u→w.cell? (ad.add j)=some u)(hAb:Ab=none→m=0)(h1:One news)(hsm:n+m≤LM te)(ty:TypeId):
  ∃v' p' w',(uM #[T,T] ty #[va,.slice Ab m cb]).run uA w=.ok v' w'∧AppOut A F w0 S0 p w pin P' E te n news m v' p' w':=by
 obtain⟨i,hi,hsz,hpos,hby⟩:=q02 hte;obtain⟨hu,-,-⟩:=yi hT;obtain⟨zv,zvs,hzr,hzp,-,hzl0,hzc⟩:=q5z hte w (fun _=>True);have hz:i.zero=some zv:=by
  have:=hzr;simp only[zeroValue,typeInfo,uV,run_program,hi,uK,kA] at this;cases hzz:i.zero with
  |none=>rw[hzz] at this;simp[unsupported,kL] at this
  |some v=>rw[hzz] at this;simp at this;rw[this]
 have hzl:zv.cells.size=te.w:=by rw[hzc];simpa using hzl0
 have hbytes:(n+m) * i.bytes≤140737488355328:=by
  rw[qa6 hte hi];have h1:(n+m) * te.by≤LM te * te.by:=uC _ hsm;have h2:LM te * te.by≤LIM:=vS _ _;have h3:LIM≤140737488355328:=by decide
  omega
 have hsm':n+m≤LIM:=vC hsm (qo2 _);have hsm2:n+m≤140737488351232:=hsm';have hmx:n+m≤maxLen:=by unfold maxLen;omega
 have h63:((n+m:Nat):Int)≤9223372036854775807:=by omega
 refine qk9 hT hte hi hsz hzl hb hP hfl hva hl hmx (R:=fun v' w'=>(uM #[T,T] ty #[va,.slice Ab m cb]).run uA w=.ok v' w') (fun e hm=>?_) (fun e hm=>?_) (fun x g cap cur _ e hg hh q1 q2 q3 hroom=>?_) (fun x g cap cur _ e hg hh q1 q2 q3 hroom=>?_)
 ·subst e hm;cases Ab with
  |none=>simp[uM,run_underlying hu,sizeOf,typeInfo,hi,vH,kZ]
  |some ad=>simp[uM,run_underlying hu,sizeOf,typeInfo,hi,vH,kZ,loadCells,loadCellsFrom]
 ·subst e;cases Ab with
  |none=>exact absurd (hAb rfl) hm
  | some ad =>
   have hn0:n=0:=by
    rcases hva with⟨-,h⟩|⟨x,g,cap,cur,-,h,-⟩
    ·exact h
    ·cases h
   subst hn0;exact run_append_nil (P:=uA) w T ty E i zv hu hi hz ad m cb news (by rw[hl,hsz]) (hnews ad rfl) (by omega) (by omega) (by have hb:=hbytes;simp only[uE] at hb;omega)
 ·subst e;cases Ab with
  | none =>
   have hm:=hAb rfl;subst hm;have hn0:news=[]:=uR (by simpa using hl);subst hn0;have:(cur.toList.take (n * te.w)++[]++cur.toList.drop (n * te.w+([]:List Value).length)).toArray=cur:=by
    apply kT;simp
   rw[this,setRow_self w g cur E (0,0) hh];simp[uM,run_underlying hu,sizeOf,typeInfo,hi,vH,kZ,q1,storeCells]
  |some ad=>
   have hfit:n * i.size+news.length≤cur.size:=by rw[hsz,hl,q3,←uO];exact uC _ hroom
   have hr:=run_append_room (P:=uA) w T ty E i hu hi g n cap cur hh ad m cb news (by rw[hl,hsz]) (hnews ad rfl) h1 hroom hfit;rw[hsz] at hr;exact hr
 ·subst e;cases Ab with
  |none=>have:=hAb rfl;omega
  | some ad =>
   have holdl:(cur.toList.take (n * te.w)).length=n * i.size:=by
    have:n * te.w≤cur.size:=by rw[q3];exact uC _ q1
    rw[hsz,kE,uT];omega
   have holds:∀j u,(cur.toList.take (n * te.w))[j]? =some u→w.cell? ((⟨g,0,none⟩:Addr).add j)=some u:=fun j u hj=>by
    have hjl:=(gnH.1 hj).1;rw[Addr.mid_eq,uE,cell_of_row w g j cur E (0,0) hh,←uN];rw[uF (by simp at hjl;omega)] at hj;exact hj
   exact run_append_grow (P:=uA) w T ty E i zv hu hi hz ⟨g,0,none⟩ n cap (cur.toList.take (n * te.w)) holdl holds ad m cb news (by rw[hl,hsz]) (hnews ad rfl) (by omega) h63 (growslice_fits (by omega) hbytes)
theorem qtc{T E TI:TypeId}{te:Ty}(hT:qc T=some (.row E))(hte:qc E=some te)(hTI:qc TI=some (.int .i64)){pin:Option Nat}{P':Nat}(hb:Bs A F w0 S0 p w)(hP:∀b,p P'=some b→pin=some P'){n m:Nat}{va:Value}(hfl:∀x,pin=some x→F.mx te≤n)
  (hva:(va=.slice none 0 0∧n=0)∨∃x g cap cur,pin=some x∧va=.slice (some ⟨g,0,none⟩) n cap∧p x=some g∧w.heap[g]? =some (.cells cur E (0,0))∧n≤cap∧cap≤maxLen∧cur.size=cap * te.w)
  {zv:Value}(hzv:(zeroValue E).run uA w=.ok zv w)(hzl:zv.cells.size=te.w)(hone:One zv.cells.toList)(hsm:n+m≤LM te)(hm16:m≤16777216)(ty:TypeId):
  ∃v' p' w',(uM #[T,TI] ty #[va,.int .i64 m]).run uA w=.ok v' w'∧AppOut A F w0 S0 p w pin P' E te n (uL zv.cells m).toList m v' p' w':=by
 obtain⟨i,hi,hsz,hpos,hby⟩:=q02 hte;obtain⟨hu,-,-⟩:=yi hT;obtain⟨huI,-⟩:=q07 hTI;have hz:i.zero=some zv:=by
  have:=hzv;simp only[zeroValue,typeInfo,uV,run_program,hi,uK,kA] at this;cases hzz:i.zero with
  |none=>rw[hzz] at this;simp[unsupported,kL] at this
  |some v=>rw[hzz] at this;simp at this;rw[this]
 have hbytes:(n+m) * i.bytes≤140737488355328:=by
  rw[qa6 hte hi];have h1:(n+m) * te.by≤LM te * te.by:=uC _ hsm;have h2:LM te * te.by≤LIM:=vS _ _;have h3:LIM≤140737488355328:=by decide
  omega
 have hsm':n+m≤LIM:=vC hsm (qo2 _);have hsm2:n+m≤140737488351232:=hsm';have hmb:m * i.bytes≤140737488355328:=vC (uC _ (Nat.le_add_left m n)) hbytes;have hmx:n+m≤maxLen:=by unfold maxLen;omega
 have h63:¬(9223372036854775807<((n:Int)+(m:Int))):=by omega
 have hl:(uL zv.cells m).toList.length=m * te.w:=by rw[uT,size_zeroCells,hzl]
 have hwrap:IntKind.i64.wrap (m:Int)=(m:Int):=q67 (by unfold yy;rw[gnB];exact⟨decide_eq_true (by omega),decide_eq_true (by omega)⟩);have hneg:¬((m:Int)<0):=by omega
 have hbig:¬(281474976710656<(m:Int) * (i.bytes:Int)):=by
  have h1:((m * i.bytes:Nat):Int)≤((140737488355328:Nat):Int):=Int.ofNat_le.2 hmb;rw[Int.natCast_mul] at h1;omega
 have hposi:¬(m * i.size=0)∨m=0:=by
  rcases vT m with h|h
  ·exact .inr h
  ·exact .inl (Nat.ne_of_gt (jN h (by omega)))
 refine qk9 hT hte hi hsz hzl hb hP hfl hva hl hmx (R:=fun v' w'=>(uM #[T,TI] ty #[va,.int .i64 m]).run uA w=.ok v' w') (fun e hm=>?_) (fun e hm=>?_) (fun x g cap cur _ e hg hh q1 q2 q3 hroom=>?_) (fun x g cap cur _ e hg hh q1 q2 q3 hroom=>?_)
 ·subst e hm;have hw0:IntKind.i64.wrap 0=0:=rfl;simp[uM,run_underlying hu,run_underlying huI,sizeOf,typeInfo,hi,asInt,asIntOf,hw0]
 ·subst e;have hn0:n=0:=by
   rcases hva with⟨-,h⟩|⟨x,g,cap,cur,-,h,-⟩
   ·exact h
   ·cases h
  subst hn0;have h48:¬(281474976710656<vJ m 0 * i.bytes):=by rw[nextslicecap_zero (by omega)];omega
  have h63':¬(9223372036854775807<(m:Int)):=by omega
  have hposi:=hposi.resolve_right hm;simp[uM,run_underlying hu,run_underlying huI,sizeOf,typeInfo,zeroValue,hi,hz,asInt,asIntOf,hwrap,hneg,hbig,hm,hposi,h63',h48,Question.forced,run_firstCells_none,newRow,grownCap]
 ·subst e;have hfit:n * te.w+m * te.w≤cur.size:=by rw[q3,←uO];exact uC _ hroom
  have hst:=run_storeCells_at uA g (n * te.w) E (uL zv.cells m).toList 0 cur w hh (by rw[hl];omega) (fun v hv=>by
   simp only[uL,Array.toList_map,kU,Array.toList_range,jC] at hv;obtain⟨j,hj,rfl⟩:=hv;have hmod:j % zv.cells.size<zv.cells.size:=jO _ (by
    rcases vT zv.cells.size with h|h
    ·rw[h] at hj;simp at hj
    ·exact h)
   rw[getElem!_pos zv.cells _ hmod];exact hone _ (by simp))
  simp only[kM] at hst;by_cases hm:m=0
  ·subst hm;have e0:uL zv.cells 0= #[]:=by simp[uL]
   rw[e0] at hst⊢;have:(cur.toList.take (n * te.w)++(#[]:Array Value).toList++cur.toList.drop (n * te.w+(#[]:Array Value).toList.length)).toArray=cur:=by
    apply kT;simp
   rw[this,setRow_self w g cur E (0,0) hh];have hw0:IntKind.i64.wrap 0=0:=rfl;simp[uM,run_underlying hu,run_underlying huI,sizeOf,typeInfo,hi,asInt,asIntOf,hw0,q1,storeCells]
  ·have hposi:=hposi.resolve_right hm;have hadd:(⟨g,0,none⟩:Addr).add (n * i.size)=⟨g,n * te.w,none⟩:=by rw[Addr.mid_eq,hsz,uE]
   simp[uM,run_underlying hu,run_underlying huI,sizeOf,typeInfo,zeroValue,hi,hz,asInt,asIntOf,hwrap,hneg,hbig,hm,hposi,hroom,hadd,hst]
 ·subst e;have hm:m≠0:=by omega
  have hposi:=hposi.resolve_right hm;have holdl:(cur.toList.take (n * te.w)).length=n * i.size:=by
   have:n * te.w≤cur.size:=by rw[q3];exact uC _ q1
   rw[hsz,kE,uT];omega
  have holds:∀j u,(cur.toList.take (n * te.w))[j]? =some u→w.cell? ((⟨g,0,none⟩:Addr).add j)=some u:=fun j u hj=>by
   have hjl:=(gnH.1 hj).1;rw[Addr.mid_eq,uE,cell_of_row w g j cur E (0,0) hh,←uN];rw[uF (by simp at hjl;omega)] at hj;exact hj
  have hfo:=run_firstCells_some (P:=uA) w.drew i.size n ⟨g,0,none⟩ n cap (cur.toList.take (n * te.w)) holdl (by simpa using holds);have h48:¬(281474976710656<vJ (n+m) cap * i.bytes):=by
   have:=growslice_fits (need:=n+m) (old:=cap) (bytes:=i.bytes) (by omega) hbytes;omega
  simp[uM,run_underlying hu,run_underlying huI,sizeOf,typeInfo,zeroValue,hi,hz,asInt,asIntOf,hwrap,hneg,hbig,hm,hposi,hroom,h63,h48,Question.forced,hfo,newRow,grownCap]
end
end
section
def qui:X→X→X
 |.row l,.row m=>.row (l++m)
 |.lit (.r []),.row m=>.row m
 |x,y=>.app x y
def qon(pin P':Nat)(xa x:X)(t:Ty)(own:List (Nat×Nat))(dep:List Nat):Option (List (Nat×Nat)×List Nat):=
  if qr dep pin||(qr dep P'|| !jh own) then none else match own.filter fun e=>uB e.2 pin with
    |[]=>if qr (own.map (·.2)) P' then none else some (own,dep)
    | [(j, _)] => if qr ((own.filter fun e => e.1 != j).map (·.2)) P' then none else match t with
      |.row _=>if uB j 0&&X.beq x xa then some (own.filter fun e=>e.1 !=j,P'::dep) else none
      | .st S => match flds S with
        | some fs => match fs[j]? with
          |some (.row _)=>if X.beq (.fld x j) xa then some (own.filter fun e=>e.1 !=j,P'::dep) else none
          |_=>none
        |none=>none
      |_=>none
    |_=>none
def je(pin P':Nat):Nat→Bool:=fun y=>uB y P'||uB y pin
def qry(pin P':Nat)(xa:X):AV→AV
 |.v x t own dep=>match qon pin P' xa x t own dep with
  |some (own',dep')=>.v x t own' dep'
  |none=>.any
 |.wf k j x t own dep _=>if okA (je pin P') (je pin P') (.wf k j x t own dep .any) then .wf k j x t own dep .any else .any
 |.el o r i (.v x t own dep)=>match qon pin P' xa x t own dep with
  |some (own',dep')=>if okA (je pin P') (je pin P') (.el o r i .any) then .el o r i (.v x t own' dep') else .any
  |none=>.any
 |a=>if okA (je pin P') (je pin P') a then a else .any
def qjj(pin P':Nat)(xa:X):List (Nat×Ent)→List (Nat×Ent)
  |[]=>[]
  | (k, e) :: l => match qon pin P' xa e.x e.t e.own e.dep with
    |some (own',dep')=>if je pin P' (k * 16) then(qjj pin P' xa l).filter (fun y=>y.1 !=k) else(k,⟨e.x,e.t,own',dep'⟩)::qjj pin P' xa l
    |none=>(qjj pin P' xa l).filter fun y=>y.1 !=k
def qpb(te:Ty):X:=.lit (.i (LM te:Nat))
def qn5:AV→Option (Option Nat)
 |.nilS=>some none
 |.v _ (.row _) [(0,pin)] _=>some (some pin)
 |_=>none
def q3q(te:Ty)(l:List Nat):List Nat:=if qm 8 te then[] else l
def flN(fb:Ty→Option X)(te:Ty)(x:X):List X:=match fb te with
 |some b=>[leX b (q2l x)]
 |none=>[]
def qpd(c:Cx)(fb:Ty→Option X):Prop:=∀te,match fb te with
 |some b=>c.F.mx te≤(b.ev c.v).int.toNat
 |none=>c.F.mx te=0
theorem qql{c:Cx}{fb:Ty→Option X}(hF:qpd c fb){te:Ty}{x:X}(hn:∀n∈flN fb te x,n.says c.v):c.F.mx te≤(x.ev c.v).rs.length:=by
 have h:=hF te;unfold flN at hn;split at hn
 ·rename_i b hb;rw[hb] at h;have h2:=zq (hn _ kI);rw[q05] at h2;have h1:c.F.mx te≤(b.ev c.v).int.toNat:=h;have h3:(b.ev c.v).int≤((x.ev c.v).rs.length:Int):=h2;omega
 ·rename_i hb;rw[hb] at h;have h1:c.F.mx te=0:=h;omega
def qg8(fb:Ty→Option X)(σ:St)(cs:List (X×Bool))(k:Nat)(T:TypeId)(x y:Operand):Option (List X×St):=match qc T with
 | some (.row E) => match qc E with
  | some te => match (opd σ cs x).bind qn5 with
   | some none =>
    let σ1:=σ.un (qg k)
    match(opd σ1 cs y).bind (q6i E) with
    |some (xb,ownb,depb)=>
     let dep:=q3q te (depb)
     if qr dep (k * 16+1) then none else some ([leX (q2l xb) (qpb te)],⟨zr (q2h (q8h none (k * 16+1)) (q8h none (k * 16+1)) σ1.t) k (.v (qui (.lit (.r [])) xb) (.row E) [(0,k * 16+1)] dep),q3i (q8h none (k * 16+1)) (q8h none (k * 16+1)) σ1.m⟩)
    |none=>none
   | some (some pin) =>
    let σ1:=σ.un fun z=>qg k z&& !Nat.beq z pin
    match(opd σ1 cs x).bind (q6i E),(opd σ1 cs y).bind (q6i E) with
    | some (xa, [(0, pin')], depa), some (xb, ownb, depb) =>
     let dep:=q3q te (uni depa depb)
     if uB pin' pin&& !(qr dep pin||qr dep (k * 16+1)) then
      some (leX (qix (q2l xa) (q2l xb)) (qpb te)::flN fb te xa,⟨zr (σ1.t.map fun e=>(e.1,qry pin (k * 16+1) xa e.2)) k (.v (qui xa xb) (.row E) [(0,k * 16+1)] dep),qjj pin (k * 16+1) xa σ1.m⟩)
     else none
    |_,_=>none
   |none=>none
  |none=>none
 |_=>none
def qvw(σ:St)(cs:List (X×Bool))(E:TypeId)(k:Nat)(x:Operand):Option AV:=match opd σ cs x with
 |some .nilS=>some (.v (.lit (.r [])) (.row E) [(0,k * 16+1)] [])
 |r=>r
def qle(fb:Ty→Option X)(σ:St)(cs:List (X×Bool))(k:Nat)(T T2:TypeId)(x y:Operand):Option (List X×St):=match qc T with
 | some (.row E) => match qc E with
  | some te => match (qvw σ cs E k x).bind qn5 with
   | some (some pin) =>
    let σ1:=σ.un fun z=>qg k z&& !Nat.beq z pin
    match(qvw σ1 cs E k x).bind (q6i E),opd σ1 cs y with
    | some (xa, [(0, pin')], depa), some (.v xn (.int .i64) _ _) =>
     let dep:=q3q te depa
     if uB pin' pin&&(!(qr dep pin||qr dep (k * 16+1))&&(q5b T2 (.int .i64)&& !q36 te)) then
      some ([leX (.lit (.i 0)) xn,leX xn (.lit (.i 16777216)),leX (qix (q2l xa) xn) (qpb te)]++flN fb te xa,⟨zr (σ1.t.map fun e=>(e.1,qry pin (k * 16+1) xa e.2)) k (.v (.app xa (.rep xn (q5c te))) (.row E) [(0,k * 16+1)] dep),qjj pin (k * 16+1) xa σ1.m⟩)
     else none
    |_,_=>none
   |_=>none
  |none=>none
 |_=>none
theorem qn9{e:Ev}(x y:X):(qui x y).ev e=.r ((x.ev e).rs++(y.ev e).rs):=by
 unfold qui;split
 ·rename_i l m;have:∀l m:List X,X.evs e (l++m)=X.evs e l++X.evs e m:=by
   intro l m
   induction l with
   |nil=>rfl
   |cons x l ih=>simp[X.evs,ih]
  show D.r (X.evs e (l++m))=_
  rw[this];rfl
 ·rfl
 ·rfl
section
variable{c:Cx}{p p':qe}{w w' w0:World}{S0:Nat→Prop}{a:Act}{σ σ':St}{cs:List (X×Bool)}{o:Oper}{d:List Deferred}{z:Nat}
theorem AppOut.claim{pin P':Nat}{E:TypeId}{te:Ty}(hte:qc E=some te){n m:Nat}{news:List Value}{v':Value}(h:AppOut c.A c.F w0 S0 p w (some pin) P' E te n news m v' p' w')
  (hblk:0<n→∃g cur,p pin=some g∧w.heap[g]? =some (.cells cur E (0,0)))
  {dep:List Nat}(hdep:∀x∈dep,je pin P' x=false∧je pin P' x=false){E1:TypeId}{te1:Ty}{l:List D}{v:Value}(hte1:qc E1=some te1)(hn:l.length=n)(hv:qbj c.A p w dep pin E1 te1 l v):Rd w' (FFD c.A p' (P'::dep)) (.r l) (.row E1) [v]:=by
 rcases hv with⟨rfl,rfl⟩|⟨g,cap,cur,rfl,hg,hh,h1,h2,h3,h4,h5⟩
 ·exact⟨E1,te1,none,0,rfl,hte1,rfl,by simp,by simp,by simp[maxLen],by simp[RdE]⟩
 ·refine⟨E1,te1,some ⟨g,0,none⟩,cap,rfl,hte1,rfl,h1,h4,h2,jg.2 fun j hj=>?_⟩;obtain⟨g',cur',hg',hh'⟩:=hblk (by omega);obtain rfl:=gnI (hg'.symm.trans hg);rw[hh] at hh';injection hh' with hh';injection hh' with e1 e2;subst e1 e2;obtain rfl:=gnI (hte1.symm.trans hte);obtain⟨vs,hr,hd⟩:=h5 j hj;have hst:Stab c.A (je pin P') (je pin P') p w p' w':=h.stab;have hd':Rd w' (FFD c.A p' (P'::dep)) l[j] te1 vs:=(Rd.keeps (hst.kp hdep) _ hd).mono fun b _ hb=>hb.mono fun y hy=>kH _ hy;rcases h.old pin g' rfl hg with⟨ha,hf,he⟩|⟨hP,hc⟩
  ·exact⟨g',0,vs,rfl,.inl ⟨ha,hf⟩,by simpa using q3e hr he,hd'⟩
  ·obtain⟨cur2,hc1,hc2⟩:=hc cur hh;refine⟨g',0,vs,rfl,.inr (.inl ⟨P',kI,hP⟩),?_,hd'⟩;intro i u hi;have:=hr i u hi;rw[cell_of_row w g' _ cur E1 (0,0) hh] at this;rw[show 0+(0+j) * te1.w+i=j * te1.w+i by rw[uE,uE],cell_of_row w' g' _ cur2 E1 (0,0) hc1,hc2 _ ?_]
   ·exact this
   ·have hi':=(gnH.1 hi).1;rw[(Rd.len _ hd).1] at hi';have:=uC te1.w (show j+1≤n by omega);rw[uO] at this;omega
theorem q80{own:List (Nat×Nat)}{j i:Nat}:lkA (own.filter fun e=>e.1 !=j) i=if i=j then none else lkA own i:=by
 by_cases h:i=j
 ·subst h;rw[if_pos rfl,qh]
 ·rw[if_neg h,j5 (Ne.symm h)]
theorem qie{pin P':Nat}{E:TypeId}{te:Ty}(hte:qc E=some te){n m:Nat}{news:List Value}{v':Value}(h:AppOut c.A c.F w0 S0 p w (some pin) P' E te n news m v' p' w')
  (hblk:0<n→∃g cur,p pin=some g∧w.heap[g]? =some (.cells cur E (0,0))){xa:X}(hn:(xa.ev c.v).rs.length=n)
  {x:X}{t:Ty}{own own':List (Nat×Nat)}{dep dep':List Nat}{vs:List Value}(hu:qon pin P' xa x t own dep=some (own',dep'))(hc:Con c.A p w (x.ev c.v) t own dep vs):Con c.A p' w' (x.ev c.v) t own' dep' vs:=by
 have two:∀{l:List Nat},qr l pin=false→qr l P'=false→∀y∈l,je pin P' y=false∧je pin P' y=false:=fun{l}h1 h2 y hy=>by
  have:je pin P' y=false:=by
   unfold je;rw[uX];exact⟨(ji h2 y hy).1,(ji h1 y hy).1⟩
  exact⟨this,this⟩
 have hst:Stab c.A (je pin P') (je pin P') p w p' w':=h.stab;unfold qon at hu;split at hu
 ·cases hu
 ·rename_i hok;simp only[kW,uQ,not_or,vX,vV] at hok;obtain⟨hd1,hd2,hnd⟩:=hok;have hdep:=two hd1 hd2;split at hu
  ·rename_i hfil;split at hu
   ·cases hu
   ·rename_i hP;simp only[gnS] at hu;obtain⟨rfl,rfl⟩:=hu;refine hc.kept hst hdep (two ?_ (by simpa using hP));cases hq:qr (own.map (·.2)) pin with
    |false=>rfl
    |true=>
     obtain⟨e,he,e1⟩:=kU.1 (qz.1 hq);have:e∈own.filter (fun e=>uB e.2 pin):=kC.2 ⟨he,by rw[e1];simp⟩;rw[hfil] at this;cases this
  ·rename_i j pin' hfil;obtain⟨ho,hne⟩:=filter_one hnd hfil;split at hu
   ·cases hu
   ·rename_i hP;have hP':qr ((own.filter fun e=>e.1 !=j).map (·.2)) P'=false:=by simpa using hP
    have hoth:∀i y,i≠j→lkA own i=some y→je pin P' y=false∧je pin P' y=false:=fun i y hi hy=>by
     have hm:y∈(own.filter fun e=>e.1 !=j).map (·.2):=kU.2 ⟨(i,y),kC.2 ⟨y3 hy,by simpa using hi⟩,rfl⟩;have h2:=(ji hP' y hm).1;have h1:uB y pin=false:=by
      cases hq:uB y pin with
      |false=>rfl
      |true=>rw[gnN hq] at hy;exact absurd hy (hne i hi)
     have:je pin P' y=false:=by
      unfold je;rw[uX];exact⟨h2,h1⟩
     exact⟨this,this⟩
    split at hu
    ·rename_i E0;split at hu
     ·rename_i hok2;simp only[gnB] at hok2;have hj:=gnN hok2.1;subst hj;have hxx:=X.beq_ok _ _ hok2.2;subst hxx;simp only[gnS] at hu;obtain⟨rfl,rfl⟩:=hu;have hc':Fl c.A p w dep (lkA own 0) (x.ev c.v) (.row E0) vs:=hc;rw[ho] at hc';rcases hc'.symm with⟨K,V,kt,vt,lm,gm,es,clock,em,-⟩|⟨E1,te1,l,v,q1,q2,q3,q4,q5⟩
      ·cases em
      injection q1 with q1;subst q1 q4
      show Fl c.A p' w' (P'::dep) (lkA (own.filter fun e=>e.1 !=0) 0) (x.ev c.v) (.row E0) [v]
      rw[q80,if_pos rfl,q3];exact h.claim hte hblk hdep q2 (by rw[←hn,q3];rfl) q5
     ·cases hu
    ·rename_i S;split at hu
     ·rename_i fs hfs;split at hu
      ·rename_i E0 hj;split at hu
       ·rename_i hok2;have hxx:=X.beq_ok _ _ hok2;simp only[gnS] at hu;obtain⟨rfl,rfl⟩:=hu;obtain⟨fs',ds,hf',hds,hfl⟩:=hc;obtain rfl:=gnI (hf'.symm.trans hfs);refine⟨_,ds,hf',hds,?_⟩
        have key:∀{ds:List D}{k j:Nat}{fs:List Ty}{vs:List Value},Fls c.A p w dep own k ds fs vs→fs[j]? =some (.row E0)→lkA own (k+j)=some pin→(∀i y,i≠k+j→lkA own i=some y→je pin P' y=false∧je pin P' y=false)→(ds.getD j .u).rs.length=n→
          Fls c.A p' w' (P'::dep) (own.filter fun e=>e.1 !=k+j) k ds fs vs:=by
         intro ds
         induction ds with
         |nil=>rintro k j fs vs⟨h1,h2⟩hj;subst h1;simp at hj
         | cons d ds ih =>
          rintro k j fs vs⟨t,ts,a1,a2,rfl,rfl,h1,h2⟩hj ho' hoth' hlen;cases j with
          | zero =>
           simp at hj;subst hj;rw[kM] at ho'⊢;rw[ho'] at h1;rcases h1.symm with⟨K,V,kt,vt,lm,gm,es,clock,em,-⟩|⟨E1,te1,l,v,q1,q2,q3,q4,q5⟩
           ·cases em
           injection q1 with q1;subst q1 q3 q4;refine⟨_,ts,_,a2,rfl,rfl,?_,?_⟩
           ·rw[q80,if_pos rfl];exact h.claim hte hblk hdep q2 (by simpa[D.rs] using hlen) q5
           ·refine Fls.congr (fun i hi=>by rw[q80,if_neg (by omega)]) (Fls.mono (fun y hy=>kH _ hy) (Fls.kept' hst hdep (fun i y hi hy=>hoth' i y (by omega) hy) h2))
          | succ j =>
           refine⟨t,ts,a1,a2,rfl,rfl,?_,?_⟩
           ·rw[q80,if_neg (by omega)];exact Fl.mono (fun y hy=>kH _ hy) (h1.kept hst hdep fun y hy=>hoth' k y (by omega) hy)
           ·have:=ih (k:=k+1) (j:=j) h2 (by simpa using hj) (by rw[show k+1+j=k+(j+1) by omega];exact ho') (fun i y hi hy=>hoth' i y (by omega) hy) (by simpa using hlen);rw[show k+1+j=k+(j+1) by omega] at this;exact this
        have:=key (k:=0) (j:=j) hfl hj (by rw[uE];exact ho) (fun i y hi hy=>hoth i y (by omega) hy) (by
         have hx:(ds.getD j .u)=xa.ev c.v:=by rw[←hxx];show _=(x.ev c.v).fld j;rw[hds];rfl
         rw[hx];exact hn)
        rw[uE] at this;exact this
       ·cases hu
      ·cases hu
     ·cases hu
    ·cases hu
  ·cases hu
theorem qtf{pin P':Nat}{xa:X}{l:List (Nat×Ent)}{k:Nat}{e:Ent}(h:lkA (qjj pin P' xa l) k=some e):
  ∃e0 own' dep',lkA l k=some e0∧qon pin P' xa e0.x e0.t e0.own e0.dep=some (own',dep')∧e=⟨e0.x,e0.t,own',dep'⟩∧je pin P' (k * 16)=false:=by
 induction l with
 |nil=>cases h
 | cons y l ih =>
  obtain⟨m,y⟩:=y;unfold qjj at h;split at h
  ·rename_i x' dep' hu;split at h
   ·by_cases hm:m=k
    ·subst hm;rw[qh] at h;cases h
    ·rw[j5 hm] at h;rw[qb hm];exact ih h
   ·rename_i hpin;by_cases hm:m=k
    ·subst hm;rw[qa] at h;injection h with h;exact⟨y,x',dep',qa,hu,h.symm,by simpa using hpin⟩
    ·rw[qb hm] at h⊢;exact ih h
  ·by_cases hm:m=k
   ·subst hm;rw[qh] at h;cases h
   ·rw[j5 hm] at h;rw[qb hm];exact ih h
theorem AppOut.own{pin:Option Nat}{P':Nat}{E:TypeId}{te:Ty}(hte:qc E=some te){la lb:List D}{news:List Value}{v':Value}(h:AppOut c.A c.F w0 S0 p w pin P' E te la.length news lb.length v' p' w'){dep:List Nat}(hsm:la.length+lb.length≤LM te)
  (hnl:news.length=lb.length * te.w)(hnews:∀j(h:j<lb.length),Rd w' (FFD c.A p' dep) lb[j] te ((news.drop (j * te.w)).take te.w))
  (hold:∀x g,pin=some x→p x=some g→∀j(h:j<la.length),∃vs,w.rangeAt g (j * te.w) vs∧Rd w' (FFD c.A p' dep) la[j] te vs):qbj c.A p' w' dep P' E te (la++lb) v':=by
 rcases h.res with⟨rfl,h0⟩|⟨g',cap',cur',rfl,hP,hh,h1,h2,h3,h4,h5⟩
 ·have ha:la=[]:=uR (by omega);have hb:lb=[]:=uR (by omega);subst ha hb;exact .inl ⟨rfl,rfl⟩
 ·refine .inr ⟨g',cap',cur',by simp,hP,hh,by simpa using h1,h2,h3,by simp only[uW];omega,fun i hi=>?_⟩;by_cases hia:i<la.length
  ·obtain⟨x,g,cur,hx,hg,hc,hcc⟩:=h5 (by omega);obtain⟨vs,hr,hd⟩:=hold x g hx hg i hia;refine⟨vs,fun j u hj=>?_,by rw[List.getElem_append_left hia];exact hd⟩;have hj':=(gnH.1 hj).1;rw[(Rd.len _ hd).1] at hj';have hlt:i * te.w+j<la.length * te.w:=by
    have:=uC te.w (show i+1≤la.length by omega);rw[uO] at this;omega
   rw[cell_of_row w' g' _ cur' E (0,0) hh,hcc _ hlt];have:=hr j u hj;rw[cell_of_row w g _ cur E (0,0) hc] at this;exact this
  ·have hib:i - la.length<lb.length:=by simp at hi;omega
   refine⟨_,fun j u hj=>?_,by rw[List.getElem_append_right (by omega)];exact hnews (i - la.length) hib⟩;rw[cell_of_row w' g' _ cur' E (0,0) hh];have hj':=(gnH.1 hj).1;simp only[kE] at hj';rw[uF (by omega),kF] at hj;have:=h4 _ u hj;rw[←this]
   congr 1
   have:i * te.w=la.length * te.w+(i - la.length) * te.w:=by rw[←uO];congr 1;omega
   omega
end
end
section
section
variable{c:Cx}{p p':qe}{w w' w0:World}{S0:Nat→Prop}{a:Act}{σ σ':St}{cs:List (X×Bool)}{o:Oper}{d:List Deferred}{z:Nat}
theorem SF.app{pin P':Nat}{E:TypeId}{te:Ty}(hte:qc E=some te){n m:Nat}{news:List Value}{v':Value}(h:AppOut c.A c.F w0 S0 p w (some pin) P' E te n news m v' p' w')
  (hblk:0<n→∃g cur,p pin=some g∧w.heap[g]? =some (.cells cur E (0,0))){xa:X}(hn:(xa.ev c.v).rs.length=n)(hf:SF c σ p w a):SF c ⟨σ.t.map fun e=>(e.1,qry pin P' xa e.2),qjj pin P' xa σ.m⟩ p' w' a:=by
 have hst:Stab c.A (je pin P') (je pin P') p w p' w':=h.stab;refine⟨fun t x hx=>?_,fun k e he=>?_⟩
 ·obtain⟨y,hy,rfl⟩:=q08 (f:=qry pin P' xa) hx;obtain⟨v,h1,h2⟩:=hf.t t y hy;refine⟨v,h1,?_⟩;have gen:∀y:AV,y.pd c p w v→(if okA (je pin P') (je pin P') y then y else AV.any).pd c p' w' v:=fun y hy=>by
   split
   ·rename_i hok;exact AV.kept hst y v (q34 hok).1 (q34 hok).2 hy
   ·trivial
  unfold qry;split
  ·rename_i x t own dep;split
   ·rename_i own' dep' hu;obtain⟨vs,hp,hc⟩:=h2;exact⟨vs,hp,qie hte h hblk hn hu hc⟩
   ·trivial
  ·exact gen _ ⟨h2.1,trivial⟩
  ·rename_i el0 r0 i0 x0 t0 own0 dep0;split
   ·rename_i own' dep' hu;split
    ·rename_i hok;obtain⟨hel,vs,hp,hc⟩:=h2;exact⟨(AV.kept hst (.el el0 r0 i0 .any) v (q34 hok).1 (q34 hok).2 ⟨hel,trivial⟩).1,vs,hp,qie hte h hblk hn hu hc⟩
    ·trivial
   ·trivial
  ·exact gen _ h2
 ·obtain⟨e0,own',dep',h1,h2,rfl,h3⟩:=qtf he;obtain⟨g',vs,T,hg',hh,hty,hc⟩:=hf.m k e0 h1;exact⟨g',vs,T,hst.loc _ _ h3 hg',(hst.con _ _ h3 hg').trans hh,hty,qie hte h hblk hn h2 hc⟩
theorem qlz{y:AV}{r:Option Nat}(h:qn5 y=some r):(r=none∧y=.nilS)∨∃pin x E dep,r=some pin∧y=.v x (.row E) [(0,pin)] dep:=by
 unfold qn5 at h;split at h
 ·injection h with h;exact .inl ⟨h.symm,rfl⟩
 ·injection h with h;exact .inr ⟨_,_,_,_,h.symm,rfl⟩
 ·cases h
theorem qne{E:TypeId}{te:Ty}(hte:qc E=some te){xb:X}{ownb:List (Nat×Nat)}{depb:List Nat}{v:Value}(hcon:Con c.A p w (xb.ev c.v) (.row E) ownb depb [v]):
  ∃Ab capb,v=.slice Ab (xb.ev c.v).rs.length capb∧∃news:List Value,news.length=(xb.ev c.v).rs.length * te.w∧(∀ad,Ab=some ad→∀j u,news[j]? =some u→w.cell? (ad.add j)=some u)∧One news∧(Ab=none→(xb.ev c.v).rs.length=0)∧
   ∀j(h:j<(xb.ev c.v).rs.length),Rd w (FFD c.A p depb) (xb.ev c.v).rs[j] te ((news.drop (j * te.w)).take te.w):=by
 obtain⟨te',Ab,capb,hte',hdb,hevb,q1,q2,q3,hE⟩:=hcon.row;obtain rfl:=gnI (hte'.symm.trans hte)
 -- the elements hang on less than the row
 have hel:∀j(h:j<(xb.ev c.v).rs.length),∃b o cs,Ab=some ⟨b,o,none⟩∧w.rangeAt b (o+j * te'.w) cs∧Rd w (FFD c.A p depb) (xb.ev c.v).rs[j] te' cs:=fun j hj=>by
  have hc0:Fl c.A p w depb (lkA ownb 0) (xb.ev c.v) (.row E) [v]:=hcon;cases ho:lkA ownb 0 with
  | none =>
   rw[ho] at hc0;have hr:Rd w (FFD c.A p depb) (xb.ev c.v) (.row E) [v]:=hc0;have hr:=hr.asR;obtain⟨E',te2,A2,cap2,e1,e2,e3,-,-,-,e4⟩:=hr;injection e1 with e1;subst e1;obtain rfl:=gnI (hte.symm.trans e2);obtain rfl:Ab=A2:=by
    rw[hevb] at e3;injection e3 with e3;injection e3
   obtain⟨b,o,cs,g1,-,g2,g3⟩:=jg.1 e4 j hj;exact⟨b,o,cs,g1,by simpa using g2,g3⟩
  | some pin =>
   rw[ho] at hc0;rcases hc0.symm with⟨K,V,kt,vt,l,g,es,clock,e1,-⟩|⟨E',te2,l,v2,e1,e2,e3,e4,hv⟩
   ·cases e1
   injection e1 with e1;subst e1;obtain rfl:=gnI (hte.symm.trans e2);injection e4 with e4;subst e4;have hl:(xb.ev c.v).rs=l:=by rw[e3];rfl
   rcases hv with⟨-,hl0⟩|⟨g,cap,cur,e5,-,-,-,-,-,-,e6⟩
   ·rw[hl,hl0] at hj;simp at hj
   ·obtain⟨cs,g2,g3⟩:=e6 j (by rw[←hl];exact hj);rw[hevb] at e5;injection e5 with e5;refine⟨g,0,cs,e5,by simpa using g2,?_⟩;have:(xb.ev c.v).rs[j]=l[j]'(by rw[←hl];exact hj):=by
     congr 1
    rw[this];exact g3
 refine⟨Ab,capb,hevb,?_⟩;by_cases h0:(xb.ev c.v).rs.length=0
 ·refine⟨[],by simp[h0],fun ad _ j u hj=>by simp at hj,fun u hu=>?_,fun _=>h0,fun j hj=>by omega⟩;cases hu
 ·obtain⟨b,oo,vs,rfl,-⟩:=jg.1 hE 0 (by omega);obtain⟨news,n1,n2,n3,n4⟩:=qey _ 0 hE;refine⟨news,n1,fun ad e j u hj=>?_,n3,fun e=>?_,fun j hj=>?_⟩
  ·injection e with e;subst e;have:=n2 j u hj;rw[Addr.mid_eq];simpa using this
  ·cases e
  ·obtain⟨b',o',cs,e,g2,g3⟩:=hel j hj;injection e with e;injection e with e1 e2;subst e1 e2;have hlen:=(Rd.len _ g3).1;have:cs=(news.drop (j * te'.w)).take te'.w:=by
    refine vB fun i=>?_;by_cases hi:i<te'.w
    ·have hjw:j * te'.w+i<news.length:=by
      rw[n1];have:(j+1) * te'.w≤(xb.ev c.v).rs.length * te'.w:=uC _ hj;rw[uO,vP] at this;omega
     have h1:=g2 i _ (gnK (by omega));have h2:=n2 (j * te'.w+i) _ (gnK hjw);rw[uF hi,kF,gnK hjw,gnK (show i<cs.length by omega)];rw[show oo+0 * te'.w+(j * te'.w+i)=oo+j * te'.w+i by omega,h1] at h2;exact h2
    ·rw[kB (by omega),kB (by simp;omega)]
   rw[←this];exact g3
theorem qco(hb:Bs c.A c.F w0 S0 p w)(hf:SF c σ p w a)(hc:hold c.v cs=true)(hd:a.defers=d)(hz:a.tmps.size=z){k:Nat}(hk:k<z)(hdst:o.dst=some k){T:TypeId}{x y:Operand}(heq:o.op=.call {callee:=.builtin .append,args:= #[x,y],argTypes:= #[T,T]})
  {ns:List X}{fb:Ty→Option X}(hF:qpd c fb)(h:qg8 fb σ cs k T x y=some (ns,σ'))(hn:∀n∈ns,n.says c.v){Q:Exit→Act→World→Prop}:o.wp uA a w (zl c w0 S0 d z σ') Q:=by
 have fin:∀{v':Value}{w':World},(uM #[T,T] o.type #[a.eval x,a.eval y]).run uA w=.ok v' w'→zl c w0 S0 d z σ' (a.put (some k) v') w'→o.wp uA a w (zl c w0 S0 d z σ') Q:=fun{v' w'}hr hp=>by
  have hrun:(execOp a.eval o).run uA w=.ok (.value v') w':=by
   generalize a.eval=r at *;simp[execOp,heq,resolve,invoke,builtin,hr]
  unfold Oper.wp;rw[hrun]
  show zl c w0 S0 d z σ' (a.put o.dst v') w'
  rw[hdst];exact hp
 have hkq:qg k (k * 16+1)=true:=by
  unfold qg;rw[vU];omega
 unfold qg8 at h;split at h
 ·rename_i E hT;split at h
  ·rename_i te hte;split at h
   ·-- nil
    rename_i hpin;obtain⟨x',hx1,hx2⟩:=uG.1 hpin;rcases qlz hx2 with⟨-,rfl⟩|⟨pin,xx,E',dep,e,-⟩
    ·have hev:a.eval x=.slice none 0 0:=qd hf hc hx1;simp only at h;split at h
     ·rename_i xb ownb depb hy;split at h
      ·cases h
      rename_i hdepP;simp only[gnS] at h;obtain⟨rfl,rfl⟩:=h;obtain⟨y',hy1,hy2⟩:=uG.1 hy;have hb1:=hb.un (qg k);have hf1:=SF.un (q:=qg k) hb.inj hb.pa hf;have hcon:=q20 hte hy2 (qd hf1 hc hy1);obtain⟨Ab,capb,hevb,news,n1,n2,n3,n4,n5⟩:=qne hte hcon;have hlim:=zq (x:=q2l xb) (y:=qpb te) (hn _ (by simp));rw[q05] at hlim;have hlim':(xb.ev c.v).rs.length≤LM te:=by
       have:((xb.ev c.v).rs.length:Int)≤(LM te:Nat):=hlim;omega
      have hP:∀b,unP (qg k) p (k * 16+1)=some b→(none:Option Nat)=some (k * 16+1):=fun b hb=>by
       have:=(yr hb).1;rw[hkq] at this;cases this
      obtain⟨v',p',w',hr,hout⟩:=qo4 (va:=a.eval x) (pin:=none) (n:=0) hT hte hb1 hP (fun x hx=>by cases hx) (.inl ⟨hev,rfl⟩) n1 n2 n4 n3 (by omega) o.type;rw[←hevb] at hr;refine fin hr ⟨p',hout.bs,?_,hd,by simp only[Act.put,uS];exact hz⟩;have hkeep:=hf1.keep hout.stab;refine hkeep.put (by rw[hz];exact hk) ⟨[v'],rfl,?_⟩;rw[qn9];refine .inl ⟨E,te,_,v',rfl,hte,rfl,rfl,?_⟩;have:=AppOut.own (c:=c) (la:=[]) (lb:=(xb.ev c.v).rs) hte hout (dep:=q3q te (depb)) (by simpa using hlim') n1 (fun j hj=>?_) (fun x g hx=>by cases hx)
      ·exact this
      ·by_cases hfl:qm 8 te=true
       ·exact Rd.flat 8 _ hfl (n5 j hj)
       ·have e1:q3q te (depb)=depb:=if_neg hfl;rw[e1] at hdepP⊢;have hz0:∀y∈depb,q8h none (k * 16+1) y=false∧q8h none (k * 16+1) y=false:=fun y hy=>by
         have:=(ji (by simpa using hdepP) y hy).1;have h2:q8h none (k * 16+1) y=false:=by
          unfold q8h;rw[uX];exact⟨this,rfl⟩
         exact⟨h2,h2⟩
        refine Rd.keeps (hout.stab.kp hz0) _ ((n5 j hj).mono fun b _ hb=>hb.mono fun y hy=>hy)
     ·cases h
    ·cases e
   ·rename_i pin hpin;simp only at h;split at h
    ·rename_i xa pin' depa xb ownb depb hx hy;split at h
     ·rename_i hok;simp only[gnB,uQ,uX] at hok;obtain⟨hpp,hdp,hdP⟩:=hok;have hpp':=gnN hpp;subst hpp';simp only[gnS] at h;obtain⟨rfl,rfl⟩:=h;obtain⟨x',hx1,hx2⟩:=uG.1 hx;obtain⟨y',hy1,hy2⟩:=uG.1 hy;have hb1:=hb.un fun z=>qg k z&& !Nat.beq z pin';have hf1:=SF.un (q:=fun z=>qg k z&& !Nat.beq z pin') hb.inj hb.pa hf;have hca:=q20 hte hx2 (qd hf1 hc hx1);have hcb:=q20 hte hy2 (qd hf1 hc hy1);obtain⟨Ab,capb,hevb,news,n1,n2,n3,n4,n5⟩:=qne hte hcb;have hca':Fl c.A (unP (fun z=>qg k z&& !Nat.beq z pin') p) w depa (some pin') (xa.ev c.v) (.row E) [a.eval x]:=hca;rcases hca'.symm with⟨K,V,kt,vt,lm,gm,es,clock,em,-⟩|⟨E1,te1,la,va,q1,q2,q3,q4,q5⟩
      ·cases em
      injection q1 with q1;subst q1;injection q4 with q4;subst q4;obtain rfl:=gnI (q2.symm.trans hte);have hla:(xa.ev c.v).rs=la:=by rw[q3];rfl
      have hlim:=zq (x:=qix (q2l xa) (q2l xb)) (y:=qpb te1) (hn _ (by simp));rw[qc6,q05,q05] at hlim;have hlim':la.length+(xb.ev c.v).rs.length≤LM te1:=by
       have:(((xa.ev c.v).rs.length:Int)+((xb.ev c.v).rs.length:Int))≤(LM te1:Nat):=hlim;rw[hla] at this;omega
      have hP:∀b,unP (fun z=>qg k z&& !Nat.beq z pin') p (k * 16+1)=some b→some pin'=some (k * 16+1):=fun b hb=>by
       have:=(yr hb).1;rw[hkq] at this;simp at this;rw[this]
      have hva:(a.eval x=.slice none 0 0∧la.length=0)∨∃xx g cap cur,some pin'=some xx∧a.eval x=.slice (some ⟨g,0,none⟩) la.length cap∧unP (fun z=>qg k z&& !Nat.beq z pin') p xx=some g∧w.heap[g]? =some (.cells cur E (0,0))∧la.length≤cap∧cap≤maxLen∧cur.size=cap * te1.w:=by
       rcases q5 with⟨r1,r2⟩|⟨g,cap,cur,r1,r2,r3,r4,r5,r6,r7,r8⟩
       ·exact .inl ⟨r1,by rw[r2];rfl⟩
       ·exact .inr ⟨pin',g,cap,cur,rfl,r1,r2,r3,r4,r5,r6⟩
      obtain⟨v',p',w',hr,hout⟩:=qo4 (va:=a.eval x) (pin:=some pin') (n:=la.length) hT hte hb1 hP (fun _ _=>by rw[←hla];exact qql hF fun n hm=>hn n (by simp[hm])) hva n1 n2 n4 n3 hlim' o.type;rw[←hevb] at hr;refine fin hr ⟨p',hout.bs,?_,hd,by simp only[Act.put,uS];exact hz⟩;have hblk:0<la.length→∃g cur,unP (fun z=>qg k z&& !Nat.beq z pin') p pin'=some g∧w.heap[g]? =some (.cells cur E (0,0)):=fun h0=>by
       rcases q5 with⟨r1,r2⟩|⟨g,cap,cur,r1,r2,r3,-⟩
       ·rw[r2] at h0;simp at h0
       ·exact⟨g,cur,r2,r3⟩
      have happ:=SF.app (xa:=xa) hte hout hblk (by rw[hla]) hf1;refine happ.put (by rw[hz];exact hk) ⟨[v'],rfl,?_⟩;rw[qn9,hla];refine .inl ⟨E,te1,_,v',rfl,hte,rfl,rfl,?_⟩;have two:∀y∈q3q te1 (uni depa (depb)),je pin' (k * 16+1) y=false∧je pin' (k * 16+1) y=false:=fun y hy=>by
       have h1:=(ji hdp y hy).1;have h2:=(ji hdP y hy).1;have h3:je pin' (k * 16+1) y=false:=by
        unfold je;rw[uX];exact⟨h2,h1⟩
       exact⟨h3,h3⟩
      have hst:Stab c.A (je pin' (k * 16+1)) (je pin' (k * 16+1)) (unP (fun z=>qg k z&& !Nat.beq z pin') p) w p' w':=hout.stab;refine AppOut.own (c:=c) (la:=la) (lb:=(xb.ev c.v).rs) hte hout hlim' n1 (fun j hj=>?_) (fun xx g hxx hg j hj=>?_)
      ·by_cases hfl:qm 8 te1=true
       ·exact Rd.flat 8 _ hfl (n5 j hj)
       ·have e1:q3q te1 (uni depa (depb))=uni depa (depb):=if_neg hfl;rw[e1] at two⊢;refine Rd.keeps (hst.kp two) _ ((n5 j hj).mono fun b _ hb=>hb.mono fun y hy=>jo hy)
      ·injection hxx with hxx;subst hxx;rcases q5 with⟨r1,r2⟩|⟨g',cap,cur,r1,r2,r3,r4,r5,r6,r7,r8⟩
       ·rw[r2] at hj;simp at hj
       ·obtain rfl:=gnI (r2.symm.trans hg);obtain⟨vs,hrr,hdd⟩:=r8 j hj;refine⟨vs,hrr,?_⟩;by_cases hfl:qm 8 te1=true
        ·exact Rd.flat 8 _ hfl hdd
        ·have e1:q3q te1 (uni depa (depb))=uni depa (depb):=if_neg hfl;rw[e1] at two⊢;exact Rd.keeps (hst.kp two) _ (hdd.mono fun b _ hb=>hb.mono fun y hy=>yh hy)
     ·cases h
    ·cases h
   ·cases h
  ·cases h
 ·cases h
theorem qvc(hf:SF c σ p w a)(hc:hold c.v cs=true){E:TypeId}{te:Ty}(hte:qc E=some te){k:Nat}{x:Operand}{y:AV}(h:qvw σ cs E k x=some y):y.pd c p w (a.eval x):=by
 unfold qvw at h;split at h
 ·rename_i hx;injection h with h;subst h;have hev:a.eval x=.slice none 0 0:=qd hf hc hx;refine⟨[a.eval x],rfl,?_⟩
  show Fl c.A p w [] (lkA [(0,k * 16+1)] 0) (.r []) (.row E) _
  rw[qa];exact .inl ⟨E,te,[],_,rfl,hte,rfl,rfl,.inl ⟨hev,rfl⟩⟩
 ·exact qd hf hc h
theorem qv3(hb:Bs c.A c.F w0 S0 p w)(hf:SF c σ p w a)(hc:hold c.v cs=true)(hd:a.defers=d)(hz:a.tmps.size=z){k:Nat}(hk:k<z)(hdst:o.dst=some k){T T2:TypeId}{x y:Operand}(heq:o.op=.call {callee:=.builtin .append,args:= #[x,y],argTypes:= #[T,T2]})
  {ns:List X}{fb:Ty→Option X}(hF:qpd c fb)(h:qle fb σ cs k T T2 x y=some (ns,σ'))(hn:∀n∈ns,n.says c.v){Q:Exit→Act→World→Prop}:o.wp uA a w (zl c w0 S0 d z σ') Q:=by
 have fin:∀{v':Value}{w':World},(uM #[T,T2] o.type #[a.eval x,a.eval y]).run uA w=.ok v' w'→zl c w0 S0 d z σ' (a.put (some k) v') w'→o.wp uA a w (zl c w0 S0 d z σ') Q:=fun{v' w'}hr hp=>by
  have hrun:(execOp a.eval o).run uA w=.ok (.value v') w':=by
   generalize a.eval=r at *;simp[execOp,heq,resolve,invoke,builtin,hr]
  unfold Oper.wp;rw[hrun]
  show zl c w0 S0 d z σ' (a.put o.dst v') w'
  rw[hdst];exact hp
 have hkq:qg k (k * 16+1)=true:=by
  unfold qg;rw[vU];omega
 unfold qle at h;split at h
 ·rename_i E hT;split at h
  ·rename_i te hte;split at h
   ·rename_i pin hpin;simp only at h;split at h
    ·rename_i xa pin' depa xn on dn hx hy;split at h
     ·rename_i hok;simp only[gnB,uQ,uX] at hok;obtain⟨hpp,⟨hdp,hdP⟩,hT2,hmp⟩:=hok;have hpp':=gnN hpp;subst hpp';simp only[gnS] at h;obtain⟨rfl,rfl⟩:=h;obtain⟨x',hx1,hx2⟩:=uG.1 hx;have hb1:=hb.un fun z=>qg k z&& !Nat.beq z pin';have hf1:=SF.un (q:=fun z=>qg k z&& !Nat.beq z pin') hb.inj hb.pa hf;have hca:=q20 hte hx2 (qvc hf1 hc hte hx1);obtain⟨m,hm,hmv,hmr⟩:=zt (qd hf1 hc hy);have hca':Fl c.A (unP (fun z=>qg k z&& !Nat.beq z pin') p) w depa (some pin') (xa.ev c.v) (.row E) [a.eval x]:=hca;rcases hca'.symm with⟨K,V,kt,vt,lm,gm,es,clock,em,-⟩|⟨E1,te1,la,va,q1,q2,q3,q4,q5⟩
      ·cases em
      injection q1 with q1;subst q1;injection q4 with q4;subst q4;obtain rfl:=gnI (q2.symm.trans hte);have hla:(xa.ev c.v).rs=la:=by rw[q3];rfl
      have n1:=zq (x:=.lit (.i 0)) (y:=xn) (hn _ (by simp));have n2:=zq (x:=xn) (y:=.lit (.i 16777216)) (hn _ (by simp));have hlim:=zq (x:=qix (q2l xa) xn) (y:=qpb te1) (hn _ (by simp));rw[qc6,q05,hm,hla] at hlim;rw[hm] at n1 n2;simp only[X.ev,D.int] at n1 n2;obtain⟨m',rfl⟩:=Int.eq_ofNat_of_zero_le n1;have hlim':la.length+m'≤LM te1:=by
       have:((la.length:Int)+(m':Int))≤(LM te1:Nat):=hlim;omega
      have hP:∀b,unP (fun z=>qg k z&& !Nat.beq z pin') p (k * 16+1)=some b→some pin'=some (k * 16+1):=fun b hb=>by
       have:=(yr hb).1;rw[hkq] at this;simp at this;rw[this]
      have hva:(a.eval x=.slice none 0 0∧la.length=0)∨∃xx g cap cur,some pin'=some xx∧a.eval x=.slice (some ⟨g,0,none⟩) la.length cap∧unP (fun z=>qg k z&& !Nat.beq z pin') p xx=some g∧w.heap[g]? =some (.cells cur E (0,0))∧la.length≤cap∧cap≤maxLen∧cur.size=cap * te1.w:=by
       rcases q5 with⟨r1,r2⟩|⟨g,cap,cur,r1,r2,r3,r4,r5,r6,r7,r8⟩
       ·exact .inl ⟨r1,by rw[r2];rfl⟩
       ·exact .inr ⟨pin',g,cap,cur,rfl,r1,r2,r3,r4,r5,r6⟩
      obtain⟨zv,zvs,hzr,hzp,hzrd0,hzl0,hzc⟩:=q5z hte w (fun _=>False);have hzrd:=hzrd0 hmp;obtain⟨-,hzone⟩:=Rd.len _ hzrd;have hzl:zv.cells.size=te1.w:=by rw[hzc];simpa using hzl0
      have hzone':One zv.cells.toList:=by rw[hzc];simpa using hzone
      obtain⟨v',p',w',hr,hout⟩:=qtc (va:=a.eval x) (pin:=some pin') (n:=la.length) hT hte (j6 hT2) hb1 hP (fun _ _=>by rw[←hla];exact qql hF fun n hm=>hn n (by simp[hm])) hva hzr hzl hzone' hlim' (by omega) o.type;rw[←hmv] at hr;refine fin hr ⟨p',hout.bs,?_,hd,by simp only[Act.put,uS];exact hz⟩;have hblk:0<la.length→∃g cur,unP (fun z=>qg k z&& !Nat.beq z pin') p pin'=some g∧w.heap[g]? =some (.cells cur E (0,0)):=fun h0=>by
       rcases q5 with⟨r1,r2⟩|⟨g,cap,cur,r1,r2,r3,-⟩
       ·rw[r2] at h0;simp at h0
       ·exact⟨g,cur,r2,r3⟩
      have happ:=SF.app (xa:=xa) hte hout hblk (by rw[hla]) hf1;refine happ.put (by rw[hz];exact hk) ⟨[v'],rfl,?_⟩;have hev:(X.app xa (.rep xn (q5c te1))).ev c.v=.r (la++kN m' (q0p 8 te1)):=by
       show D.r ((xa.ev c.v).rs++kN (xn.ev c.v).int.toNat (q0p 8 te1))=_
       rw[hla,hm];rfl
      rw[hev];refine .inl ⟨E,te1,_,v',rfl,hte,rfl,rfl,?_⟩;have two:∀y∈q3q te1 depa,je pin' (k * 16+1) y=false∧je pin' (k * 16+1) y=false:=fun y hy=>by
       have h1:=(ji hdp y hy).1;have h2:=(ji hdP y hy).1;have h3:je pin' (k * 16+1) y=false:=by
        unfold je;rw[uX];exact⟨h2,h1⟩
       exact⟨h3,h3⟩
      have hst:Stab c.A (je pin' (k * 16+1)) (je pin' (k * 16+1)) (unP (fun z=>qg k z&& !Nat.beq z pin') p) w p' w':=hout.stab;have hnl:(uL zv.cells m').toList.length=(kN m' (q0p 8 te1)).length * te1.w:=by rw[uT,size_zeroCells,hzl,List.length_replicate]
      refine AppOut.own (c:=c) (la:=la) (lb:=kN m' (q0p 8 te1)) hte (by simpa using hout) (by simpa using hlim') hnl (fun j hj=>?_) (fun xx g hxx hg j hj=>?_)
      ·have hjm:j<m':=by simpa using hj
       have hcell:((uL zv.cells m').toList.drop (j * te1.w)).take te1.w=zvs:=by
        rw[hzc];refine vB fun q=>?_;by_cases hq:q<te1.w
        ·have hlt:j * te1.w+q<m' * te1.w:=by
          have:(j+1) * te1.w≤m' * te1.w:=uC _ hjm;rw[uO,vP] at this;omega
         rw[uF hq,kF,uN];simp only[uL,uP,hzl0];rw[Array.getElem?_map,Array.getElem?_range,if_pos hlt];have hmod:(j * te1.w+q) % te1.w=q:=by rw[jL,Nat.mul_add_mod,vY hq]
         simp only[Option.map_some,hmod];rw[getElem!_pos zvs.toArray q (by simpa[hzl0] using hq)];simp[gnK (show q<zvs.length by omega)]
        ·rw[kB (by simp;omega),kB (by omega)]
       rw[hcell,vK];exact Rd.keeps (fun b o hb=>hb.elim) _ hzrd
      ·injection hxx with hxx;subst hxx;rcases q5 with⟨r1,r2⟩|⟨g',cap,cur,r1,r2,r3,r4,r5,r6,r7,r8⟩
       ·rw[r2] at hj;simp at hj
       ·obtain rfl:=gnI (r2.symm.trans hg);obtain⟨vs,hrr,hdd⟩:=r8 j hj;refine⟨vs,hrr,?_⟩;by_cases hfl:qm 8 te1=true
        ·exact Rd.flat 8 _ hfl hdd
        ·have e1:q3q te1 depa=depa:=if_neg hfl;rw[e1] at two⊢;exact Rd.keeps (hst.kp two) _ (hdd.mono fun b _ hb=>hb)
     ·cases h
    ·cases h
   ·cases h
  ·cases h
 ·cases h
end
end
section
theorem qat:∀(l:List Value)(k:Nat){c0 c1 c2:List Value}{cs:Array Value}{off:Nat},cs.toList=c0++(c1++c2)→c0.length=off+k→c1.length=l.length→((l.zipIdx k).foldl (fun cs x=>cs.setIfInBounds (off+x.2) x.1) cs).toList=c0++(l++c2)
 |[],k,c0,c1,c2,cs,off,h,h1,h2=>by
  have:c1=[]:=uR (by simpa using h2);subst this;simpa using h
 | v :: l, k, c0, c1, c2, cs, off, h, h1, h2 => by
  cases c1 with
  |nil=>simp at h2
  | cons u c1 =>
   simp only[List.zipIdx_cons,List.foldl_cons];have:=qat l (k+1) (c0:=c0++[v]) (c1:=c1) (c2:=c2) (cs:=cs.setIfInBounds (off+k) v) (off:=off) (by
    rw[Array.toList_setIfInBounds,h,←h1];simp) (by simp;omega) (by simpa using h2)
   rw[this];simp
theorem qgh{place:Nat→Option (Nat×Nat)}{cells:Array Value}{i off size:Nat}{v:Value}{r:List (Nat×Value)}{c0 c1 c2 vs:List Value}(hp:place i=some (off,size))(hv:v.cells=vs.toArray)(hs:vs.length=size)(hc:cells.toList=c0++(c1++c2))(h0:c0.length=off)(h1:c1.length=size):
  Instr.fill place cells ((i,v)::r)=Instr.fill place (c0++(vs++c2)).toArray r:=by
 have hsz:cells.size=c0.length+(c1.length+c2.length):=by rw[←uT,hc];simp
 have hf:v.cells.zipIdx.foldl (fun cs(c,j)=>cs.setIfInBounds (off+j) c) cells=(c0++(vs++c2)).toArray:=by
  apply kT;rw[hv];have:=qat vs 0 (cs:=cells) (off:=off) hc (by omega) (by omega);rw[←this];simp
 simp only[Instr.fill,hp,hf];rw[if_neg (by
  rw[hv];simp only[uP,hs,ne_eq,not_true_eq_false,decide_false,jJ,kW,gnD];simp;omega)]
def bld(σ:St)(cs:List (X×Bool))(fs:List Ty):List (Nat×Operand)→X→List (Nat×Nat)→List Nat→Option (X×List (Nat×Nat)×List Nat)
  |[],x,own,dep=>some (x,own,dep)
  | (j, y) :: r, x, own, dep => match fs[j]? with
    | some t => match (opd σ cs y).bind (jq t) with
      | some (xv, ownv, depv) => match qef t ownv with
        |some oj=>bld σ cs fs r (.set x j xv) (q0i own j oj) (uni dep depv)
        |none=>none
      |none=>none
    |none=>none
def qog(σ:St)(cs:List (X×Bool))(fs:List Ty):List (Nat×Operand)→Nat→Option (List X)
  |[],_=>some []
  | (j, y) :: r, k => if uB j k then (match fs[j]? with
    | some t => match (opd σ cs y).bind (jq t), qog σ cs fs r (k + 1) with
      |some (xv,_,_),some l=>some (xv::l)
      |_,_=>none
    |none=>none) else none
def qib(σ:St)(cs:List (X×Bool))(k:Nat)(T:TypeId)(ps:List (Nat×Operand)):Option AV:=match qc T with
 | some (.st S) => match flds S with
  | some fs => match bld σ cs fs ps (q5c (.st S)) (qj k (.st S)) [] with
   |some (x,own,dep)=>match(if uB ps.length fs.length then qog σ cs fs ps 0 else none) with
    |some l=>some (.v (.mk l) (.st S) own dep)
    |none=>some (.v x (.st S) own dep)
   |none=>none
  |none=>none
 |_=>none
section
variable{c:Cx}{p p':qe}{w w' w0:World}{S0:Nat→Prop}{a:Act}{σ σ':St}{cs:List (X×Bool)}{o:Oper}{d:List Deferred}{z:Nat}
theorem qt3(hf:SF c σ p w a)(hc:hold c.v cs=true){S:TypeId}{fs:List Ty}(hfs:flds S=some fs){places:Nat→Option (Nat×Nat)}(hpl:∀j t,fs[j]? =some t→places j=some (offs fs j,t.w)):
    ∀{ps:List (Nat×Operand)}{x x':X}{own own':List (Nat×Nat)}{dep dep':List Nat}{cells:Array Value},bld σ cs fs ps x own dep=some (x',own',dep')→Con c.A p w (x.ev c.v) (.st S) own dep cells.toList→
    ∃cells',Instr.fill places cells (ps.map fun y=>(y.1,a.eval y.2))=some cells'∧Con c.A p w (x'.ev c.v) (.st S) own' dep' cells'.toList
  | [], x, x', own, own', dep, dep', cells, h, hx => by
    simp only[bld,gnS] at h;obtain⟨rfl,rfl,rfl⟩:=h;exact⟨cells,rfl,hx⟩
  | (j, y) :: r, x, x', own, own', dep, dep', cells, h, hx => by
    unfold bld at h;split at h
    · rename_i t hj;split at h
      · rename_i xv ownv depv hy;split at h
        · rename_i oj hoj;obtain⟨y',hy1,hy2⟩:=uG.1 hy;obtain⟨vs,hp,hcon⟩:=yg hy2 (qd hf hc hy1);have hcells:=hp.cells hcon.len.2;obtain⟨fs',ds,hf',hds,hfl⟩:=hx.mono (dep':=uni dep depv) fun y hy=>yh hy;obtain rfl:=gnI (hf'.symm.trans hfs);obtain⟨c0,c1,c2,q1,q2,q3,q4⟩:=Fls.set (own':=q0i own j oj) (d:=xv.ev c.v) (c:=vs) hfl hj (by rw[uE,jm,if_pos rfl];exact Con.sup hoj (hcon.mono fun y hy=>jo hy)) (fun i hi=>by rw[uE] at hi;rw[jm,if_neg hi]);have hx2:Con c.A p w ((X.set x j xv).ev c.v) (.st S) (q0i own j oj) (uni dep depv) (c0++(vs++c2)):=⟨fs',ds.set j (xv.ev c.v),hf',by show D.a ((x.ev c.v).fs.set j _)=_;rw[hds];rfl,q4⟩;obtain⟨cells',h1,h2⟩:=qt3 hf hc hfs hpl (cells:=(c0++(vs++c2)).toArray) h (by simpa using hx2);refine⟨cells',?_,h2⟩;rw[jI,qgh (hpl j t hj) hcells hcon.len.1 q1 q2 q3];exact h1
        · cases h
      · cases h
    · cases h
theorem qn2{c:Cx}{fs:List Ty}:∀{ps:List (Nat×Operand)}{k:Nat}{x x':X}{own own':List (Nat×Nat)}{dep dep':List Nat}{l:List X},bld σ cs fs ps x own dep=some (x',own',dep')→qog σ cs fs ps k=some l→(x.ev c.v).fs.length=k+ps.length→
    x'.ev c.v=(if ps=[] then x.ev c.v else .a ((x.ev c.v).fs.take k++X.evs c.v l))
  | [], k, x, x', own, own', dep, dep', l, h, hl, hlen => by
    simp only[bld,gnS] at h;obtain⟨rfl,rfl,rfl⟩:=h;simp
  | (j, y) :: r, k, x, x', own, own', dep, dep', l, h, hl, hlen => by
    rw[if_neg (by simp)];unfold qog at hl;split at hl
    · rename_i hjk;have hjk':=gnN hjk;subst hjk';unfold bld at h;split at h
      · rename_i t hj;simp only[hj] at hl;split at h
        · rename_i xv ownv depv hy;simp only[hy] at hl;split at h
          · rename_i oj hoj;split at hl
            · rename_i _ _ xv' _ _ l' he hl';injection he with he;injection he with he1 he2;subst he1;injection hl with hl;subst hl;simp only[kS] at hlen;have hs:((X.set x j xv).ev c.v).fs=(x.ev c.v).fs.set j (xv.ev c.v):=rfl;have:=qn2 (c:=c) (k:=j+1) h hl' (by rw[hs,jA];omega);rw[this];have htake:((x.ev c.v).fs.set j (xv.ev c.v)).take (j+1)=(x.ev c.v).fs.take j++[xv.ev c.v]:=by
                rw[List.take_succ_eq_append_getElem (by simp;omega),List.take_set_of_le (kK _)];simp
              by_cases hr:r=[]
              · subst hr;rw[if_pos rfl];have hl0:l'=[]:=by simp[qog] at hl';exact hl'
                subst hl0
                show D.a ((x.ev c.v).fs.set j _)=_
                congr 1
                have:(x.ev c.v).fs.set j (xv.ev c.v)=((x.ev c.v).fs.set j (xv.ev c.v)).take (j+1):=by rw[List.take_of_length_le (by simp at hlen⊢;omega)]
                rw[this,htake];simp[X.evs]
              · rw[if_neg hr,hs,htake];simp[X.evs]
            · cases hl
          · cases h
        · cases h
      · cases h
    · cases hl
theorem run_places{fields:Array Field}{fs:List Ty}(hfb:jr fields.toList fs 0=true):∃places:Array (Nat×Nat),(fields.mapM fun f=>(do pure (f.offset,←sizeOf f.type):Sem (Nat×Nat))).run uA w=.ok places w∧∀j t,fs[j]? =some t→places[j]? =some (offs fs j,t.w):=by
 have key:∀(fl:List Field)(fs:List Ty)(o:Nat),jr fl fs o=true→∃l:List (Nat×Nat),(fl.mapM fun(f:Field)=>(do pure (f.offset,←sizeOf f.type):Sem (Nat×Nat))).run uA w=.ok l w∧∀j t,fs[j]? =some t→l[j]? =some (o+offs fs j,t.w):=by
  intro fl
  induction fl with
  |nil=>
   intro fs o hb;refine⟨[],by simp,fun j t hj=>?_⟩;cases fs with
   |nil=>simp at hj
   |cons t ts=>cases hb
  | cons f fl ih =>
   intro fs o hb;cases fs with
   |nil=>cases hb
   | cons t ts =>
    simp only[jr,gnB] at hb;obtain⟨⟨⟨hb1,hb2⟩,hb3⟩,hb4⟩:=hb;have hoff:=gnN hb1;have hty:qc f.type=some t:=by
     split at hb3
     ·rename_i t' ht';rw[ht',(Ty.beq_iff _ _).1 hb3]
     ·cases hb3
    obtain⟨l,h1,h2⟩:=ih ts _ hb4;refine⟨(f.offset,t.w)::l,?_,fun j u hj=>?_⟩
    ·simp only[List.mapM_cons,uV,y6 hty,kA,uK,h1]
    ·cases j with
     |zero=>
      simp at hj;subst hj;simp[hoff,q1j]
     |succ j=>
      have:=h2 j u (by simpa using hj);rw[List.getElem?_cons_succ,this,q1g]
      congr 2
      omega
 obtain⟨l,h1,h2⟩:=key fields.toList fs 0 hfb;refine⟨l.toArray,?_,fun j t hj=>by simpa using h2 j t hj⟩;rw[Array.mapM_eq_mapM_toList];simp only[map_eq_pure_bind,uV,h1,uK,kA]
theorem qob(hf:SF c σ p w a)(hc:hold c.v cs=true){k:Nat}{T:TypeId}{ps:Array (Nat×Operand)}(heq:o.op=.build T ps){x:AV}(h:qib σ cs k T ps.toList=some x):q1b o a c p w x:=by
 unfold qib at h;split at h
 ·rename_i S hT;split at h
  ·rename_i fs hfs;split at h
   ·rename_i x1 own dep hb;obtain⟨fields,fs',zc,i,hu,hf',hfb,hi,hs,hz,hpz,-⟩:=q0j hT;obtain rfl:=gnI (hf'.symm.trans hfs);obtain⟨v,vs,hzv,hpk,hcon0,hcells⟩:=qj7 hT rfl w c.A p k;have hrd:Rd w (FFD c.A p ((qj k (.st S)).map (·.2))) (q0p 8 (.st S)) (.st S) vs:=hcon0.rd (fun x hx=>by cases hx) (fun x hx=>hx);obtain⟨places,hpr,hpl⟩:=run_places (w:=w) hfb;obtain⟨cells',h1,h2⟩:=qt3 hf hc hfs (places:=fun i=>places[i]?) hpl (cells:=vs.toArray) hb (show Con c.A p w ((q5c (.st S)).ev c.v) (.st S) (qj k (.st S)) [] vs.toArray.toList from hcon0);have hrun:(execOp a.eval o).run uA w=.ok (.value (.agg cells')) w:=by
     have hparts:(ps.map fun(y:Nat×Operand)=>(y.1,a.eval y.2)).toList=ps.toList.map fun y=>(y.1,a.eval y.2):=by simp
     rw[←hparts] at h1;generalize a.eval=r at *;simp only[execOp,heq,Instr.build,uV,hzv,run_underlying hu,uK,hpr,hcells,h1];rfl
    refine⟨_,hrun,?_⟩;split at h
    ·rename_i l hl;injection h with h;subst h;refine⟨cells'.toList,by simp[z4],?_⟩;split at hl
     ·rename_i hlen;have hlen':=gnN hlen;have hzl:((q5c (.st S)).ev c.v).fs.length=0+ps.toList.length:=by
       have hr':Rd w (FFD c.A p ((qj k (.st S)).map (·.2))) (q0p 8 (.st S)) (.st S) vs:=hrd;cases hd0:q0p 8 (.st S) with
       |a l0=>
        rw[hd0] at hr';obtain⟨T',fs0,e1,e2,e3⟩:=hr';injection e1 with e1;subst e1;obtain rfl:=gnI (e2.symm.trans hfs)
        show(q0p 8 (.st S)).fs.length=_
        rw[hd0]
        show l0.length=_
        rw[(RdF.len e3).2];omega
       |u=>rw[hd0] at hr';obtain⟨E,te,e,-⟩:=hr';cases e
       |i n=>rw[hd0] at hr';rcases hr' with⟨k,e,-⟩|⟨e,-⟩<;>cases e
       |b x=>rw[hd0] at hr';cases hr'.1
       |s x=>rw[hd0] at hr';cases hr'.1
       |r l=>rw[hd0] at hr';obtain⟨E,te,A,cap,e,-⟩:=hr';cases e
       |mp l=>rw[hd0] at hr';obtain⟨K,V,kt,vt,g,es,clock,e,-⟩:=hr';cases e
      have hev:=qn2 (c:=c) hb hl hzl;have:(X.mk l).ev c.v=x1.ev c.v:=by
       rw[hev];split
       ·rename_i hnil;rw[hnil] at hl hzl;have hl0:l=[]:=by simp[qog] at hl;exact hl
        subst hl0
        show D.a []=_
        have hz0:((q5c (.st S)).ev c.v).fs=[]:=uR (by simpa using hzl);cases hd0:(q5c (.st S)).ev c.v with
        |a l0=>rw[hd0] at hz0;simp[D.fs] at hz0;rw[hz0]
        | _ =>
         exfalso;have hr':Rd w (FFD c.A p ((qj k (.st S)).map (·.2))) ((q5c (.st S)).ev c.v) (.st S) vs:=hrd;rw[hd0] at hr'
         first
          |exact hr'
          |(cases hr'.1;done)
          |(obtain⟨E,te,e,-⟩:=hr';cases e;done)
          |(rcases hr' with⟨k,e,-⟩|⟨e,-⟩<;>cases e<;>done)
          |(obtain⟨E,te,A,cap,e,-⟩:=hr';cases e;done)
          |(obtain⟨K,V,kt,vt,g,es,clock,e,-⟩:=hr';cases e;done)
       ·simp;rfl
      rw[this];exact h2
     ·cases hl
    ·injection h with h;subst h;exact⟨cells'.toList,by simp[z4],h2⟩
   ·cases h
  ·cases h
 ·cases h
def qol(σ:St)(cs:List (X×Bool))(te:Ty):List (Nat×Operand)→Nat→Option (List X×List Nat)
  |[],_=>some ([],[])
  | (j, y) :: r, k => if uB j k then (match (opd σ cs y).bind (ql0 te), qol σ cs te r (k + 1) with
    |some (xv,ownv,depv),some (l,dep)=>some (xv::l,uni (uni depv (ownv.map (·.2))) dep)
    |_,_=>none) else none
def qqw(P:Program)(σ:St)(cs:List (X×Bool))(T:TypeId)(ps:List (Nat×Operand)):Option AV:=match P.underlying T,P.info? T with
 | some (.array n E), some i => (match qc E with
  |some te=>(match qol σ cs te ps 0,i.zero with
   |some (l,dep),some (.agg zc)=>if uB ps.length n&&uB zc.size (n * te.w) then some (.ar E l dep) else none
   |_,_=>none)
  |none=>none)
 |_,_=>none
def qrp(σ:St)(cs:List (X×Bool))(k:Nat)(T:TypeId)(n:Nat)(ps:List (Nat×Operand)):Option St:=match qc T with
 | some (.row E) => match qc E with
  |some te=>match qol (σ.un (qg k)) cs te ps 0 with
   |some (l,dep)=>if uB ps.length n&&(vA n 1000&&vA (n * te.w) 16777216) then some ⟨zr (σ.un (qg k)).t k (.v (.row l) (.row E) [(0,k * 16+1)] (q3q te dep)),(σ.un (qg k)).m⟩ else none
   |none=>none
  |none=>none
 |_=>none
def qkr(σ:St)(cs:List (X×Bool))(k:Nat)(T:TypeId)(x y:Operand):Option (List X×St):=match qc T with
 | some (.row E) => match qc E with
  |some te=>match opd (σ.un (qg k)) cs x,opd (σ.un (qg k)) cs y with
   |some (.v xn (.int .i64) _ _),some (.v yn (.int .i64) _ _)=>if X.beq xn yn&& !q36 te then some ([leX (.lit (.i 0)) xn,leX xn (.lit (.i 16777216))],⟨zr (σ.un (qg k)).t k (.v (.rep xn (q5c te)) (.row E) [(0,k * 16+1)] []),(σ.un (qg k)).m⟩) else none
   |_,_=>none
  |none=>none
 |_=>none
theorem qns(hb:Bs c.A c.F w0 S0 p w)(hf:SF c σ p w a)(hd:a.defers=d)(hz:a.tmps.size=z){k:Nat}(hk:k<z){E:TypeId}{te:Ty}(hte:qc E=some te){x:X}{l:List D}(hx:x.ev c.v=.r l){dep:List Nat}{cells:List Value}(hl:cells.length=l.length * te.w)(hlen:l.length≤16777216)
  (hc:∀j(h:j<l.length),Rd w (FFD c.A (unP (qg k) p) dep) l[j] te ((cells.drop (j * te.w)).take te.w)):
  zl c w0 S0 d z ⟨zr (σ.un (qg k)).t k (.v x (.row E) [(0,k * 16+1)] dep),(σ.un (qg k)).m⟩ (a.put (some k) (.slice (some ⟨w.heap.size,0,none⟩) l.length l.length)) (w.alloc (.cells cells.toArray E)):=by
 have hb1:=hb.un (qg k);have hf1:=SF.un (q:=qg k) hb.inj hb.pa hf;have hkq:qg k (k * 16+1)=true:=by
  unfold qg;rw[vU];omega
 have hpx:unP (qg k) p (k * 16+1)=none:=by unfold unP;rw[if_pos hkq]
 have hst:=q1s (A:=c.A) hpx hb1.bd (.cells cells.toArray E);have hnew:(w.alloc (.cells cells.toArray E)).heap[w.heap.size]? =some (.cells cells.toArray E (0,0)):=q0x rfl;refine⟨q5o (unP (qg k) p) (k * 16+1) w.heap.size,q5m hb1 _ _,?_,hd,by simp only[Act.put,uS];exact hz⟩;have hkeep:SF c (σ.un (qg k)) (q5o (unP (qg k) p) (k * 16+1) w.heap.size) (w.alloc (.cells cells.toArray E)) a:=by
  refine⟨fun t' y hy=>?_,fun k' e he=>?_⟩
  ·obtain⟨v,h1,h2⟩:=hf1.t t' y hy;exact⟨v,h1,AV.kept hst y v (fun _ _=>⟨rfl,rfl⟩) (fun _ _=>rfl) h2⟩
  ·exact(hf1.m k' e he).kept hst (fun _ _=>⟨rfl,rfl⟩) ⟨rfl,rfl⟩
 refine hkeep.put (t:=k) (by rw[hz];exact hk) ⟨[_],rfl,?_⟩;rw[hx];refine .inl ⟨E,te,l,_,rfl,hte,rfl,rfl,.inr ⟨w.heap.size,l.length,cells.toArray,rfl,yc,hnew,kK _,by unfold maxLen;omega,by simpa using hl,qx2 hte (by omega),fun i hi=>⟨_,fun j u hj=>?_,Rd.keeps (hst.kp fun _ _=>⟨rfl,rfl⟩) _ (hc i hi)⟩⟩⟩;rw[cell_of_row _ _ _ _ _ _ hnew,uU];have hj':=(gnH.1 hj).1;simp only[kE] at hj';rw[uF (by omega),kF] at hj;exact hj
theorem qi7{p:qe}(hf:SF c σ p w a)(hc:hold c.v cs=true){te:Ty}:∀{ps:List (Nat×Operand)}{k:Nat}{l:List X}{dep:List Nat}{cells:Array Value}{c0 c1:List Value},qol σ cs te ps k=some (l,dep)→cells.toList=c0++c1→c0.length=k * te.w→c1.length=ps.length * te.w→
    ∃c2:List Value,Instr.fill (fun i=>some (i * te.w,te.w)) cells (ps.map fun y=>(y.1,a.eval y.2))=some (c0++c2).toArray∧c2.length=ps.length * te.w∧(X.evs c.v l).length=ps.length∧
      ∀j(h:j<(X.evs c.v l).length),Rd w (FFD c.A p dep) (X.evs c.v l)[j] te ((c2.drop (j * te.w)).take te.w)
  | [], k, l, dep, cells, c0, c1, h, h1, h2, h3 => by
    simp only[qol,gnS] at h;obtain⟨rfl,rfl⟩:=h;have:c1=[]:=uR (by simpa using h3);subst this;refine⟨[],?_,by simp,rfl,fun j hj=>by simp[X.evs] at hj⟩
    show some cells=_
    congr 1
    apply kT;rw[h1]
  | (j, y) :: r, k, l, dep, cells, c0, c1, h, h1, h2, h3 => by
    unfold qol at h;split at h
    · rename_i hjk;have hjk':=gnN hjk;subst hjk';split at h
      · rename_i xv ownv depv l' dep' hy hr;simp only[gnS] at h;obtain⟨rfl,rfl⟩:=h;obtain⟨y',hy1,hy2⟩:=uG.1 hy;obtain⟨vs,hp,hcon⟩:=qom hy2 (qd hf hc hy1);have hcells:=hp.cells hcon.len.2;have hvl:=hcon.len.1;simp only[kS,uO,vP] at h3;have hspl:c1=c1.take te.w++c1.drop te.w:=(kX _ _).symm;have hl1:(c1.take te.w).length=te.w:=by rw[kE];omega
        obtain⟨c2,q1,q2,q3,q4⟩:=qi7 hf hc (cells:=(c0++(vs++c1.drop te.w)).toArray) (c0:=c0++vs) (c1:=c1.drop te.w) hr (by simp) (by rw[uW,h2,hvl,uO];omega) (by rw[List.length_drop];omega);refine⟨vs++c2,?_,by rw[uW,hvl,q2,kS,uO];omega,by simp[X.evs,q3],fun i hi=>?_⟩
        · rw[jI,qgh (c0:=c0) (c1:=c1.take te.w) (c2:=c1.drop te.w) (off:=j * te.w) (size:=te.w) rfl hcells hvl (by rw[←hspl];exact h1) h2 hl1,q1];simp
        · cases i with
          | zero =>
            simp only[vM,jD];rw[←hvl,vI];refine(hcon.rd (dep':=uni (uni depv (ownv.map (·.2))) dep') (fun x hx=>yh (yh hx)) (fun x hx=>yh (jo hx)))
          | succ i =>
            have hi':i<(X.evs c.v l').length:=by simp only[X.evs,kS] at hi;omega
            have:=q4 i hi';rw[show(i+1) * te.w=vs.length+i * te.w by rw[uO];omega,vW,kV (by omega),kJ];simp only[X.evs,List.getElem_cons_succ,vF];exact this.mono fun b _ hb=>hb.mono fun y hy=>jo hy
      · cases h
    · cases h
theorem qv0(hf:SF c σ p w a)(hc:hold c.v cs=true){T:TypeId}{ps:Array (Nat×Operand)}(heq:o.op=.build T ps){x:AV}(h:qqw uA σ cs T ps.toList=some x):q1b o a c p w x:=by
 unfold qqw at h;split at h
 ·rename_i n E i hu hi;split at h
  ·rename_i te hte;split at h
   ·rename_i l dep zc hr hzc;split at h
    ·rename_i hok;simp only[gnB] at hok;have hn:=gnN hok.1;have hz:=gnN hok.2;injection h with h;subst h;obtain⟨c2,q1,q2,q3,q4⟩:=qi7 hf hc (cells:=zc) (c0:=[]) (c1:=zc.toList) hr (by simp) (by simp) (by simp[hz,hn]);have hparts:(ps.map fun(y:Nat×Operand)=>(y.1,a.eval y.2)).toList=ps.toList.map fun y=>(y.1,a.eval y.2):=by simp
     rw[←hparts,vF] at q1;have hzr:(zeroValue T).run uA w=.ok (.agg zc) w:=by simp[zeroValue,typeInfo,hi,hzc]
     refine⟨.agg c2.toArray,?_,te,c2,hte,rfl,?_,fun j d hj=>?_⟩
     ·generalize a.eval=r at *;simp only[execOp,heq,Instr.build,uV,hzr,run_underlying hu,uK,Value.cells,y6 hte,q1];rfl
     ·rw[q2,←q3,q1e]
     ·obtain⟨hjl,rfl⟩:=gnH.1 hj;exact q4 j hjl
    ·cases h
   ·cases h
  ·cases h
 ·cases h
theorem qtw(hb:Bs c.A c.F w0 S0 p w)(hf:SF c σ p w a)(hc:hold c.v cs=true)(hd:a.defers=d)(hz:a.tmps.size=z){k:Nat}(hk:k<z)(hdst:o.dst=some k){T:TypeId}{n:Nat}{ps:Array (Nat×Operand)}(heq:o.op=.buildSlice T n ps)(h:qrp σ cs k T n ps.toList=some σ'){Q:Exit→Act→World→Prop}:
  o.wp uA a w (zl c w0 S0 d z σ') Q:=by
 unfold qrp at h;split at h
 ·rename_i E hT;split at h
  ·rename_i te hte;split at h
   ·rename_i l dep hr;split at h
    ·rename_i hok;simp only[gnB] at hok;obtain⟨ho1,ho2,ho3⟩:=hok;have hn:=gnN ho1;have hn2:n≤1000:=by simpa using ho2
     have hn3:n * te.w≤16777216:=by simpa using ho3
     injection h with h;subst h;have hf1:=SF.un (q:=qg k) hb.inj hb.pa hf;obtain⟨i,hi,hsz,hpos,hby⟩:=q02 hte;obtain⟨zv,zvs,hzr,hzp,-,hzl0,hzc⟩:=q5z hte w (fun _=>True);have hu:=(yi hT).1;obtain⟨c2,q1,q2,q3,q4⟩:=qi7 hf1 hc (cells:=(kY (n * te.w)).map fun i=>(if n * te.w=0 then #[] else zv.cells)[i % (if n * te.w=0 then #[] else zv.cells).size]!) (c0:=[]) (c1:=((kY (n * te.w)).map fun i=>(if n * te.w=0 then #[] else zv.cells)[i % (if n * te.w=0 then #[] else zv.cells).size]!).toList) hr (by simp) (by simp) (by simp[hn]);have hparts:(ps.map fun(y:Nat×Operand)=>(y.1,a.eval y.2)).toList=ps.toList.map fun y=>(y.1,a.eval y.2):=by simp
     rw[←hparts,vF] at q1;have hrun:(execOp a.eval o).run uA w=.ok (.value (.slice (some ⟨w.heap.size,0,none⟩) n n)) (w.alloc (.cells c2.toArray E)):=by
      have hns:¬(n * te.w>2^24):=by omega
      generalize a.eval=r at *;simp only[execOp,heq,Instr.buildSlice,uV,run_underlying hu,uK,y6 hte];rw[if_neg hns];by_cases h0:n * te.w=0
      ·simp only[h0,if_true] at q1⊢;simp only[uV,kA,uK,q1,newRow,newObj];simp[kL]
      ·simp only[h0,if_false] at q1⊢;simp only[uV,kA,uK,hzr,q1,newRow,newObj];simp[kL]
     unfold Oper.wp;rw[hrun]
     show zl c w0 S0 d z _ (a.put o.dst _) _
     rw[hdst];have hln:(X.evs c.v l).length=n:=by rw[q3,hn]
     have:=qns (σ:=σ) hb hf hd hz hk hte (x:=.row l) (l:=X.evs c.v l) rfl (dep:=q3q te dep) (cells:=c2) (by rw[q2,q3]) (by omega) (fun j hj=>by
      by_cases hfl:qm 8 te=true
      ·exact Rd.flat 8 _ hfl (q4 j hj)
      ·have e1:q3q te dep=dep:=if_neg hfl;rw[e1];exact q4 j hj)
     rw[hln] at this;exact this
    ·cases h
   ·cases h
  ·cases h
 ·cases h
theorem qm6{zvs:List Value}{m:Nat}(h:0<zvs.length):∀j,j<m→((((kY (m * zvs.length)).map fun i=>zvs.toArray[i % zvs.toArray.size]!).toList.drop (j * zvs.length)).take zvs.length)=zvs:=by
 intro j hj;have hle:(j+1) * zvs.length≤m * zvs.length:=uC _ (by omega);rw[uO] at hle;apply vB;intro i;by_cases hi:i<zvs.length
 ·rw[uF hi,kF];have hlt:j * zvs.length+i<m * zvs.length:=by omega
  have hmod:(j * zvs.length+i) % zvs.length=i:=by rw[Nat.add_comm,Nat.add_mul_mod_self_right,vY hi]
  simp[hlt,hmod,hi]
 ·rw[kB (by simp;omega),kB (by omega)]
theorem qtg(hb:Bs c.A c.F w0 S0 p w)(hf:SF c σ p w a)(hc:hold c.v cs=true)(hd:a.defers=d)(hz:a.tmps.size=z){k:Nat}(hk:k<z)(hdst:o.dst=some k){T:TypeId}{x y:Operand}(heq:o.op=.makeSlice T x y){ns:List X}(h:qkr σ cs k T x y=some (ns,σ'))(hn:∀n∈ns,n.says c.v){Q:Exit→Act→World→Prop}:
  o.wp uA a w (zl c w0 S0 d z σ') Q:=by
 unfold qkr at h;split at h
 ·rename_i E hT;split at h
  ·rename_i te hte;split at h
   ·rename_i xn _ _ yn _ _ hx hy;split at h
    ·rename_i hxy;simp only[gnB,uQ] at hxy;obtain⟨hxy,hmp⟩:=hxy;have hxy':=X.beq_ok _ _ hxy;subst hxy';simp only[gnS] at h;obtain⟨rfl,rfl⟩:=h;have hf1:=SF.un (q:=qg k) hb.inj hb.pa hf;obtain⟨m,hm,hmv,-⟩:=zt (qd hf1 hc hx);obtain⟨m',hm',hmv',-⟩:=zt (qd hf1 hc hy);rw[hm] at hm';injection hm' with hm';subst hm';have n1:=zq (x:=.lit (.i 0)) (y:=xn) (hn _ (by simp));have n2:=zq (x:=xn) (y:=.lit (.i 16777216)) (hn _ (by simp));rw[hm] at n1 n2;simp only[X.ev,D.int] at n1 n2;obtain⟨m',rfl⟩:=Int.eq_ofNat_of_zero_le n1;obtain⟨i,hi,hsz,hpos,hby⟩:=q02 hte;obtain⟨zv,zvs,hzr,hzp,hzrd,hzl0,hzc⟩:=q5z hte w (FFD c.A (unP (qg k) p) []);have hzrd:=hzrd hmp;have hu:=(yi hT).1;have hzl:zvs.length=te.w:=(Rd.len _ hzrd).1;have hm2:m'≤16777216:=by omega
     have hwr:IntKind.i64.wrap (m':Int)=m':=q67 (k:=.i64) (by simp[yy];omega);have hcl:((kY (m' * te.w)).map fun i=>zvs.toArray[i % zvs.toArray.size]!).toList.length=m' * te.w:=by simp
     have hrun:∃cells:List Value,(execOp a.eval o).run uA w=.ok (.value (.slice (some ⟨w.heap.size,0,none⟩) m' m')) (w.alloc (.cells cells.toArray E))∧cells.length=m' * te.w∧∀j,j<m'→(cells.drop (j * te.w)).take te.w=zvs:=by
      have hb48:¬(281474976710656<(i.bytes:Int) * m'):=by
       have:i.bytes * m'≤4096 * 16777216:=jG hby hm2;omega
      have hlt0:¬((m':Int)<0):=by omega
      by_cases h0:m' * te.w=0
      ·refine⟨[],?_,by simp[h0],fun j hj=>?_⟩
       ·have hm0:m'=0:=by
         rcases Nat.mul_eq_zero.1 h0 with h|h
         ·exact h
         ·omega
        subst hm0;generalize a.eval=r at *;simp only[execOp,heq,hmv,hmv',Instr.makeSlice,uV,run_underlying hu,uK,asInt,asIntOf,kA,typeInfo,run_program,hi,hwr];simp[askRoom,roomBytes,y6 hte,newRow,newObj,kL,hwr]
        congr 2
        apply kT;simp
       ·have:0<te.w:=hpos;have:=jN (show 0<m' by omega) this;omega
      ·refine⟨((kY (m' * te.w)).map fun i=>zvs.toArray[i % zvs.toArray.size]!).toList,?_,hcl,fun j hj=>?_⟩
       ·have hroom:¬(m' * i.bytes>roomBytes):=by
         have:m' * i.bytes≤16777216 * 4096:=jG hm2 hby;unfold roomBytes;omega
        generalize a.eval=r at *;simp only[execOp,heq,hmv,hmv',Instr.makeSlice,uV,run_underlying hu,uK,asInt,asIntOf,kA,typeInfo,run_program,hi,hwr];simp[askRoom,hroom,y6 hte,h0,hzr,hzc,newRow,newObj,kL,hb48,hlt0,hwr]
        congr 2
        apply kT;simp
       ·have:=qm6 (zvs:=zvs) (m:=m') (by omega) j hj;rw[hzl] at this;exact this
     obtain⟨cells,hrun,hcl,hcells⟩:=hrun;unfold Oper.wp;rw[hrun]
     show zl c w0 S0 d z _ (a.put o.dst _) _
     rw[hdst];have:=qns (σ:=σ) hb hf hd hz hk hte (x:=.rep xn (q5c te)) (l:=kN m' (q0p 8 te)) (by show D.r _=_;rw[hm];rfl) (dep:=[]) (cells:=cells) (by simp[hcl]) (by simpa using hm2) (fun j hj=>by
      have hj':j<m':=by simpa using hj
      rw[hcells j hj',vK];exact hzrd)
     simpa using this
    ·cases h
   ·cases h
  ·cases h
 ·cases h
end
end
structure Ow where
 f:Option (List Nat)
 lost:Bool:=false
instance:Coe Bool Ow:=⟨fun b=>{f:=cond b none (some [])}⟩
inductive Ar where
 |val(t:Ty)
 |ref(t:Ty)(o:Ow)
 |rref(t:Ty)
 |own(t:Ty)
 |mref(t:Ty)
 |nils
 |nilp
 |cst(t:Ty)(d:D)
 |fn(f:FuncId)(ks:List Nat)
 |cell(T:TypeId)(j:Nat)
 |old(t:Ty)
def qf4(o:Ow)(i:Nat)(t:Ty):List (Nat×Nat):=match o.f with
 |none=>qj i t
 |some []=>[]
 |some l=>(qj i t).filter fun e=>qr l e.1
def qoi(o:Ow)(i:Nat)(t:Ty):List (Nat×Nat):=if o.lost then[] else qf4 o i t
inductive Src where
 |cap(i q:Nat)
 |cell(i:Nat)
structure Ct where
 f:FuncId
 ar:List Ar
 rs:List (Ty×Bool)
 vr:List (Src×Ar):=[]
 pn:Option TypeId:=none
 kp:List Nat:=[]
 fl:List (Nat×Nat×Ty):=[]
def qa0(ct:Ct)(F:Flr)(ds:List D):Prop:=∀te,F.mx te=0∨∃k j,(k,j,te)∈ct.fl∧(k=999∨F.mx te≤(((ds.getD k .u).fld j).rs.length))
theorem qa0.zero{ct:Ct}{F:Flr}{ds:List D}(h:qa0 ct F ds)(hf:ct.fl=[])(te:Ty):F.mx te=0:=by
 rcases h te with h|⟨k,j,hm,-⟩
 ·exact h
 ·rw[hf] at hm;cases hm
theorem qa0.of0{ct:Ct}{F:Flr}{ds:List D}(h:∀te,F.mx te=0):qa0 ct F ds:=fun te=>.inl (h te)
theorem Flo.of0{F:Flr}(h:∀te,F.mx te=0){w0 w w1 w':World}(hw:Flo F w0 w):Flo F w1 w':=fun k hk=>by
 obtain⟨cs,cs',T,te,h1,h2,h3,h4,-⟩:=hw k hk;rw[h te] at h4;omega
theorem Flo.anew{F:Flr}{w0 w:World}(h:Flo F w0 w):Flo F w w:=fun k hk=>by
 obtain⟨cs,cs',T,te,h1,h2,h3,h4,h5,h6,h7,h8⟩:=h k hk;exact⟨cs',cs',T,te,zd h6,h6,h3,h4,by rw[h7];exact h5,h6,rfl,fun j _=>rfl⟩
theorem Flo.trans{F:Flr}{w0 w w':World}(h:Flo F w0 w)(h':Flo F w w'):Flo F w0 w':=fun k hk=>by
 obtain⟨cs,cs',T,te,h1,h2,h3,h4,h5,h6,h7,h8⟩:=h k hk;obtain⟨ds,ds',T',te',g1,g2,g3,g4,g5,g6,g7,g8⟩:=h' k hk;rw[h6] at g2;injection g2 with g2;injection g2 with e1 e2;subst e1 e2;exact⟨cs,ds',T,te,h1,h2,h3,h4,h5,g6,g7.trans h7,fun j hj=>(g8 j hj).trans (h8 j hj)⟩
def idx:Nat→List Ar→List (Nat×Ar)
 |_,[]=>[]
 |i,a::l=>(i,a)::idx (i+1) l
def Ct.all(ct:Ct):List (Nat×Ar):=idx 0 ct.ar++idx VB (ct.vr.map (·.2))
def z0(V:List Value)(A:Bk)(p:qe)(w:World):List (Nat×Ar)→List Value→List D→Prop
  |[],vs,ds=>vs=[]∧ds=[]
  |(_,.val t)::l,vs,ds=>∃v r d ds',vs=v::r∧ds=d::ds'∧(∃cs,z4 t cs v∧Rd w (FFD A p []) d t cs)∧z0 V A p w l r ds'
  |(i,.ref t o)::l,vs,ds=>∃v r d ds',vs=v::r∧ds=d::ds'∧(∃g cs T,p (i * 16)=some g∧v=.pointer (some ⟨g,0,none⟩)∧w.heap[g]? =some (.cells cs T (0,0))∧qc T=some t∧Con A p w d t (qf4 o i t) [] cs.toList)∧z0 V A p w l r ds'
  |(_,.rref t)::l,vs,ds=>∃v r d ds',vs=v::r∧ds=d::ds'∧(∃b o cs,v=.pointer (some ⟨b,o,none⟩)∧FFD A p [] b∧w.rangeAt b o cs∧0<cs.length∧Rd w (FFD A p []) d t cs)∧z0 V A p w l r ds'
  |(i,.own t)::l,vs,ds=>∃v r d ds',vs=v::r∧ds=d::ds'∧(∃cs,z4 t cs v∧Con A p w d t (qj i t) [] cs)∧z0 V A p w l r ds'
  |(i,.mref t)::l,vs,ds=>∃v r d ds',vs=v::r∧ds=d::ds'∧(∃cs,z4 t cs v∧Con A p w d t (qj i t) [] cs)∧z0 V A p w l r ds'
  |(_,.nils)::l,vs,ds=>∃r,vs=.slice none 0 0::r∧z0 V A p w l r ds
  |(_,.nilp)::l,vs,ds=>∃r,vs=.pointer none::r∧z0 V A p w l r ds
  |(_,.cst t d)::l,vs,ds=>∃v r,vs=v::r∧(∃cs,z4 t cs v∧Rd w (FFD A p []) d t cs)∧z0 V A p w l r ds
  |(_,.fn f ks)::l,vs,ds=>∃r,vs=.func (.func f) #[] (ks.map fun k=>V.getD k undef).toArray::r∧z0 V A p w l r ds
  |(_,.cell T j)::l,vs,ds=>∃b r,vs=.pointer (some ⟨b,0,none⟩)::r∧A b∧q3n p b∧w.heap[b]? =some (.cells #[V.getD j undef] T (0,0))∧z0 V A p w l r ds
  |(_,.old t)::l,vs,ds=>∃v r d ds',vs=v::r∧ds=d::ds'∧(∃cs,z4 t cs v∧Rd w (FFD A p [q0d]) d t cs)∧z0 V A p w l r ds'
def qcr(A:Bk)(p:qe)(w:World):List (Ty×Bool)→Nat→List Value→List D→Prop
  |[],_,vs,ds=>vs=[]
  |(t,own)::l,k,vs,ds=>∃v r d ds',vs=v::r∧ds=d::ds'∧(∃cs,z4 t cs v∧Con A p w d t (if own then qj k t else[]) [] cs)∧qcr A p w l (k+1) r ds'
def q35(V:List Value)(A:Bk)(p p':qe)(w:World):List (Nat×Ar)→List D→Prop
  |[],ds=>ds=[]
  |(i,.ref t o)::l,ds=>∃d ds',ds=d::ds'∧(∃g cs T,p (i * 16)=some g∧p' (i * 16)=some g∧w.heap[g]? =some (.cells cs T (0,0))∧qc T=some t∧Con A p' w d t (qoi o i t) [] cs.toList)∧q35 V A p p' w l ds'
  |(i,.mref t)::l,ds=>∃d ds',ds=d::ds'∧((∃g,p (i * 16+1)=some g∧p' (i * 16+1)=some g∧Con A p' w d t [(0,i * 16+1)] [] [.map (some g)])∨(qb6 t=true∧∃v cs,V[i]? =some v∧z4 t cs v∧Con A p' w d t (qj i t) [] cs))∧q35 V A p p' w l ds'
  |_::l,ds=>q35 V A p p' w l ds
def qfe:List Value→Value
 |[v]=>v
 |l=>.tuple l.toArray
structure Pre(n:Nat)(A:Bk)(F:Flr)(p:qe)(w:World):Prop where
 inj:∀x y b,p x=some b→p y=some b→x=y
 bd:∀x b,p x=some b→b<w.heap.size
 pa:∀x b,p x=some b→A b
 obj:∀x b,p x=some b→q6y w b
 new:∀b,w.heap.size≤b→A b∧F.fr b
 keys:∀x b,p x=some b→x / 16<n∨VB≤x / 16
 sp:A.k=false
def pinned(p:qe):Nat→Prop:=fun b=>∃x,p x=some b
def q55(T:TypeId):List PanicEntry:=[{v:=.iface T (.agg #[]),recovered:=false}]
def Kpt(l:List Nat)(p p':qe)(w w':World):Prop:=∀q∈l,∀b,p q=some b→p' q=some b∧w'.heap[b]? =w.heap[b]?
structure FOk(ct:Ct)(g:List D→Option (List D)):Prop where
 enter:∀args w,(callFunc ct.f args).run uA w=.ok (.enter ct.f args) w
 call:∀(A:Bk)(F:Flr)(p:qe)(w:World)(vs us:List Value)(ds outs:List D),g ds=some outs→qa0 ct F ds→Flo F w w→Pre ct.ar.length A F p w→vs.length=ct.ar.length→z0 (vs++us) A p w ct.all (vs++us) ds→
  Calls uA ct.f vs.toArray w fun e w'=>(∃T,ct.pn=some T∧outs=[.u]∧e=.panicked (q55 T)∧But (pinned p) w w')∨∃rs p',e=.returned (qfe rs)∧Bs A F w (pinned p) p' w'∧qcr A p' w' ct.rs ct.ar.length rs (outs.take ct.rs.length)∧q35 (vs++us) A p p' w' ct.all (outs.drop ct.rs.length)
 keep:ct.kp≠[]→∀(A:Bk)(F:Flr)(p:qe)(w:World)(vs us:List Value)(ds outs:List D),g ds=some outs→qa0 ct F ds→Flo F w w→Pre ct.ar.length A F p w→vs.length=ct.ar.length→z0 (vs++us) A p w ct.all (vs++us) ds→
  Calls uA ct.f vs.toArray w fun e w'=>(∃T,ct.pn=some T∧outs=[.u]∧e=.panicked (q55 T)∧But (pinned p) w w')∨∃rs p',e=.returned (qfe rs)∧Bs A F w (pinned p) p' w'∧qcr A p' w' ct.rs ct.ar.length rs (outs.take ct.rs.length)∧q35 (vs++us) A p p' w' ct.all (outs.drop ct.rs.length)∧Kpt ct.kp p p' w w':=by intro h;exact absurd rfl h
theorem FOk.callK{ct:Ct}{g:List D→Option (List D)}(h:FOk ct g):∀(A:Bk)(F:Flr)(p:qe)(w:World)(vs us:List Value)(ds outs:List D),g ds=some outs→qa0 ct F ds→Flo F w w→Pre ct.ar.length A F p w→vs.length=ct.ar.length→z0 (vs++us) A p w ct.all (vs++us) ds→
  Calls uA ct.f vs.toArray w fun e w'=>(∃T,ct.pn=some T∧outs=[.u]∧e=.panicked (q55 T)∧But (pinned p) w w')∨∃rs p',e=.returned (qfe rs)∧Bs A F w (pinned p) p' w'∧qcr A p' w' ct.rs ct.ar.length rs (outs.take ct.rs.length)∧q35 (vs++us) A p p' w' ct.all (outs.drop ct.rs.length)∧Kpt ct.kp p p' w w':=fun A F p w vs us ds outs h1 hfl hfo h2 h3 h4=>by
 by_cases hk:ct.kp=[]
 ·refine(h.call A F p w vs us ds outs h1 hfl hfo h2 h3 h4).mono fun e w'=>Or.imp id fun⟨rs,p',a,b,c,d⟩=>⟨rs,p',a,b,c,d,?_⟩;rw[hk];intro q hq;cases hq
 ·exact h.keep hk A F p w vs us ds outs h1 hfl hfo h2 h3 h4
abbrev Tbl:=List (Ct×(List D→Option (List D)))
def qx(tbl:Tbl):Nat→List D→Option (List D):=fun n ds=>match tbl[n]? with
 |some e=>e.2 ds
 |none=>none
def qwm(ct:Ct):Option Ty:=match ct.ar,ct.rs with
 |[.val (.st 4242424243)],(t,_)::_=>some t
 |_,_=>none
def flI(t:Ty):Nat→Tbl→Option Nat
 |_,[]=>none
 |n,e::l=>match qwm e.1 with
  |some t'=>if Ty.beq t' t then some n else flI t (n+1) l
  |none=>none
def qi4:Tbl→List Ty
 |[]=>[]
 |e::l=>match qwm e.1 with
  |some t'=>t'::qi4 l
  |none=>[]
def flX(tbl:Tbl)(t:Ty):Option X:=(flI t 0 tbl).map fun n=>.call n 0 []
def flM(tbl:Tbl)(t:Ty):Nat:=match flI t 0 tbl with
 |some n=>(((qx tbl n []).getD []).getD 0 .u).int.toNat
 |none=>0
def z0n(ct:Ct):Bool:=match ct.ar with
 |[.val (.st n)]=>uB n 4242424244
 |_=>false
def spB(tbl:Tbl):Bool:=tbl.any fun e=>z0n e.1
structure HS(c:Cx)(tbl:Tbl):Prop where
 s:c.v.S=qx tbl
 f:∀te,c.F.mx te≤flM tbl te
 k:spB tbl=true→c.A.k=true
theorem qny{t:Ty}:∀{l:Tbl}{n i:Nat},flI t n l=some i→t∈qi4 l
 |[],n,i,h=>by cases h
 | e :: l, n, i, h => by
  unfold flI at h;unfold qi4;split at h
  ·rename_i t' ht;split at h
   ·rename_i he;rw[(Ty.beq_iff _ _).1 he];exact kI
   ·exact kH _ (qny h)
  ·cases h
theorem HS.zero{c:Cx}{tbl:Tbl}(h:HS c tbl){te:Ty}(hn:te∉qi4 tbl):c.F.mx te=0:=by
 have:=h.f te;unfold flM at this;split at this
 ·rename_i n hi;exact absurd (qny hi) hn
 ·omega
def ym(tbl:Tbl):Prop:=∀e,e∈tbl→FOk e.1 e.2
def q7j(tbl:Tbl)(w0:World)(S0:Nat→Prop)(d:List Deferred)(Q:Exit→Act→World→Prop):Prop:=∀e∈tbl,∀T,e.1.pn=some T→(∃ds,e.2 ds=some [.u])→∀a w,a.defers=d→But S0 w0 w→Q (.panic (q55 T)) a w
def z0j(tbl:Tbl)(R:List D→Prop)(w0:World)(S0:Nat→Prop)(d:List Deferred)(Q:Exit→Act→World→Prop):Prop:=R [.u]→∀e∈tbl,∀T,e.1.pn=some T→∀a w,a.defers=d→But S0 w0 w→Q (.panic (q55 T)) a w
def qew(tbl:Tbl):Bool:=tbl.all fun e=>e.1.pn.isNone
theorem q8d{tbl:Tbl}(h:qew tbl=true){e:Ct×(List D→Option (List D))}(he:e∈tbl){T:TypeId}(hT:e.1.pn=some T):False:=by
 have:=vE.1 h e he;rw[hT] at this;cases this
theorem qv4{tbl:Tbl}(h:qew tbl=true){w0:World}{S0:Nat→Prop}{d:List Deferred}{Q:Exit→Act→World→Prop}:q7j tbl w0 S0 d Q:=fun e he T hT=>(q8d h he hT).elim
theorem qvd{tbl:Tbl}(h:qew tbl=true){R:List D→Prop}{w0:World}{S0:Nat→Prop}{d:List Deferred}{Q:Exit→Act→World→Prop}:z0j tbl R w0 S0 d Q:=fun _ e he T hT=>(q8d h he hT).elim
mutual
/-- Both are one value. -/
def j9:AV→AV→Bool
 |.sn i _,.sn j _=>uB i j
 |.ref k _ o _,.ref k' _ o' _=>uB k k'&&uB o o'
 |.ref k _ o _,.bx k' _ _=>uB k k'&&uB o 0
 |.bx k _ _,.ref k' _ o _=>uB k k'&&uB o 0
 |.bx k _ _,.bx k' _ _=>uB k k'
 |.fn f l,.fn f' l'=>uB f f'&&qa8 l l'
 |.nilP,.nilP=>true
 |_,_=>false
def qa8:List AV→List AV→Bool
 |[],[]=>true
 |a::l,b::m=>j9 a b&&qa8 l m
 |_,_=>false
end
def qoq(σ:St):AV→AV
 |.sn _ a=>a
 | .ref k path o t => (match path, o with
  |[],0=>(match lkA σ.t k with
   |some (.bx k' T a)=>if uB k' k then .bx k T a else .ref k path o t
   |_=>.ref k path o t)
  |_,_=>.ref k path o t)
 |a=>a
def qux(σ:St)(avs:List AV):Src→Option AV
 | .cap i q => (match avs[i]? with
  |some a=>(match qoq σ a with
   |.fn _ l=>l[q]?
   |_=>none)
  |none=>none)
 | .cell i => (match avs[i]? with
  |some a=>(match qoq σ a with
   |.bx _ _ a=>some a
   |.fr _ a=>some a
   |_=>none)
  |none=>none)
def qfx(σ:St):List AV→List Src→Option (List AV)
 |avs,[]=>some avs
 |avs,s::l=>match qux σ avs s with
  |some a=>qfx σ (avs++[a]) l
  |none=>none
def qow(V:List AV):List AV→List Nat→Bool
 |[],[]=>true
 |a::l,k::ks=>(match V[k]? with
  |some b=>j9 a b
  |none=>false)&&qow V l ks
 |_,_=>false
def qhn(V:List AV)(j:Nat)(c:AV):Bool:=match V[j]? with
 |some b=>j9 c b
 |none=>false
def qq4(t:Ty)(d:D)(a:AV):Bool:=match jq t a with
 |some (x,_,_)=>(match qq8 x with
  |some d'=>D.beq d' d
  |none=>false)
 |none=>false
def z0q:Ar→AV→Bool
 |.val t,a=>(jq t a).isSome
 |.ref t _,.ref _ [] 0 t'=>Ty.beq t' t
 |.rref t,.ref _ [] 0 t'=>Ty.beq t' t
 |.rref t,.rd _ t' _ _=>Ty.beq t' t
 |.own t,a=>(jq t a).isSome
 |.mref t,a=>(jq t a).isSome
 |.nils,.nilS=>true
 |.nilp,.nilP=>true
 |.cst t d,a=>qq4 t d a
 |.fn f _,.fn f' _=>uB f f'
 |.cell T _,.bx _ T' _=>uB T T'
 |.cell T _,.fr T' _=>uB T T'
 |.old t,a=>(jq t a).isSome
 |_,_=>false
def qx4(σ:St):List (Nat×Ar)→List AV→Bool
 |[],[]=>true
 |r::l,a::m=>z0q r.2 (qoq σ a)&&qx4 σ l m
 |_,_=>false
def qkk(σ:St)(args:List AV)(ct:Ct):Option (List AV):=match qfx σ args (ct.vr.map (·.1)) with
 |some V=>if uB args.length ct.ar.length&&qx4 σ ct.all V then some V else none
 |none=>none
def q9a(σ:St)(f:FuncId)(args:List AV):Tbl→Nat→Option (Nat×Ct×List AV)
 |[],_=>none
 |e::l,n=>if uB e.1.f f then(match qkk σ args e.1 with
  |some V=>some (n,e.1,V)
  |none=>q9a σ f args l (n+1)) else q9a σ f args l (n+1)
def MB:Nat:=1000000000
def q7l(k:Nat):Nat:=if vA MB k then k - MB else k * 16
def q6t(k i:Nat):Nat:=if vA MB k then i * 16+1 else i * 16
structure Gv where
 xs:List X
 dep:List Nat
 pass:List (Nat×Nat)
 vars:List (Nat×Nat×Ty×List (Nat×Nat))
def q70(own mine:List (Nat×Nat)):Option (List (Nat×Nat×Nat)):=match own with
  |[]=>some []
  | (j, q) :: l => match lkA mine j, q70 l mine with
    |some pin,some r=>some ((j,q,pin)::r)
    |_,_=>none
def q3d(σ:St)(V:List AV)(i:Nat)(r:Ar)(a:AV)(g:Gv):Option Gv:=match r,a with
 |.val t,a=>(match jq t a with
  |some (x,own,dep)=>some ⟨x::g.xs,uni (uni (own.map (·.2)) dep) g.dep,g.pass,g.vars⟩
  |none=>none)
 | .ref t o, .ref k [] 0 t' => (match lkA σ.m k with
  |some e=>if jM k MB&&(Ty.beq t' t&&(Ty.beq e.t t&&e.own.all fun y=>(lkA (qf4 o i t) y.1).isSome)) then(match q70 (qf4 o i t) e.own with
   |some ps=>some ⟨e.x::g.xs,uni e.dep g.dep,(i * 16,k * 16)::ps.map (·.2)++g.pass,(k,i,t,if o.lost then[] else ps.map fun y=>(y.1,y.2.2))::g.vars⟩
   |none=>none) else none
  |none=>none)
 |.rref t,.ref k [] 0 t'=>(match lkA σ.m k with
  |some e=>if Ty.beq t' t&&(Ty.beq e.t t&&jM 0 t.w) then some ⟨e.x::g.xs,uni (k * 16::uni (e.own.map (·.2)) e.dep) g.dep,g.pass,g.vars⟩ else none
  |none=>none)
 |.rref t,.rd x t' dep _=>if Ty.beq t' t then some ⟨x::g.xs,uni dep g.dep,g.pass,g.vars⟩ else none
 |.own (.row E),.nilS=>if(qc E).isSome then some ⟨.lit (.r [])::g.xs,g.dep,g.pass,g.vars⟩ else none
 | .own t, a => (match jq t a with
  |some (x,own,dep)=>if own.all fun y=>(lkA (qj i t) y.1).isSome then(match q70 (qj i t) own with
   |some ps=>some ⟨x::g.xs,uni dep g.dep,ps.map (·.2)++g.pass,g.vars⟩
   |none=>none) else none
  |none=>none)
 |.mref t,a=>(match jq t a with
  |some (x,[(0,pin)],_)=>if q36 t||qb6 t then some ⟨x::g.xs,g.dep,(i * 16+1,pin)::g.pass,(MB+pin,i,t,[(0,pin)])::g.vars⟩ else none
  |_=>none)
 |.nils,.nilS=>some g
 |.nilp,.nilP=>some g
 |.cst t d,a=>if qq4 t d a then(match jq t a with
  |some (_,own,dep)=>some ⟨g.xs,uni (uni (own.map (·.2)) dep) g.dep,g.pass,g.vars⟩
  |none=>none) else none
 |.fn f ks,.fn f' l=>if uB f f'&&qow V l ks then some g else none
 |.cell T j,.bx k T' c=>if uB T T'&&qhn V j c then some ⟨g.xs,uni [k * 16] g.dep,g.pass,g.vars⟩ else none
 |.cell T j,.fr T' c=>if uB T T'&&qhn V j c then some g else none
 |.old t,a=>(match jq t a with
  |some (x,own,dep)=>some ⟨x::g.xs,uni (uni (own.map (·.2)) (dep.filter fun y=> !Nat.beq y q0d)) g.dep,g.pass,g.vars⟩
  |none=>none)
 |_,_=>none
def give(σ:St)(V:List AV):List (Nat×Ar)→List AV→Option Gv
  |[],[]=>some ⟨[],[],[],[]⟩
  | (i, r) :: l, a :: m => match give σ V l m with
    |some g=>q3d σ V i r (qoq σ a) g
    |none=>none
  |_,_=>none
def ye:List Nat→Bool
 |[]=>true
 |x::l=> !qr l x&&ye l
def qpo(t:Ty)(own:Bool)(l:List Nat):List Nat:=if qm 8 t||(own&&q60 t) then[] else l
def shO(j:Nat)(l:List (Nat×Nat)):List (Nat×Nat):=match j with
 |0=>l
 |_+1=>l.map fun e=>(e.1,e.2+7)
def qmw(n:Nat)(xs:List X)(dep:List Nat)(k:Nat):List (Ty×Bool)→Nat→List AV
 |[],_=>[]
 |(t,own)::l,j=>.v (.call n j xs) t (if own then shO j (qj k t) else[]) (qpo t own dep)::qmw n xs dep k l (j+1)
def qzv:List AV→AV
 |[a]=>a
 |l=>.tup l
def q61(n k:Nat)(rs:List (Ty×Bool))(j:Nat:=0):List (Nat×Nat):=match rs with
 |[]=>[]
 |(t,own)::l=>(if own then(qj n t).zip (shO j (qj k t))|>.map fun e=>(e.1.2,e.2.2) else[])++q61 (n+1) k l (j+1)
def q0f(n:Nat)(xs:List X)(dep:List Nat):List (Nat×Nat×Ty×List (Nat×Nat))→Nat→List (Nat×Ent)→List (Nat×Ent)
 |[],_,m=>m
 |(k,_,t,own)::l,j,m=>q0f n xs dep l (j+1) (if vA MB k then m else zr m k ⟨.call n j xs,t,own,qpo t (qca t own) dep⟩)
def qpi(n j:Nat)(xs:List X)(pin:Nat)(t:Ty):AV→Option AV
 |.v _ t' [(0,q)] _=>if uB q pin&&Ty.beq t' t then some (.v (.call n j xs) t [(0,pin)] []) else none
 |.sn s (.v _ t' [(0,q)] _)=>if uB q pin&&Ty.beq t' t then some (.sn s (.v (.call n j xs) t [(0,pin)] [])) else none
 |_=>none
def qo8(f:AV→Option AV)(o:List (Nat×AV)):List (Nat×AV)→List (Nat×AV)→List (Nat×AV)
 |[],acc=>acc
 |e::l,acc=>match(lkA o e.1).bind f with
  |some y=>zr (qo8 f o l acc) e.1 y
  |none=>qo8 f o l acc
def z0e(n j:Nat)(xs:List X)(pin:Nat)(t:Ty)(q:Nat):AV→Option AV
 |.sn q' a=>if uB q' q then qpi n j xs pin t (.sn q' a) else none
 |_=>none
def z0f(n j:Nat)(xs:List X)(pin i:Nat)(t:Ty)(args:List Operand)(o acc:List (Nat×AV)):List (Nat×AV):=match args[i]? with
 | some (.tmp s) => (match lkA o s with
  |some (.sn q _)=>qo8 (z0e n j xs pin t q) o o acc
  |some x=>(match qpi n j xs pin t x with
   |some y=>zr acc s y
   |none=>acc)
  |none=>acc)
 |_=>acc
def qjk(n:Nat)(xs:List X)(args:List Operand)(o:List (Nat×AV)):List (Nat×Nat×Ty×List (Nat×Nat))→Nat→List (Nat×AV)→List (Nat×AV)
 |[],_,acc=>acc
 |(k,i,t,_)::l,j,acc=>qjk n xs args o l (j+1) (if vA MB k then(if qb6 t then z0f n j xs (k - MB) i t args o acc else qo8 (qpi n j xs (k - MB) t) o o acc) else acc)
def qdm(l:List (Nat×Nat×Ty×List (Nat×Nat))):List Nat:=(l.filter fun y=> !(vA MB y.1&&qb6 y.2.2.1)).map fun y=>q7l y.1
def inL(l:List Nat):Nat→Bool:=qr l
def qlf(σ:St)(cs:List (X×Bool))(y:Operand)(args:List Operand):Option (FuncId×List AV):=match opd σ cs y,opds σ cs args with
 |some (.fn f l),some r=>some (f,r++l)
 |some (.v x .fnv _ _),some r=>(match qq8 x with
  |some (.i n)=>if decide (0≤n) then some (n.toNat,r) else none
  |_=>none)
 |_,_=>none
def qtu(tbl:Tbl)(xs:List X)(fl:List (Nat×Nat×Ty))(t:Ty):Option X:=match fl with
  |[]=>none
  | (k, j, t') :: l => if Ty.beq t' t then (if uB k 999 then some (.lit (.b true)) else match xs[k]?, flX tbl t with
    |some x,some b=>some (leX b (q2l (.fld x j)))
    |_,_=>none) else qtu tbl xs l t
def qvv(tbl:Tbl)(xs:List X)(fl:List (Nat×Nat×Ty)):List Ty→Option (List X)
 |[]=>some []
 |t::l=>match qtu tbl xs fl t,qvv tbl xs fl l with
  |some x,some r=>some (x::r)
  |_,_=>none
def flC(tbl:Tbl)(ct:Ct)(xs:List X)(pass:List (Nat×Nat)):Option (List X):=match qi4 tbl with
 |[]=>some []
 |l=>if pass.isEmpty then some [] else qvv tbl xs ct.fl l
def q4j(ct:Ct)(pass:List (Nat×Nat)):List Nat:=(pass.filter fun y=> !qr ct.kp y.1).map (·.2)
def qdp(tbl:Tbl)(σ0:St)(cs:List (X×Bool))(k:Nat)(y:Operand)(args:List Operand):Option (List X×St):=
 let σ:=σ0.un (qg k)
 match qlf σ cs y args with
 | some (f, avs) => match q9a σ f avs tbl 0 with
  | some (n, ct, V) => match give σ V ct.all V with
   | some g =>
    let Z:=inL (q4j ct g.pass)
    let L:=inL ((q4j ct g.pass).filter fun x=> !qr (qdm g.vars) x)
    let ren:=g.pass++q61 ct.ar.length k ct.rs
    if ye (ren.map (·.1))&&(ye (ren.map (·.2))&&(g.dep.all (fun x=> !inL (g.pass.map (·.2)) x)&&(g.pass.all (fun y=> !Nat.beq (y.2 / 16) k&&(!Nat.beq y.2 q0d&&(jM (y.1 / 16) ct.ar.length||vA VB (y.1 / 16))))&&(q61 ct.ar.length k ct.rs).all fun y=>uB (y.2 / 16) k))) then
     (flC tbl ct g.xs g.pass).map fun fs=>(.ok n g.xs::fs,⟨zr (qjk n g.xs args σ.t g.vars ct.rs.length (q2h Z L σ.t)) k (qzv (qmw n g.xs g.dep k ct.rs 0)),q0f n g.xs g.dep g.vars ct.rs.length (q3i Z L σ.m)⟩)
    else none
   |none=>none
  |none=>none
 |none=>none
end Go.Proofs.Ytokkfpalbpnpeaa
