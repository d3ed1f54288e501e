/-
 Lemmas of the walk and plain laws, put together. No condition.
-/
import Derived.Test.YtbmaffphliignaaKa
namespace Go.Proofs.Ytbmaffphliignaa
open Go.RowKit
set_option linter.unusedVariables false
set_option linter.unusedSimpArgs false
set_option maxRecDepth 100000
open _root_.Go.Proofs.Try renaming prog→uA
open _root_.Nat renaming beq→uB,mul_le_mul_right→uC,zero_add→uE,add_mul→uO,add_sub_cancel_left→kH,le_refl→kI,add_zero→kK,ble→kY,le_trans→vA,zero_mul→vJ,one_mul→vK,div_mul_le_self→vN,eq_zero_or_pos→vO,beq_eq→vP,mod_eq_of_lt→vT,mul_le_mul→jA,sub_self→jE,mul_comm→jF,blt→jG,mul_pos→jH,mod_lt→jI
open _root_.List renaming getElem?_append_right→uD,getElem?_take_of_lt→uF,mem_append_right→uH,getElem?_append_left→uI,mem_append_left→uJ,size_toArray→uP,eq_nil_of_length_eq_zero→uR,getElem?_toArray→uU,length_append→uW,getElem?_eq_none→kA,mem_filter→kB,length_take→kC,getElem?_drop→kD,mem_cons_of_mem→kF,mem_cons_self→kG,replicate→kM,append_assoc→kO,length_cons→kQ,mem_map→kS,drop_eq_nil_of_le→kT,take_append_drop→kV,ext_getElem?→kZ,all_eq_true→vB,nil_append→vC,take_left→vF,getElem_replicate→vH,getElem_set_ne→vL,getElem_of_mem→vM,drop_append→vR,mem_append→vU,length_set→vV,append_inj→vW,mem_range→vX,drop_zero→vY,mem_cons→jB,map_cons→jC
open _root_.Option renaming bind_eq_some_iff→uG,isSome_iff_exists→uY,map_eq_some_iff→kP,isNone_iff_eq_none→vD
open Result renaming andThen_ok→uK
open Builtin renaming zeroCells→uL,append_→uM,firstCells→kX,lenOf→vE,nextslicecap→vG
open _root_.Array renaming getElem?_toList→uN,size_setIfInBounds→uS,length_toList→uT,getElem?_append_left→kE,getElem?_eq_some_iff→kL,size_append→kN,ext'→kR,range→kW
open _root_.Bool renaming not_eq_true'→uQ,or_eq_false_iff→uX,or_eq_true→kU,not_eq_false→vQ,not_eq_true→vS,false_or→jD
open Sem renaming run_bind→uV,run_pure→uZ,run→kJ
section
def qfp(p:z6)(x g:Nat):z6:=fun y=>if y=x then some g else p y
section
variable{A:Nat→Prop}{F:Flr}{p:z6}{w w0:World}{S0:Nat→Prop}
theorem q1q{x g:Nat}:qfp p x g x=some g:=if_pos rfl
theorem q9s{x g y:Nat}(h:y≠x):qfp p x g y=p y:=if_neg h
theorem q7h{x:Nat}(hx:p x=none)(bd:∀x b,p x=some b→b<w.heap.size)(o:Obj):Stab A no no p w (qfp p x w.heap.size) (w.alloc o):=by
 refine⟨by simp,fun b hb ha hf=>⟨by rw[hget,if_neg (by omega)],fun y hy=>?_⟩,fun y b _ hy=>?_,fun y b _ hy=>?_⟩
 ·by_cases hyx:y=x
  ·subst hyx;rw[q1q] at hy;injection hy with hy;omega
  ·rw[q9s hyx] at hy;exact hf y hy
 ·rw[q9s (fun e=>by rw[e,hx] at hy;cases hy)];exact hy
 ·have:=bd y b hy;rw[hget,if_neg (by omega)]
theorem qvw{x:Nat}(h:Bs A F w0 S0 p w){o:Obj}(ho:(∃cs T,o=.cells cs T)∨∃es clock,o=.map es clock):Bs A F w0 S0 (qfp p x w.heap.size) (w.alloc o):=by
 have hsz:w0.heap.size≤w.heap.size:=h.but.size;refine⟨fun y z b hy hz=>?_,fun y b hy=>?_,h.but.alloc _,fun y b hy=>?_,h.new,fun y b hy=>?_,fun y b hy=>?_,h.flo.same fun k hk _=>by rw[hget,if_neg (by omega)]⟩
 ·by_cases h1:y=x
  ·subst h1;rw[q1q] at hy;injection hy with hy;by_cases h2:z=y
   ·exact h2.symm
   ·rw[q9s h2] at hz;have:=h.bd z b hz;omega
  ·rw[q9s h1] at hy;by_cases h2:z=x
   ·subst h2;rw[q1q] at hz;injection hz with hz;have:=h.bd y b hy;omega
   ·rw[q9s h2] at hz;exact h.inj y z b hy hz
 ·by_cases h1:y=x
  ·subst h1;rw[q1q] at hy;injection hy with hy;simp;omega
  ·rw[q9s h1] at hy;have:=h.bd y b hy;simp;omega
 ·by_cases h1:y=x
  ·subst h1;rw[q1q] at hy;injection hy with hy;exact .inr (by omega)
  ·rw[q9s h1] at hy;exact h.pin y b hy
 ·by_cases h1:y=x
  ·subst h1;rw[q1q] at hy;injection hy with hy;exact(h.new b (by omega)).1
  ·rw[q9s h1] at hy;exact h.pa y b hy
 ·by_cases h1:y=x
  ·subst h1;rw[q1q] at hy;injection hy with hy;subst hy;rcases ho with⟨cs,T,rfl⟩|⟨es,clock,rfl⟩
   ·exact .inl ⟨cs,T,q3h rfl⟩
   ·exact .inr ⟨es,clock,q3h rfl⟩
  ·rw[q9s h1] at hy;have:=h.bd y b hy;rcases h.obj y b hy with⟨cs',T',h2⟩|⟨es,clock,h2⟩
   ·exact .inl ⟨cs',T',q2h h2⟩
   ·exact .inr ⟨es,clock,q2h h2⟩
theorem qey{x:Nat}(h:Bs A F w0 S0 p w)(cs:Array Value)(T:TypeId):Bs A F w0 S0 (qfp p x w.heap.size) (w.alloc (.cells cs T)):=qvw h (.inl ⟨cs,T,rfl⟩)
theorem q4r{x g:Nat}(inj:∀x y b,p x=some b→p y=some b→x=y)(hx:p x=some g)(cs:Array Value):Stab A (fun y=>uB y x) no p w p (w.setRow g cs):=by
 refine⟨by simp,fun b hb ha hf=>⟨setRow_other w g b cs (fun e=>hf x (by rw[e];exact hx)),hf⟩,fun y b _ hy=>hy,fun y b hz hy=>?_⟩;refine setRow_other w g b cs fun e=>?_;subst e;have:=inj y x b hy hx;simp[this] at hz
theorem q81{S:Nat→Prop}{g:Nat}(h:But S w0 w)(hg:S g∨w0.heap.size≤g)(cs:Array Value):But S w0 (w.setRow g cs):=
 ⟨h.os,h.tape,h.output,by simpa using h.size,fun k hk hn=>(setRow_other w g k cs (fun e=>by
  rcases hg with hS|hlt
  ·exact hn (e▸hS)
  ·omega)).trans (h.block k hk hn)⟩
def FlW(F:Flr)(w:World)(g:Nat)(cs:Array Value):Prop:=0<F.fl g→∀cur T,w.heap[g]? =some (.cells cur T (0,0))→cs.size=cur.size∧∀j,j<F.fl g→cs[j]? =cur[j]?
theorem Flo.setRow{g:Nat}(h:Flo F w0 w){cs:Array Value}(hf:FlW F w g cs):Flo F w0 (w.setRow g cs):=fun k hk=>by
 obtain⟨c0,c1,T,te,h1,h2,h3,h4,h5,h6,h7,h8⟩:=h k hk;by_cases e:k=g
 ·subst e;obtain⟨q1,q2⟩:=hf hk c1 T h6;exact⟨c0,cs,T,te,h1,h2,h3,h4,h5,setRow_heap w k c1 cs T _ h6,q1.trans h7,fun j hj=>(q2 j hj).trans (h8 j hj)⟩
 ·exact⟨c0,c1,T,te,h1,h2,h3,h4,h5,(setRow_other w g k cs e).trans h6,h7,h8⟩
theorem FlW.var{g:Nat}(h:Flo F w0 w){cur:Array Value}{T:TypeId}{t:Ty}(hg:w.heap[g]? =some (.cells cur T (0,0)))(hT:qy T=some t)(hs:cur.size=t.w)(hnv:nvB t=true→F.mx t=0)(cs:Array Value):FlW F w g cs:=fun hk=>by
 obtain⟨c0,c1,T',te,h1,h2,h3,h4,h5,h6,h7,h8⟩:=h g hk;rw[hg] at h6;injection h6 with h6;injection h6 with e1 e2;subst e1 e2;rw[hT] at h3;injection h3 with h3;subst h3;rcases h5 with h5|⟨h5,-⟩
 ·omega
 ·rw[hnv h5] at h4;omega
theorem FlW.one{g:Nat}(h:Flo F w0 w){u:Value}{T:TypeId}(hg:w.heap[g]? =some (.cells #[u] T (0,0)))(cs:Array Value):FlW F w g cs:=fun hk=>by
 obtain⟨c0,c1,T',te,h1,h2,h3,h4,h5,h6,h7,h8⟩:=h g hk;rw[hg] at h6;injection h6 with h6;injection h6 with e1 e2;subst e1;have:=q66 h3;have h7:(1:Nat)=c0.size:=h7;rcases h5 with h5|⟨h5,h9⟩
 ·omega
 ·have:=zjy h5;omega
theorem FlW.noTy{g:Nat}(h:Flo F w0 w){cur:Array Value}{T:TypeId}(hg:w.heap[g]? =some (.cells cur T (0,0)))(hT:qy T=none)(cs:Array Value):FlW F w g cs:=fun hk=>by
 obtain⟨c0,c1,T',te,h1,h2,h3,h4,h5,h6,h7,h8⟩:=h g hk;rw[hg] at h6;injection h6 with h6;injection h6 with e1 e2;subst e1 e2;rw[hT] at h3;cases h3
theorem FlW.above{g:Nat}(h:Flo F w0 w){cur:Array Value}{T:TypeId}{te:Ty}(hg:w.heap[g]? =some (.cells cur T (0,0)))(hT:qy T=some te){ob:Nat}(hob:F.mx te * te.w≤ob){cs:Array Value}(hs:cs.size=cur.size)(hk:∀j,j<ob→cs[j]? =cur[j]?):FlW F w g cs:=fun hk0 cur' T' hg'=>by
 obtain⟨c0,c1,T1,te',h1,h2,h3,h4,h5,h6,h7,h8⟩:=h g hk0;rw[hg] at h6 hg';injection h6 with h6;injection h6 with e1 e2;injection hg' with hg';injection hg' with e3 e4;subst e1 e2 e3 e4;obtain rfl:=gnI (hT.symm.trans h3);exact⟨hs,fun j hj=>hk j (by omega)⟩
theorem q61{x g:Nat}(h:Bs A F w0 S0 p w)(hx:p x=some g){cs:Array Value}(hfl:FlW F w g cs):Bs A F w0 S0 p (w.setRow g cs):=by
 refine⟨h.inj,fun y b hy=>by simpa using h.bd y b hy,q81 h.but (h.pin x g hx) cs,h.pin,h.new,h.pa,fun y b hy=>?_,h.flo.setRow hfl⟩;by_cases hb:b=g
 ·subst hb;rcases h.obj y b hy with⟨cs',T',h2⟩|⟨es,clock,h2⟩
  ·exact .inl ⟨cs,T',setRow_heap w b cs' cs T' _ h2⟩
  ·refine .inr ⟨es,clock,?_⟩;have hlt:b<w.heap.size:=(kL.1 h2).1;have hv:w.heap[b]=.map es clock:=(kL.1 h2).2;unfold World.setRow;rw[Array.getElem?_eq_getElem (by simpa using hlt),Array.getElem_modify];simp[hv]
 ·exact(h.obj y b hy).same (setRow_other w g b cs hb)
theorem Bs.no(h:Bs A F w0 S0 p w):Bs A .no w0 S0 p w:=⟨h.inj,h.bd,h.but,h.pin,fun b hb=>⟨(h.new b hb).1,trivial⟩,h.pa,h.obj,Flo.no⟩
theorem q65{T:TypeId}{t:Ty}(hT:qy T=some t){g o:Nat}{cur:Array Value}{T':TypeId}(hg:w.heap[g]? =some (.cells cur T' (0,0))){c0 c1 c2 c:List Value}(hc:cur.toList=c0++(c1++c2))(ho:c0.length=o)(h1:c1.length=c.length)
  {F:Nat→Prop}{d:D}(hd:Rd w F d t c){v:Value}(hp:j5 t c v):(Instr.storeAt T (.pointer (some ⟨g,o,none⟩)) v).run uA w=.ok () (w.setRow g (c0++(c++c2)).toArray):=by
 obtain⟨hl,hone⟩:=Rd.len d hd;have hcells:=hp.cells hone;obtain⟨i,hi,hsz,-⟩:=q4j hT;have hsize:cur.size=c0.length+(c1.length+c2.length):=by rw[←uT,hc];simp
 have hst:=run_storeCells_at uA g o T' c 0 cur w hg (by omega) hone;have e1:cur.toList.take (o+0)++c++cur.toList.drop (o+0+c.length)=c0++(c++c2):=by
  have e2:(c0++(c1++c2)).drop (c0.length+c.length)=c2:=by
   rw[←h1,←kO,←uW,List.drop_left]
  rw[hc,kK,←ho,vF,e2,kO]
 rw[e1] at hst;simp only[Instr.storeAt,Instr.sureAddr,uV,uZ,uK,storeVar,sizeOf,typeInfo,run_program,hi,hcells];rw[if_neg (by simp[hl,hsz])];exact hst
end
def qro(t:Ty)(own:List (Nat×Nat)):Option (Option Nat):=match t,own with
 |_,[]=>some none
 |.row _,[(0,pin)]=>some (some pin)
 |_,_=>none
def qex(x:X)(t:Ty)(own:List (Nat×Nat))(xv:X)(ownv:List (Nat×Nat)):List Nat→Option (X×List (Nat×Nat))
 |[]=>some (xv,ownv)
 | j :: path => match t with
  | .st S => match flds S with
   | some fs => match fs[j]? with
    | some t' => match qex (.fld x j) t' (qho (lkA own j)) xv ownv path with
     |some (xj,ownj)=>match qro t' ownj with
      |some o=>some (.set x j xj,q5r own j o)
      |none=>none
     |none=>none
    |none=>none
   |none=>none
  |_=>none
section
variable{A:Nat→Prop}{F:Flr}{p:z6}{w:World}{dep dep':List Nat}
theorem Fl.mono(hd:∀x∈dep,x∈dep'){o:Option Nat}{d:D}{t:Ty}{cs:List Value}(h:Fl A p w dep o d t cs):Fl A p w dep' o d t cs:=by
 cases o with
 |none=>exact Rd.mono (fun b _ hb=>hb.mono hd) h
 | some pin =>
  rcases h.symm with h|⟨E,te,l,v,e1,hte,e2,e3,hv⟩
  ·exact .inr h
  refine .inl ⟨E,te,l,v,e1,hte,e2,e3,?_⟩;rcases hv with hv|⟨g,cap,cur,e4,hg,hh,h1,h2,h3,h4,h5⟩
  ·exact .inl hv
  ·refine .inr ⟨g,cap,cur,e4,hg,hh,h1,h2,h3,h4,fun i hi=>?_⟩;obtain⟨cs,hr,hx⟩:=h5 i hi;exact⟨cs,hr,hx.mono fun b _ hb=>hb.mono hd⟩
theorem Fls.mono(hd:∀x∈dep,x∈dep'){own:List (Nat×Nat)}:∀{ds:List D}{j:Nat}{fs:List Ty}{cs:List Value},Fls A p w dep own j ds fs cs→Fls A p w dep' own j ds fs cs
 |[],_,_,_,h=>h
 |d::ds,j,fs,cs,⟨t,ts,c1,c2,e1,e2,h1,h2⟩=>⟨t,ts,c1,c2,e1,e2,Fl.mono hd h1,Fls.mono hd h2⟩
theorem Con.mono(hd:∀x∈dep,x∈dep'){own:List (Nat×Nat)}{d:D}{t:Ty}{cs:List Value}(h:Con A p w d t own dep cs):Con A p w d t own dep' cs:=by
 unfold Con at h⊢;split
 ·obtain⟨fs,ds,hf,e,h⟩:=h;exact⟨fs,ds,hf,e,Fls.mono hd h⟩
 ·rename_i hne;split at h
  ·rename_i T;exact absurd rfl (hne T)
  ·exact Fl.mono hd h
theorem Fls.congr{own own':List (Nat×Nat)}:∀{ds:List D}{n:Nat}{fs:List Ty}{cs:List Value},(∀i,n≤i→lkA own i=lkA own' i)→Fls A p w dep own n ds fs cs→Fls A p w dep own' n ds fs cs
 |[],_,_,_,_,h=>h
 |d::ds,n,fs,cs,he,⟨t,ts,c1,c2,e1,e2,h1,h2⟩=>⟨t,ts,c1,c2,e1,e2,by rw[←he n (kI _)];exact h1,Fls.congr (fun i hi=>he i (by omega)) h2⟩
theorem Fls.set{own own':List (Nat×Nat)}:∀{l:List D}{n:Nat}{fs:List Ty}{vs:List Value}{j:Nat}{t:Ty}{d:D}{c:List Value},Fls A p w dep own n l fs vs→fs[j]? =some t→Fl A p w dep (lkA own' (n+j)) d t c→(∀i,i≠n+j→lkA own' i=lkA own i)→
  ∃c0 c1 c2,vs=c0++(c1++c2)∧c0.length=offs fs j∧c1.length=t.w∧Fls A p w dep own' n (l.set j d) fs (c0++(c++c2))
 |[],n,fs,vs,j,t,d,c,⟨h1,h2⟩,hj,_,_=>by subst h1;simp at hj
 | x :: l, n, fs, vs, j, t, d, c, ⟨t0, ts, c1, c2, h1, h2, h3, h4⟩, hj, hd, hown => by
  subst h1 h2;have hlen:c1.length=t0.w:=(Rd.len x (h3.rd (dep':=dep++own.map (·.2)) (fun x hx=>uJ _ hx) (fun x hx=>uH _ (q6j hx)))).1;cases j with
  |zero=>
   simp at hj;subst hj;refine⟨[],c1,c2,rfl,by simp[q7p],hlen,t0,ts,c,c2,rfl,rfl,by simpa using hd,Fls.congr (fun i hi=>(hown i (by omega)).symm) h4⟩
  |succ j=>
   obtain⟨a0,a1,a2,e2,e3,e4,e5⟩:=Fls.set (own':=own') (d:=d) (c:=c) h4 (by simpa using hj) (by rw[show n+1+j=n+(j+1) by omega];exact hd) (fun i hi=>hown i (by omega));exact⟨c1++a0,a1,a2,by rw[e2];simp,by rw[uW,e3,hlen,q7y],e4,t0,ts,c1,a0++(c++a2),rfl,by simp,by rw[hown n (by omega)];exact h3,e5⟩
theorem Con.sup{t:Ty}{own:List (Nat×Nat)}{o:Option Nat}(hs:qro t own=some o){d:D}{cs:List Value}(h:Con A p w d t own dep cs):Fl A p w dep o d t cs:=by
 unfold qro at hs;split at hs
 ·injection hs with hs;subst hs;have:=h.rd (dep':=dep) (fun x hx=>hx) (fun x hx=>by cases hx);exact this
 ·injection hs with hs;subst hs;exact h
 ·cases hs
theorem Fl.thin{dep2:List Nat}{o:Option Nat}{d:D}{t:Ty}{cs:List Value}(hf:y6 8 t=true)(h:Fl A p w dep o d t cs):Fl A p w dep2 o d t cs:=by
 cases o with
 |none=>exact Rd.flat 8 _ hf h
 |some pin=>
  rcases h with⟨E,te,l,v,rfl,-⟩|⟨K,V,kt,vt,l,g,es,clock,rfl,-⟩<;>simp[y6] at hf
theorem Fls.thin{dep2:List Nat}{own:List (Nat×Nat)}:∀{l:List D}{n:Nat}{fs:List Ty}{vs:List Value},(∀t∈fs,y6 8 t=true)→Fls A p w dep own n l fs vs→Fls A p w dep2 own n l fs vs
 |[],n,fs,vs,_,h=>h
 |x::l,n,fs,vs,hf,⟨t0,ts,c1,c2,h1,h2,h3,h4⟩=>by
  subst h1;exact⟨t0,ts,c1,c2,rfl,h2,h3.thin (hf t0 kG),Fls.thin (fun t ht=>hf t (kF _ ht)) h4⟩
theorem Fls.set2{dep2:List Nat}{own own':List (Nat×Nat)}:∀{l:List D}{n:Nat}{fs:List Ty}{vs:List Value}{j:Nat}{t:Ty}{d:D}{c:List Value},(∀i t,i≠j→fs[i]? =some t→y6 8 t=true)→Fls A p w dep own n l fs vs→fs[j]? =some t→Fl A p w dep2 (lkA own' (n+j)) d t c→(∀i,i≠n+j→lkA own' i=lkA own i)→
  ∃c0 c1 c2,vs=c0++(c1++c2)∧c0.length=offs fs j∧c1.length=t.w∧Fls A p w dep2 own' n (l.set j d) fs (c0++(c++c2))
 |[],n,fs,vs,j,t,d,c,_,⟨h1,h2⟩,hj,_,_=>by subst h1;simp at hj
 | x :: l, n, fs, vs, j, t, d, c, hf, ⟨t0, ts, c1, c2, h1, h2, h3, h4⟩, hj, hd, hown => by
  subst h1 h2;have hlen:c1.length=t0.w:=(Rd.len x (h3.rd (dep':=dep++own.map (·.2)) (fun x hx=>uJ _ hx) (fun x hx=>uH _ (q6j hx)))).1;cases j with
  |zero=>
   simp at hj;subst hj;refine⟨[],c1,c2,rfl,by simp[q7p],hlen,t0,ts,c,c2,rfl,rfl,by simpa using hd,Fls.congr (fun i hi=>(hown i (by omega)).symm) (Fls.thin (fun t ht=>?_) h4)⟩;obtain⟨i,hi,rfl⟩:=vM ht;exact hf (i+1) _ (by omega) (by simp)
  |succ j=>
   obtain⟨a0,a1,a2,e2,e3,e4,e5⟩:=Fls.set2 (j:=j) (own':=own') (d:=d) (c:=c) (fun i t hi ht=>hf (i+1) t (by omega) (by simpa using ht)) h4 (by simpa using hj) (by rw[show n+1+j=n+(j+1) by omega];exact hd) (fun i hi=>hown i (by omega));exact⟨c1++a0,a1,a2,by rw[e2];simp,by rw[uW,e3,hlen,q7y],e4,t0,ts,c1,a0++(c++a2),rfl,by simp,by rw[hown n (by omega)];exact h3.thin (hf 0 t0 (by omega) rfl),e5⟩
theorem q7f.past{own:List (Nat×Nat)}{dep2:List Nat}(hd:∀x∈dep,x∈dep2){J:Nat}{own':List (Nat×Nat)}(ho:∀i,i≠J→lkA own' i=lkA own i):∀{l:List D}{n:Nat}{fs:List Ty}{vs:List Value},J<n→q7f A p w dep own J n l fs vs→Fls A p w dep2 own' n l fs vs
 |[],_,_,_,_,h=>h
 |d::l,n,fs,vs,hn,⟨t,ts,c1,c2,e1,e2,_,h1,h2⟩=>⟨t,ts,c1,c2,e1,e2,by rw[ho n (by omega)];exact(h1 (by omega)).mono hd,q7f.past hd ho (by omega) h2⟩
theorem q7f.set{own own':List (Nat×Nat)}{dep2:List Nat}(hd:∀x∈dep,x∈dep2):∀{l:List D}{n:Nat}{fs:List Ty}{vs:List Value}{j:Nat}{t:Ty}{d:D}{c:List Value},q7f A p w dep own (n+j) n l fs vs→fs[j]? =some t→Fl A p w dep2 (lkA own' (n+j)) d t c→(∀i,i≠n+j→lkA own' i=lkA own i)→
  ∃c0 c1 c2,vs=c0++(c1++c2)∧c0.length=offs fs j∧c1.length=t.w∧Fls A p w dep2 own' n (l.set j d) fs (c0++(c++c2))
 |[],n,fs,vs,j,t,d,c,⟨h1,h2⟩,hj,_,_=>by subst h1;simp at hj
 | x :: l, n, fs, vs, j, t, d, c, ⟨t0, ts, c1, c2, h1, h2, hl, h3, h4⟩, hj, hx, hown => by
  subst h1 h2;cases j with
  |zero=>
   simp at hj;subst hj;exact⟨[],c1,c2,rfl,by simp[q7p],hl,t0,ts,c,c2,rfl,rfl,by simpa using hx,q7f.past hd (J:=n) (fun i hi=>hown i (by omega)) (by omega) (by simpa using h4)⟩
  |succ j=>
   obtain⟨a0,a1,a2,e2,e3,e4,e5⟩:=q7f.set hd (j:=j) (own':=own') (d:=d) (c:=c) (by rw[show n+1+j=n+(j+1) by omega];exact h4) (by simpa using hj) (by rw[show n+1+j=n+(j+1) by omega];exact hx) (fun i hi=>hown i (by omega));exact⟨c1++a0,a1,a2,by rw[e2];simp,by rw[uW,e3,hl,q7y],e4,t0,ts,c1,a0++(c++a2),rfl,by simp,by rw[hown n (by omega)];exact(h3 (by omega)).mono hd,e5⟩
theorem qmr{c:Cx}:∀(path:List Nat){x x' xv:X}{t tv:Ty}{own own' ownv ov:List (Nat×Nat)}{o:Nat}{vs cs:List Value}{xo:X},qex x t own xv ownv path=some (x',own')→q3w x t own path=some (xo,tv,ov,o)→
  Con c.A p w (x.ev c.v) t own dep vs→Con c.A p w (xv.ev c.v) tv ownv dep cs→
  ∃c0 c1 c2,vs=c0++(c1++c2)∧c0.length=o∧c1.length=cs.length∧Con c.A p w (x'.ev c.v) t own' dep (c0++(cs++c2))
 |[],x,x',xv,t,tv,own,own',ownv,ov,o,vs,cs,xo,h,ha,hc,hv=>by
  simp only[qex,gnS] at h;simp only[q3w,gnS] at ha;obtain⟨rfl,rfl⟩:=h;obtain⟨rfl,rfl,rfl,rfl⟩:=ha;exact⟨[],vs,[],by simp,rfl,by rw[hc.len.1,hv.len.1],by simpa using hv⟩
 | j :: path, x, x', xv, t, tv, own, own', ownv, ov, o, vs, cs, xo, h, ha, hc, hv => by
  unfold qex at h;unfold q3w at ha;split at h
  ·rename_i S;split at h
   ·rename_i fs hfs;simp only[hfs] at ha;split at h
    ·rename_i tj hj;simp only[hj] at ha;split at h
     ·rename_i xj ownj hr;split at h
      ·rename_i oj hoj;simp only[gnS] at h;obtain⟨rfl,rfl⟩:=h;split at ha
       ·rename_i x1 t1 own1 o1 hra;simp only[gnS] at ha;obtain⟨rfl,rfl,rfl,rfl⟩:=ha;obtain⟨c0,c1,c2,rfl,hl,hfl⟩:=hc.get hfs hj;obtain⟨b0,b1,b2,rfl,hl',hl2,hcc⟩:=qmr path hr hra (Con.sub hfl) hv;obtain⟨fs',ds,hf',hds,hfls⟩:=hc;obtain rfl:=gnI (hf'.symm.trans hfs);obtain⟨e0,e1,e2,q1,q2,q3,q4⟩:=Fls.set (own':=q5r own j oj) (d:=xj.ev c.v) (c:=b0++(cs++b2)) hfls hj (by rw[uE,q46,if_pos rfl];exact Con.sup hoj hcc) (fun i hi=>by rw[uE] at hi;rw[q46,if_neg hi]);have hlb:(b0++(b1++b2)).length=tj.w:=by
         have:=hcc.len.1;simp only[uW] at this⊢;omega
        have hce:c0=e0∧(b0++(b1++b2))++c2=e1++e2:=vW q1 (by rw[hl,q2]);obtain⟨rfl,q5⟩:=hce;have hce2:b0++(b1++b2)=e1∧c2=e2:=vW q5 (by rw[hlb,q3]);obtain⟨rfl,rfl⟩:=hce2;refine⟨c0++b0,b1,b2++c2,by simp,by simp[hl,hl'],hl2,_,_,hfs,rfl,?_⟩;have:(x.ev c.v).fs=ds:=by rw[hds];rfl
        rw[this];simpa using q4
       ·cases ha
      ·cases h
     ·cases h
    ·cases h
   ·cases h
  ·cases h
end
end
section
def zh(k:Nat):Nat→Bool:=fun x=>uB (x / 16) k
def q2s(x:Nat):Nat→Bool:=fun y=>uB y x
def yk(l:List Nat)(x:Nat):Bool:=l.any fun y=>uB y x
def uni(l m:List Nat):List Nat:=l++m.filter fun y=> !yk l y
theorem yz{l:List Nat}{x:Nat}:yk l x=true↔x∈l:=by
 simp[yk]
theorem q2m{l m:List Nat}{x:Nat}(h:x∈l):x∈uni l m:=uJ _ h
theorem q5f{l m:List Nat}{x:Nat}(h:x∈m):x∈uni l m:=by
 unfold uni;cases hl:yk l x with
 |true=>exact uJ _ (yz.1 hl)
 |false=>exact uH _ (kB.2 ⟨h,by simp[hl]⟩)
theorem zgq{l m:List Nat}{x:Nat}(h:x∈uni l m):x∈l∨x∈m:=by
 rcases vU.1 h with h|h
 ·exact .inl h
 ·exact .inr (kB.1 h).1
def q5h(t:Ty):AV→Option (X×List (Nat×Nat)×List Nat)
 |.v x t' own dep=>if Ty.beq t' t then some (x,own,dep) else none
 |.pt _ _ _ (.v x t' own dep)=>if Ty.beq t' t then some (x,own,dep) else none
 |.nilS=>match t with
  |.row E=>if(qy E).isSome then some (.lit (.r []),[],[]) else none
  |_=>none
 |_=>none
def z3s(t:Ty)(a:AV):Option (X×List (Nat×Nat)×List Nat):=match t,a with
 |.row E,.nilS=>if qlu E&&(qy E).isSome then some (.lit .u,[],[]) else q5h (.row E) .nilS
 |t,a=>q5h t a
def z2m(k:Nat)(path:List Nat)(t:Ty)(x:AV):Option (X×List (Nat×Nat)×List Nat):=match x,path,t with
 |.nilS,[],.row E=>if(qy E).isSome then some (.lit (.r []),[(0,k * 16+1)],[]) else none
 |.nilS,[j],.row E=>if(qy E).isSome then some (.lit (.r []),[(0,k * 16+1+j)],[]) else none
 |x,_,t=>q5h t x
def qen(t:Ty):X:=.lit (q5y 8 t)
def rowsOf(k:Nat):List Ty→Nat→List (Nat×Nat)
 |[],_=>[]
 |.row _::l,j=>(j,k * 16+1+j)::rowsOf k l (j+1)
 |_::l,j=>rowsOf k l (j+1)
def zw(k:Nat)(t:Ty):List (Nat×Nat):=match t with
 |.row _=>[(0,k * 16+1)]
 |.map _ _=>[(0,k * 16+1)]
 |.st S=>match flds S with
  |some fs=>rowsOf k fs 0
  |none=>[]
 |_=>[]
def qfy(t:Ty):Bool:=match t with
 |.row E=>(match qy E with|some te=>y6 8 te|none=>false)
 |.st S=>(match flds S with
  |some fs=>fs.all fun u=>y6 8 u||(match u with|.row E=>(match qy E with|some te=>y6 8 te|none=>false)|_=>false)
  |none=>false)
 |.fnv=>false
 |_=>true
def qpx(t:Ty)(own:List (Nat×Nat)):Bool:=(zw 0 t).all fun e=>(lkA own e.1).isSome
def depC(t:Ty)(own:List (Nat×Nat))(l:List Nat):List Nat:=if y6 8 t||(qpx t own&&qfy t) then[] else l
theorem qq8{t:Ty}(h:(qb4 t||qpi t)=true):qfy t=true∧∀k,zw k t=[(0,k * 16+1)]:=by
 cases t with
 |map K V=>exact⟨rfl,fun k=>rfl⟩
 |row E=>exact⟨h,fun k=>rfl⟩
 |_=>cases h
section
variable{A:Nat→Prop}{F:Flr}{p:z6}{w:World}{dep:List Nat}
theorem qwp:∀{fs:List Ty}{k n j:Nat}{E:TypeId},fs[j]? =some (.row E)→lkA (rowsOf k fs n) (n+j)=some (k * 16+1+(n+j))
 |[],k,n,j,E,h=>by simp at h
 |t::ts,k,n,0,E,h=>by
  simp at h;subst h;simp only[rowsOf,kK];exact qb
 |t::ts,k,n,j+1,E,h=>by
  have:=qwp (k:=k) (n:=n+1) (j:=j) (fs:=ts) (E:=E) (by simpa using h);rw[show n+1+j=n+(j+1) by omega] at this;cases t<;>first|exact this|(simp only[rowsOf];rw[qf (by omega)];exact this)
theorem Con.flat1{t:Ty}{k:Nat}{own:List (Nat×Nat)}(hown:∀j,lkA (zw k t) j≠none→lkA own j≠none){d:D}{cs:List Value}(h:Con A p w d t own dep cs)(hf:qfy t=true):Con A p w d t own [] cs:=by
  cases t with
  | st S =>
    obtain⟨fs,ds,hfs,e,h⟩:=h;refine⟨fs,ds,hfs,e,?_⟩;simp only[qfy,hfs] at hf;have hrow:∀j E,fs[j]? =some (.row E)→lkA own j≠none:=fun j E hj=>hown j (by
      simp only[zw,hfs];have:=qwp (k:=k) (n:=0) hj;rw[uE] at this;rw[this];simp)
    have key:∀{ds:List D}{n:Nat}{fs:List Ty}{cs:List Value},(fs.all fun u=>y6 8 u||(match u with|.row E=>(match qy E with|some te=>y6 8 te|none=>false)|_=>false))=true→(∀j E,fs[j]? =some (.row E)→lkA own (n+j)≠none)→Fls A p w dep own n ds fs cs→Fls A p w [] own n ds fs cs:=by
      intro ds
      induction ds with
      |nil=>intro n fs cs _ _ h;exact h
      | cons d ds ih =>
        rintro n fs cs hall hr⟨t,ts,c1,c2,rfl,rfl,h1,h2⟩;simp only[List.all_cons,gnB] at hall;refine⟨t,ts,c1,c2,rfl,rfl,h1.flat1 ?_,ih hall.2 (fun j E hj=>by have:=hr (j+1) E (by simpa using hj);rwa [show n+(j+1)=n+1+j by omega] at this) h2⟩;rcases Bool.or_eq_true_iff.1 hall.1 with h|h
        · exact .inl h
        · right;cases t with
          | row E =>
            simp only at h;split at h
            · rename_i te hte;exact⟨by have:=hr 0 E rfl;simpa using this,E,te,rfl,hte,h⟩
            · cases h
          |_=>cases h
    exact key hf (fun j E hj=>by rw[uE];exact hrow j E hj) h
  | row E =>
    simp only[qfy] at hf;split at hf
    · rename_i te hte;have h':Fl A p w dep (lkA own 0) d (.row E) cs:=h;exact h'.flat1 (.inr ⟨hown 0 (by simp[zw,lkA]),E,te,rfl,hte,hf⟩)
    · cases hf
  |fnv=>cases hf
  |int m=>exact h.flatT rfl
  |bool=>exact h.flatT rfl
  |str=>exact h.flatT rfl
  | map K V =>
    have h':Fl A p w dep (lkA own 0) d (.map K V) cs:=h
    show Fl A p w [] (lkA own 0) d (.map K V) cs
    cases ho:lkA own 0 with
    |none=>exact absurd ho (hown 0 (by simp[zw,lkA]))
    | some x =>
      rw[ho] at h';rcases h' with⟨E,te,l,v,e,-⟩|h'
      · cases e
      · exact .inr h'
theorem Con.depC{t:Ty}{own:List (Nat×Nat)}{d:D}{cs:List Value}(h:Con A p w d t own dep cs):Con A p w d t own (depC t own dep) cs:=by
 unfold Proofs.Ytbmaffphliignaa.depC;split
 ·rename_i hok;cases hf:y6 8 t with
  |true=>exact h.flatT hf
  |false=>
   rw[hf] at hok;simp only[jD,gnB] at hok;refine h.flat1 (k:=0) (fun j hj=>?_) hok.2;obtain⟨x,hx⟩:=Option.ne_none_iff_exists'.1 hj;have:=vB.1 hok.1 _ (q0y hx);obtain⟨y,hy⟩:=uY.1 this;have hy':lkA own j=some y:=hy;rw[hy'];exact fun e=>by cases e
 ·exact h
end
def z0c(P:Program)(T:TypeId):Bool:=match P.info? T with
 |some i=>(match i.zero with
  |some .nilFunc=>true
  |some (.pointer none)=>true
  |some (.map none)=>true
  |_=>false)
 |none=>false
theorem zcl{T:TypeId}(h:z0c uA T=true)(w:World):∃v,(zeroValue T).run uA w=.ok v w∧v.cells= #[v]:=by
 unfold z0c at h;split at h
 ·rename_i i hi;split at h
  ·rename_i hz;exact⟨.nilFunc,by simp[zeroValue,typeInfo,hi,hz],rfl⟩
  ·rename_i hz;exact⟨.pointer none,by simp[zeroValue,typeInfo,hi,hz],rfl⟩
  ·rename_i hz;exact⟨.map none,by simp[zeroValue,typeInfo,hi,hz],rfl⟩
  ·cases h
 ·cases h
def zal(P:Program)(T:TypeId):Option Nat:=match P.info? T with
 |some i=>(match i.zero with
  |some (.agg zc)=>if uB zc.size i.size then some i.size else none
  |_=>none)
 |none=>none
theorem z9t{T:TypeId}{n:Nat}(h:zal uA T=some n)(w:World):∃zc,(zeroValue T).run uA w=.ok (.agg zc) w∧zc.size=n∧∃i,uA.info? T=some i∧i.size=n:=by
 unfold zal at h;split at h
 ·rename_i i hi;split at h
  ·rename_i zc hz;split at h
   ·rename_i hs;injection h with h;subst h;exact⟨zc,by simp[zeroValue,typeInfo,hi,hz],gnN hs,i,hi,rfl⟩
   ·cases h
  ·cases h
 ·cases h
def qxl(P:Program)(σ:St)(k:Nat)(T:TypeId):Option St:=match qy T with
 |some t=>if qb4 t then(if z0c P T then some ⟨q0a (σ.un (zh k)).t k (.bx k T .any),(σ.un (zh k)).m⟩ else none) else some ⟨q0a (σ.un (zh k)).t k (.ref k [] 0 t),q0a (σ.un (zh k)).m k ⟨qen t,t,zw k t,[]⟩⟩
 |none=>if z0c P T then some ⟨q0a (σ.un (zh k)).t k (.bx k T .any),(σ.un (zh k)).m⟩ else match zal P T with
  |some n=>some ⟨q0a (σ.un (zh k)).t k (.ax k T n .any),(σ.un (zh k)).m⟩
  |none=>none
def z77:AV→Bool
 |.ref _ _ _ _=>true
 |.rd _ _ _ _=>true
 |.nilP=>true
 |.fn _ _=>true
 |.bx _ _ _=>true
 |.sn _ a=>z77 a
 |_=>false
theorem qks{c:Cx}{p:z6}{w:World}:∀(y:AV){v:Value},z77 y=true→y.pd c p w v→v.cells= #[v]∧v.oneCell'=true
 |.ref _ _ _ _,v,_,hy=>by obtain⟨g,-,rfl,-⟩:=hy;exact⟨rfl,rfl⟩
 |.rd _ _ _ _,v,_,hy=>by obtain⟨b,o,cs,rfl,-⟩:=hy;exact⟨rfl,rfl⟩
 |.nilP,v,_,hy=>by obtain rfl:v=.pointer none:=hy;exact⟨rfl,rfl⟩
 |.fn _ _,v,_,hy=>by obtain⟨vs,rfl,-⟩:=hy;exact⟨rfl,rfl⟩
 |.bx _ _ _,v,_,hy=>by obtain⟨g,u,-,rfl,-⟩:=hy;exact⟨rfl,rfl⟩
 |.sn _ a,v,h,hy=>qks a h hy.2
 |.any,_,h,_=>by cases h
 |.undef,_,h,_=>by cases h
 |.v _ _ _ _,_,h,_=>by cases h
 |.nilS,_,h,_=>by cases h
 |.tup _,_,h,_=>by cases h
 |.gd _ _,_,h,_=>by cases h
 |.nb _ _,_,h,_=>by cases h
 |.fr _ _,_,h,_=>by cases h
 |.ff _ _ _ _ _ _ _ _,_,h,_=>by cases h
 |.pt _ _ _ _,_,h,_=>by cases h
 |.ar _ _ _,_,h,_=>by cases h
 |.lv _ _,_,h,_=>by cases h
 |.wf _ _ _ _ _ _ _,_,h,_=>by cases h
 |.el _ _ _ _,_,h,_=>by cases h
 |.hd _ _ _,_,h,_=>by cases h
 |.ax _ _ _ _,_,h,_=>by cases h
theorem qt3{c:Cx}{p:z6}{w:World}{y:AV}{v:Value}(h:z77 y=true)(hy:y.pd c p w v):v.cells= #[v]:=(qks y h hy).1
theorem z9u{c:Cx}{p:z6}{w:World}{y:AV}{v:Value}(h:z77 y=true)(hy:y.pd c p w v):v.oneCell'=true:=(qks y h hy).2
def zig(σ:St)(cs:List (X×Bool))(y:Operand):Option AV:=match y with
 |.tmp t=>(match lkA σ.t t with
  |some (.sn q a)=>some (.sn q a)
  |_=>opd σ cs y)
 |_=>opd σ cs y
theorem zfp{c:Cx}{p:z6}{w:World}{a:Act}{σ:St}{cs:List (X×Bool)}(hf:SF c σ p w a)(hc:hold c.v cs=true){y:Operand}{x:AV}(h:zig σ cs y=some x):x.pd c p w (a.eval y):=by
 unfold zig at h;split at h
 ·rename_i t;split at h
  ·rename_i q b hq;injection h with h;subst h;obtain⟨v,h1,h2⟩:=hf.t t _ hq;have:a.eval (.tmp t)=v:=by
    show a.tmps.getD t undef=v
    rw[Array.getD_eq_getD_getElem?,h1];rfl
   rw[this];exact h2
  ·exact z4 hf hc h
 ·exact z4 hf hc h
def zc1(σ:St)(cs:List (X×Bool))(k:Nat)(T:TypeId)(y:Operand):Option St:=match qy T with
 |some t=>match(opd (σ.un (zh k)) cs y).bind (q5h t) with
  |some (x,own,dep)=>some ⟨q0a (σ.un (zh k)).t k (.ref k [] 0 t),q0a (σ.un (zh k)).m k ⟨x,t,own,dep⟩⟩
  |none=>none
 |none=>match zig (σ.un (zh k)) cs y with
  |some a=>if z77 a then some ⟨q0a (σ.un (zh k)).t k (.bx k T a),(σ.un (zh k)).m⟩ else none
  |none=>none
def z25(t:Ty)(path:List Nat):Bool:=match t,path with
  | .st S, [j] => (match flds S with
    | some fs => (List.range fs.length).all fun i => uB i j || (match fs[i]? with
      |some t=>y6 8 t
      |none=>true)
    |none=>false)
  |_,_=>false
def qf0(σ:St)(k:Nat)(path:List Nat)(o:Nat)(t:Ty)(xv:X)(ownv:List (Nat×Nat))(depv:List Nat):Option St:=match lkA σ.m k with
 |some e=>match q3w e.x e.t e.own path,qex e.x e.t e.own xv ownv path with
  | some (_, t', _, o'), some (x', own') => if Ty.beq t' t && (uB o' o && !yk (own'.map (·.2) ++ uni e.dep depv) (k * 16)) then
    some ⟨q9i (q2s (k * 16)) no σ.t,q0a (qbp (q2s (k * 16)) no σ.m) k ⟨x',e.t,own',depC e.t own' (if z25 e.t path then depv else uni e.dep depv)⟩⟩ else none
  |_,_=>none
 |none=>none
def qhn(σ:St)(k:Nat)(path:List Nat)(o:Nat)(t:Ty)(xv:X)(ownv:List (Nat×Nat))(depv:List Nat):Option St:=qf0 σ k path o t xv ownv (depC t ownv depv)
def z81(i:X)(te:Ty)(path:List Nat)(xv xr:X):Option X:=match qex (.get xr i) te [] xv [] path with
 |some (xe,[])=>some (.put xr i xe)
 |_=>none
def qwf(E:TypeId)(te:Ty):Bool:=match qy E with
 |some t=>Ty.beq t te
 |none=>false
def qm5(pin:Nat)(i:X)(te:Ty)(path:List Nat)(xv:X)(depv:List Nat)(x:X)(t:Ty)(own:List (Nat×Nat))(dep:List Nat):Option (X×List Nat):=
 if yk dep pin|| !q40 own then none else match own.filter fun e=>uB e.2 pin with
  |[]=>some (x,dep)
  | [(j, _)] => match t with
   |.row E=>if qwf E te&&uB j 0 then(z81 i te path xv x).map fun x'=>(x',uni dep depv) else none
   | .st S => match flds S with
    |some fs=>match fs[j]? with
     |some (.row E)=>if qwf E te then(z81 i te path xv (.fld x j)).map fun x'=>(.set x j x',uni dep depv) else none
     |_=>none
    |none=>none
   |_=>none
  |_=>none
def zc9(pin:Nat)(i:X)(te:Ty)(path:List Nat)(xv:X)(depv:List Nat):AV→AV
 |.v x t own dep=>match qm5 pin i te path xv depv x t own dep with
  |some (x',dep')=>.v x' t own dep'
  |none=>.any
 |.sn q (.v x t own dep)=>match qm5 pin i te path xv depv x t own dep with
  |some (x',dep')=>.sn q (.v x' t own dep')
  |none=>.any
 |a=>if okA (q2s pin) no a then a else .any
def z2z(pin:Nat)(i:X)(te:Ty)(path:List Nat)(xv:X)(depv:List Nat):List (Nat×Ent)→List (Nat×Ent)
  |[]=>[]
  | (k, e) :: l => match qm5 pin i te path xv depv e.x e.t e.own e.dep with
    |some (x',dep')=>if uB (k * 16) pin then(z2z pin i te path xv depv l).filter (fun y=>y.1 !=k) else(k,⟨x',e.t,e.own,dep'⟩)::z2z pin i te path xv depv l
    |none=>(z2z pin i te path xv depv l).filter fun y=>y.1 !=k
def qko(σ:St)(pin:Nat)(i:X)(path:List Nat)(q:Nat)(te t:Ty)(xv:X)(ownv:List (Nat×Nat))(depv:List Nat):Option St:=
 match q3w (.lit .u) te [] path with
 |some (_,t',_,q')=>if Ty.beq t' t&&(uB q' q&&(ownv.isEmpty&& !yk depv pin)) then some ⟨σ.t.map fun e=>(e.1,zc9 pin i te path xv depv e.2),z2z pin i te path xv depv σ.m⟩ else none
 |none=>none
mutual
/-- A value that holds a pointer to the variable k itself: known by its number alone. -/
def keyed(k:Nat):AV→AV
 |.bx k' T a=>if uB k' k then .ref k [] 0 (.int .i64) else .bx k' T a
 |.fn f l=>.fn f (keyeds k l)
 |a=>a
def keyeds(k:Nat):List AV→List AV
 |[]=>[]
 |a::l=>keyed k a::keyeds k l
end
mutual
theorem z0o{c:Cx}{p:z6}{w:World}{k:Nat}:∀(a:AV){v:Value},a.pd c p w v→(keyed k a).pd c p w v
 | .bx k' T a, v, h => by
  unfold keyed;split
  ·rename_i hk;have hk:=gnN hk;subst hk;obtain⟨g,u,⟨hg,hat⟩,e,-⟩:=h;exact⟨g,hg,e,hat⟩
  ·exact h
 |.fn f l,v,⟨vs,e,h⟩=>⟨vs,e,qx3 l h⟩
 |.any,v,h=>h
 |.undef,v,h=>h
 |.v _ _ _ _,v,h=>h
 |.nilS,v,h=>h
 |.nilP,v,h=>h
 |.ref _ _ _ _,v,h=>h
 |.rd _ _ _ _,v,h=>h
 |.tup _,v,h=>h
 |.gd _ _,v,h=>h
 |.nb _ _,v,h=>h
 |.fr _ _,v,h=>h
 |.ff _ _ _ _ _ _ _ _,v,h=>h
 |.sn _ _,v,h=>h
 |.pt _ _ _ _,v,h=>h
 |.ar _ _ _,v,h=>h
 |.lv _ _,v,h=>h
 |.wf _ _ _ _ _ _ _,v,h=>h
 |.el _ _ _ _,v,h=>h
 |.hd _ _ _,v,h=>h
 |.ax _ _ _ _,v,h=>h
theorem qx3{c:Cx}{p:z6}{w:World}{k:Nat}:∀(l:List AV){vs:List Value},pds c p w l vs→pds c p w (keyeds k l) vs
 |[],vs,h=>h
 |a::l,vs,⟨v,r,e,h1,h2⟩=>⟨v,r,e,z0o a h1,qx3 l h2⟩
end
def zgk(P:Program)(T:TypeId):Bool:=match P.info? T with
 |some i=>uB i.size 1
 |none=>false
def qn3(P:Program)(σ:St)(k:Nat)(T:TypeId)(x:AV):Option St:=
 if z77 x&&(zgk P T&&okA (q2s (k * 16)) no (keyed k x)) then(match lkA σ.t k with
  |some (.bx k' T' _)=>if uB k' k&&uB T' T then some ⟨q0a (q9i (q2s (k * 16)) no σ.t) k (.bx k T (keyed k x)),qbp (q2s (k * 16)) no σ.m⟩ else none
  |_=>none) else none
def qm8(σ:St)(k:Nat)(T:TypeId)(t:Ty)(x:AV):Option St:=match lkA σ.t k,q5h t x with
 |some (.bx k' T' _),some (xv,own,dep)=>if uB k' k&&(uB T' T&& !yk (own.map (·.2)++dep) (k * 16)) then some ⟨q0a (q9i (q2s (k * 16)) no σ.t) k (.ref k [] 0 t),q0a (qbp (q2s (k * 16)) no σ.m) k ⟨xv,t,own,dep⟩⟩ else none
 |_,_=>none
def unlv(k:Nat)(t:Ty):AV→AV
 |.lv k' t'=>if uB k' k then .ref k [] 0 t else .lv k' t'
 |a=>a
def qmh(σ:St)(k:Nat)(t:Ty)(xv:X)(own:List (Nat×Nat))(dep:List Nat):Option St:=if nvB t then none else
 if yk (own.map (·.2)++dep) (k * 16) then none else some ⟨q9i (q2s (k * 16)) no (σ.t.map fun e=>(e.1,unlv k t e.2)),q0a (qbp (q2s (k * 16)) no σ.m) k ⟨xv,t,own,dep⟩⟩
def qmt(P:Program)(σ:St)(k:Nat)(T:TypeId)(n:Nat)(E:TypeId)(xs:List X)(dep:List Nat):Option St:=
 match P.info? T,qy E,lkA σ.t k with
 | some i, some te, some (.ax k' T' n' _) => if uB i.size n && (uB (xs.length * te.w) n && (uB k' k && (uB T' T && (uB n' n && (!yk dep (k * 16) && (qy T).isNone))))) then
   some ⟨q0a (q9i (q2s (k * 16)) no σ.t) k (.ax k T n (.ar E xs dep)),qbp (q2s (k * 16)) no σ.m⟩ else none
 |_,_,_=>none
def zbm(T:List (Nat×AV))(k j:Nat):List (Nat×AV)→Option (X×Ty×List (Nat×Nat)×List Nat)
  |[]=>none
  | (s, _) :: l => match lkA T s with
    |some (.wf k' j' x t own dep _)=>if uB k' k&&uB j' j then some (x,t,own,dep) else zbm T k j l
    |_=>zbm T k j l
def qu0(σ:St)(k:Nat)(path:List Nat)(o:Nat)(t:Ty)(xv:X)(ownv:List (Nat×Nat))(depv:List Nat):Option St:=match path,ownv with
 | [j], _ :: _ => (match zbm σ.t k j σ.t with
  | some (x0, .st S, own0, dep0) => (match flds S with
   |some fs=>(match fs[j]?,qro t ownv with
    | some t', some oj => if Ty.beq t' t && (uB (offs fs j) o && (!nvB (.st S) && !yk ((q5r own0 j oj).map (·.2) ++ uni dep0 depv) (k * 16))) then
      some ⟨q9i (q2s (k * 16)) no σ.t,q0a (qbp (q2s (k * 16)) no σ.m) k ⟨.set x0 j xv,.st S,q5r own0 j oj,depC (.st S) (q5r own0 j oj) (uni dep0 depv)⟩⟩ else none
    |_,_=>none)
   |none=>none)
  |_=>none)
 |_,_=>none
def qfo(σ:St)(k:Nat)(path:List Nat)(o:Nat)(t:Ty)(xv:X)(ownv:List (Nat×Nat))(depv:List Nat):Option St:=match qu0 σ k path o t xv ownv (depC t ownv depv) with
 |some σ'=>some σ'
 |none=>qhn σ k path o t xv ownv depv
def zg3(pin:Nat):List (Nat×Ent)→Option (Nat×Nat)
  |[]=>none
  | (k, e) :: l => match e.own.filter fun y => uB y.2 pin with
    |[(j,_)]=>some (k,j)
    |_=>zg3 pin l
def zcn(e:Ent)(j pin:Nat)(te:Ty):Bool:=match e.t with
 | .st S => (match flds S with
  |some fs=>(match fs[j]? with
   |some (.row E)=>qwf E te&&(q40 e.own&& !yk e.dep pin)
   |_=>false)
  |none=>false)
 |_=>false
def z4l(own:List (Nat×Nat))(pin:Nat):Option Nat:=match own.filter fun y=>uB y.2 pin with
 |[(j,_)]=>some j
 |_=>none
def zgx(σ σ':St)(pin:Nat)(i:X)(path:List Nat)(te:Ty)(z:Operand)(xv:X):St:=match path,te,z with
 | [], .row E', .tmp tz => if qlu E' then (match lkA σ'.t tz, zg3 pin σ.m with
  |some (.v x' t' [(0,q)] dep'),some (k,j)=>(match lkA σ.m k with
   | some e => if zcn e j pin te && (decide (z4l e.own pin = some j) && !Nat.beq (k * 16) pin) then
     ⟨q0a σ'.t tz (.el (some ⟨k,j,.set e.x j (.put (.fld e.x j) i xv),e.t,e.own.filter (fun y=>y.1 !=j),e.dep,xv⟩) pin i (.v x' t' [(0,q)] dep')),σ'.m⟩ else σ'
   |none=>σ')
  |_,_=>σ') else σ'
 |_,_,_=>σ'
def qxu(P:Program)(σ:St)(cs:List (X×Bool))(T:TypeId)(y z:Operand):Option St:=match opd σ cs y with
 |some (.ref k path o t)=>if qgd T t then(match(opd σ cs z).bind (z2m k path t) with
  |some (xv,ownv,depv)=>qfo σ k path o t xv ownv depv
  |none=>none) else none
 |some (.rd _ t dep (some (pin,i,path,q,te)))=>if qgd T t then(match(opd σ cs z).bind (q5h t) with
  |some (xv,ownv,depv)=>(qko σ pin i path q te t xv [] (if ownv.isEmpty then depv else uni (ownv.map (·.2)) depv)).map fun σ'=>zgx σ σ' pin i path te z xv
  |none=>none) else none
 |some (.lv k t)=>if qgd T t then(match(opd σ cs z).bind (q5h t) with
  |some (xv,own,dep)=>qmh σ k t xv own dep
  |none=>none) else none
 | some (.bx k T' _) => if uB T' T then (match opd σ cs z with
  |some x=>(match qy T with
   |some (.map K V)=>qm8 σ k T (.map K V) x
   |_=>qn3 P σ k T' x)
  |none=>none) else none
 |some (.ax k T' n _)=>if uB T' T then(match opd σ cs z with
  |some (.ar E xs dep)=>qmt P σ k T' n E xs dep
  |_=>none) else none
 |_=>none
section
variable{c:Cx}{p:z6}{w w0:World}{S0:Nat→Prop}{a:Act}{σ σ':St}{cs:List (X×Bool)}{o:Oper}{d:List Deferred}{z:Nat}
def q09(c:Cx)(w0:World)(S0:Nat→Prop)(d:List Deferred)(z:Nat)(σ':St)(a':Act)(w':World):Prop:=∃p',Bs c.A c.F w0 S0 p' w'∧SF c σ' p' w' a'∧a'.defers=d∧a'.tmps.size=z
theorem q2y{t:Ty}{y:AV}{x:X}{own:List (Nat×Nat)}{dep:List Nat}{v:Value}(h:q5h t y=some (x,own,dep))(hy:y.pd c p w v):∃vs,j5 t vs v∧Con c.A p w (x.ev c.v) t own dep vs:=by
 unfold q5h at h;split at h
 ·split at h
  ·rename_i ht;rw[Ty.beq_iff] at ht;subst ht;simp only[gnS] at h;obtain⟨rfl,rfl,rfl⟩:=h;exact hy
  ·cases h
 ·split at h
  ·rename_i ht;rw[Ty.beq_iff] at ht;subst ht;simp only[gnS] at h;obtain⟨rfl,rfl,rfl⟩:=h;exact hy.2
  ·cases h
 ·split at h
  ·split at h
   ·rename_i E hE;obtain⟨te,hte⟩:=uY.1 hE;simp only[gnS] at h;obtain⟨rfl,rfl,rfl⟩:=h;obtain rfl:v=.slice none 0 0:=hy;exact⟨[_],rfl,E,te,none,0,rfl,hte,rfl,by simp,by simp,by simp[maxLen],by simp[RdE]⟩
   ·cases h
  ·cases h
 ·cases h
theorem z7w{t:Ty}{y:AV}{x:X}{own:List (Nat×Nat)}{dep:List Nat}{v:Value}(h:z3s t y=some (x,own,dep))(hy:y.pd c p w v):∃vs,j5 t vs v∧Con c.A p w (x.ev c.v) t own dep vs:=by
 unfold z3s at h;split at h
 ·split at h
  ·rename_i E hok;simp only[gnB] at hok;obtain⟨te,hte⟩:=uY.1 hok.2;simp only[gnS] at h;obtain⟨rfl,rfl,rfl⟩:=h;obtain rfl:v=.slice none 0 0:=hy;exact⟨[_],rfl,E,te,rfl,hok.1,hte,rfl⟩
  ·exact q2y h hy
 ·exact q2y h hy
theorem z6m{k:Nat}{path:List Nat}{t:Ty}{y:AV}{x:X}{own:List (Nat×Nat)}{dep:List Nat}{v:Value}(h:z2m k path t y=some (x,own,dep))(hy:y.pd c p w v):∃vs,j5 t vs v∧Con c.A p w (x.ev c.v) t own dep vs:=by
 unfold z2m at h;split at h
 ·split at h
  ·rename_i E hE;obtain⟨te,hte⟩:=uY.1 hE;simp only[gnS] at h;obtain⟨rfl,rfl,rfl⟩:=h;obtain rfl:v=.slice none 0 0:=hy;exact⟨[_],rfl,.inl ⟨E,te,[],_,rfl,hte,rfl,rfl,.inl ⟨rfl,rfl⟩⟩⟩
  ·cases h
 ·split at h
  ·rename_i E hE;obtain⟨te,hte⟩:=uY.1 hE;simp only[gnS] at h;obtain⟨rfl,rfl,rfl⟩:=h;obtain rfl:v=.slice none 0 0:=hy;exact⟨[_],rfl,.inl ⟨E,te,[],_,rfl,hte,rfl,rfl,.inl ⟨rfl,rfl⟩⟩⟩
  ·cases h
 ·exact q2y h hy
theorem qto:∀{fs:List Ty}{k n j q:Nat},lkA (rowsOf k fs n) (n+j)=some q→∃E,fs[j]? =some (.row E)
 |[],k,n,j,q,h=>by cases h
 | t :: ts, k, n, 0, q, h => by
  have lt:∀{fs:List Ty}{n m q:Nat},lkA (rowsOf k fs n) m=some q→n≤m:=by
   intro fs
   induction fs with
   |nil=>intro n m q h;cases h
   | cons t ts ih =>
    intro n m q h;cases t with
    | row E =>
     simp only[rowsOf] at h;by_cases hm:n=m
     ·omega
     ·rw[qf hm] at h;have:=ih h;omega
    |_=>have:=ih (n:=n+1) h;omega
  cases t with
  |row E=>exact⟨E,rfl⟩
  |_=>have:=lt (n:=n+1) h;omega
 | t :: ts, k, n, j + 1, q, h => by
  have:lkA (rowsOf k ts (n+1)) (n+1+j)=some q:=by
   rw[show n+1+j=n+(j+1) by omega];cases t with
   |row E=>
    simp only[rowsOf] at h;rw[qf (by omega)] at h;exact h
   |_=>exact h
  obtain⟨E,hE⟩:=qto this;exact⟨E,by simpa using hE⟩
theorem z7q{m:Nat}{E:TypeId}{cs r:List Value}{d:D}(h:q4k m (.row E) cs=some (d,r)):(qy E).isSome=true∧d=.r []∧cs=.slice none 0 0::r:=by
 cases m with
 |zero=>simp[q4k] at h
 | succ m =>
  cases cs with
  |nil=>simp[q4k] at h
  | cons v cs =>
   cases v with
   | slice a l c =>
    cases a with
    |some a=>simp[q4k] at h
    | none =>
     cases l with
     |succ l=>simp[q4k] at h
     | zero =>
      cases c with
      |succ c=>simp[q4k] at h
      | zero =>
       simp only[q4k] at h;split at h
       ·rename_i hs;simp only[gnS] at h;exact⟨hs,h.1.symm,by rw[h.2]⟩
       ·cases h
   |_=>simp[q4k] at h
theorem qwb(w:World){A:Nat→Prop}{p:z6}{own:List (Nat×Nat)}{m:Nat}:∀{fs:List Ty}{j:Nat}{cs r:List Value}{l:List D},qbv (q4k m) fs cs=some (l,r)→(∀i q,lkA own (j+i)=some q→∃E,fs[i]? =some (.row E))→∃c1,cs=c1++r∧Fls A p w [] own j l fs c1
 |[],j,cs,r,l,h,ho=>by
  simp only[qbv,gnS] at h;obtain⟨rfl,rfl⟩:=h;exact⟨[],rfl,rfl,rfl⟩
 | t :: ts, j, cs, r, l, h, ho => by
  unfold qbv at h;split at h
  ·rename_i d cs' hd;split at h
   ·rename_i l' r' hl;simp only[gnS] at h;obtain⟨rfl,rfl⟩:=h;obtain⟨c2,e2,h2⟩:=qwb w (j:=j+1) hl fun i q hq=>by
     obtain⟨E,hE⟩:=ho (i+1) q (by rw[show j+(i+1)=j+1+i by omega];exact hq);exact⟨E,by simpa using hE⟩
    have h1:∃c1,cs=c1++cs'∧Fl A p w [] (lkA own j) d t c1:=by
     cases hj:lkA own j with
     |none=>exact z2b w (FFD A p []) m hd
     |some pin=>
      obtain⟨E,hE⟩:=ho 0 pin hj;simp at hE;subst hE;obtain⟨hs,rfl,rfl⟩:=z7q hd;obtain⟨te,hte⟩:=uY.1 hs;exact⟨[.slice none 0 0],rfl,.inl ⟨E,te,[],_,rfl,hte,rfl,rfl,.inl ⟨rfl,rfl⟩⟩⟩
    obtain⟨c1,e1,h1⟩:=h1;exact⟨c1++c2,by rw[e1,e2];simp,t,ts,c1,c2,rfl,rfl,h1,h2⟩
   ·cases h
  ·cases h
theorem z1g{T:TypeId}{t:Ty}(h:qy T=some t)(hm:qb4 t=false)(w:World)(A:Nat→Prop)(p:z6)(k:Nat):∃v vs,(zeroValue T).run uA w=.ok v w∧j5 t vs v∧Con A p w (q5y 8 t) t (zw k t) [] vs∧v.cells=vs.toArray:=by
 obtain⟨v,vs,h1,h2,h3,-,h4⟩:=qg1 h w (FFD A p []);have h3:=h3 hm;cases t with
 |map K V=>cases hm
 |fnv=>exact⟨v,vs,h1,h2,h3,h4⟩
 |row E=>
  obtain⟨-,⟨te,hte⟩,i,hi,-,hz⟩:=q1y h;exact⟨.slice none 0 0,[.slice none 0 0],by simp[zeroValue,typeInfo,hi,hz],rfl,.inl ⟨E,te,[],_,rfl,hte,rfl,rfl,.inl ⟨rfl,rfl⟩⟩,rfl⟩
 | st S =>
  obtain⟨fields,fs,zc,i,hu,hf,hfb,hi,hs,hz,hpz,-⟩:=q57 h;unfold q4k at hpz;simp only[hf] at hpz;split at hpz
  ·rename_i l r hl;simp only[gnS] at hpz;obtain⟨hd,rfl⟩:=hpz;obtain⟨c1,e1,hcon⟩:=qwb (A:=A) (p:=p) w (own:=zw k (.st S)) (j:=0) hl fun i q hq=>by
    have:lkA (rowsOf k fs 0) (0+i)=some q:=by simpa[zw,hf] using hq
    exact qto this
   have e2:c1=zc.toList:=by simpa using e1.symm
   subst e2;exact⟨.agg zc,zc.toList,by simp[zeroValue,typeInfo,hi,hz],by simp[j5],⟨fs,l,hf,hd.symm,hcon⟩,by simp[Value.cells]⟩
  ·cases hpz
 |int k'=>exact⟨v,vs,h1,h2,Con.of_rd h3,h4⟩
 |bool=>exact⟨v,vs,h1,h2,Con.of_rd h3,h4⟩
 |str=>exact⟨v,vs,h1,h2,Con.of_rd h3,h4⟩
theorem z5a(hb:Bs c.A c.F w0 S0 p w)(hf:SF c σ p w a)(hd:a.defers=d)(hz:a.tmps.size=z){k:Nat}(hk:k<z)(hlo:c.lo≤k∧k<VB){T:TypeId}{t:Ty}{x:X}{own:List (Nat×Nat)}{dep:List Nat}{vs:List Value}
  (hT:qy T=some t)(hc:Con c.A (unP (zh k) p) w (x.ev c.v) t own dep vs):q09 c w0 S0 d z ⟨q0a (σ.un (zh k)).t k (.ref k [] 0 t),q0a (σ.un (zh k)).m k ⟨x,t,own,dep⟩⟩ (a.put (some k) (.pointer (some ⟨w.heap.size,0,none⟩))) (w.alloc (.cells vs.toArray T)):=by
 have hb1:=hb.un (zh k);have hf1:=SF.un (q:=zh k) hb.inj hb.pa hf;have hkq:zh k (k * 16)=true:=by simp[zh]
 have hpx:unP (zh k) p (k * 16)=none:=by unfold unP;rw[if_pos hkq]
 have hst:=q7h (A:=c.A) hpx hb1.bd (.cells vs.toArray T);refine⟨qfp (unP (zh k) p) (k * 16) w.heap.size,qey hb1 _ _,?_,hd,by simp only[Act.put,uS];exact hz⟩;have hkeep:SF c (σ.un (zh k)) (qfp (unP (zh k) p) (k * 16) w.heap.size) (w.alloc (.cells vs.toArray T)) a:=by
  refine⟨fun t' y hy=>?_,fun k' e he=>?_⟩
  ·obtain⟨v,h1,h2⟩:=hf1.t t' y hy;exact⟨v,h1,AV.kept hst y v (fun _ _=>⟨rfl,rfl⟩) (fun _ _=>rfl) h2⟩
  ·exact(hf1.m k' e he).kept hst (fun _ _=>⟨rfl,rfl⟩) ⟨rfl,rfl⟩
 have h2:=(hkeep.var (k:=k) (e:=⟨x,t,own,dep⟩) ⟨w.heap.size,vs.toArray,T,q1q,q3h rfl,hT,by simpa using hc.kept hst (fun _ _=>⟨rfl,rfl⟩) (fun _ _=>⟨rfl,rfl⟩)⟩);exact h2.put (t:=k) (by rw[hz];exact hk) ⟨w.heap.size,q1q,rfl,c.new k _ hlo.1 hlo.2⟩
theorem zik(hb:Bs c.A c.F w0 S0 p w)(hf:SF c σ p w a)(hd:a.defers=d)(hz:a.tmps.size=z){k:Nat}(hk:k<z)(hlo:c.lo≤k∧k<VB){T:TypeId}{x:AV}{v:Value}(hx:x.pd c (unP (zh k) p) w v):
  q09 c w0 S0 d z ⟨q0a (σ.un (zh k)).t k (.bx k T x),(σ.un (zh k)).m⟩ (a.put (some k) (.pointer (some ⟨w.heap.size,0,none⟩))) (w.alloc (.cells #[v] T)):=by
 have hb1:=hb.un (zh k);have hf1:=SF.un (q:=zh k) hb.inj hb.pa hf;have hkq:zh k (k * 16)=true:=by simp[zh]
 have hpx:unP (zh k) p (k * 16)=none:=by unfold unP;rw[if_pos hkq]
 have hst:=q7h (A:=c.A) hpx hb1.bd (.cells #[v] T);refine⟨qfp (unP (zh k) p) (k * 16) w.heap.size,qey hb1 _ _,?_,hd,by simp only[Act.put,uS];exact hz⟩;have hkeep:SF c (σ.un (zh k)) (qfp (unP (zh k) p) (k * 16) w.heap.size) (w.alloc (.cells #[v] T)) a:=by
  refine⟨fun t' y hy=>?_,fun k' e he=>?_⟩
  ·obtain⟨v,h1,h2⟩:=hf1.t t' y hy;exact⟨v,h1,AV.kept hst y v (fun _ _=>⟨rfl,rfl⟩) (fun _ _=>rfl) h2⟩
  ·exact(hf1.m k' e he).kept hst (fun _ _=>⟨rfl,rfl⟩) ⟨rfl,rfl⟩
 exact hkeep.put (t:=k) (by rw[hz];exact hk) ⟨w.heap.size,v,⟨q1q,c.new k _ hlo.1 hlo.2⟩,rfl,q3h rfl,AV.kept hst x _ (fun _ _=>⟨rfl,rfl⟩) (fun _ _=>rfl) hx⟩
theorem zi2(hb:Bs c.A c.F w0 S0 p w)(hf:SF c σ p w a)(hd:a.defers=d)(hz:a.tmps.size=z){k:Nat}(hk:k<z)(hlo:c.lo≤k∧k<VB){T:TypeId}(cs:Array Value):
  q09 c w0 S0 d z ⟨q0a (σ.un (zh k)).t k (.ax k T cs.size .any),(σ.un (zh k)).m⟩ (a.put (some k) (.pointer (some ⟨w.heap.size,0,none⟩))) (w.alloc (.cells cs T)):=by
 have hb1:=hb.un (zh k);have hf1:=SF.un (q:=zh k) hb.inj hb.pa hf;have hkq:zh k (k * 16)=true:=by simp[zh]
 have hpx:unP (zh k) p (k * 16)=none:=by unfold unP;rw[if_pos hkq]
 have hst:=q7h (A:=c.A) hpx hb1.bd (.cells cs T);refine⟨qfp (unP (zh k) p) (k * 16) w.heap.size,qey hb1 _ _,?_,hd,by simp only[Act.put,uS];exact hz⟩;have hkeep:SF c (σ.un (zh k)) (qfp (unP (zh k) p) (k * 16) w.heap.size) (w.alloc (.cells cs T)) a:=by
  refine⟨fun t' y hy=>?_,fun k' e he=>?_⟩
  ·obtain⟨v,h1,h2⟩:=hf1.t t' y hy;exact⟨v,h1,AV.kept hst y v (fun _ _=>⟨rfl,rfl⟩) (fun _ _=>rfl) h2⟩
  ·exact(hf1.m k' e he).kept hst (fun _ _=>⟨rfl,rfl⟩) ⟨rfl,rfl⟩
 exact hkeep.put (t:=k) (by rw[hz];exact hk) ⟨w.heap.size,cs,⟨q1q,c.new k _ hlo.1 hlo.2⟩,rfl,q3h rfl,rfl,trivial⟩
theorem z9v(hb:Bs c.A c.F w0 S0 p w)(hf:SF c σ p w a)(hd:a.defers=d)(hz:a.tmps.size=z){k:Nat}(hk:k<z)(hlo:c.lo≤k∧k<VB)(hdst:o.dst=some k){T:TypeId}(heq:o.op=.alloc T)(h:qxl uA σ k T=some σ'){Q:Exit→Act→World→Prop}:
  o.wp uA a w (q09 c w0 S0 d z σ') Q:=by
 have one:z0c uA T=true→∀σ'',some σ''=some σ'→σ''=⟨q0a (σ.un (zh k)).t k (.bx k T .any),(σ.un (zh k)).m⟩→o.wp uA a w (q09 c w0 S0 d z σ') Q:=fun hz1 σ'' h e=>by
  injection h with h;subst h;subst e;obtain⟨v,hzv,hcells⟩:=zcl hz1 w;have hrun:(execOp a.eval o).run uA w=.ok (.value (.pointer (some ⟨w.heap.size,0,none⟩))) (w.alloc (.cells #[v] T)):=by
   simp[execOp,heq,Instr.alloc,hzv,newVar,newRow,newObj,hcells,kJ]
  unfold Oper.wp;rw[hrun]
  show q09 c w0 S0 d z _ (a.put o.dst _) _
  rw[hdst];exact zik hb hf hd hz hk hlo (x:=.any) trivial
 unfold qxl at h;split at h
 ·rename_i t hT;cases hm:qb4 t with
  | true =>
   rw[hm] at h;simp only[if_true] at h;split at h
   ·rename_i hz1;exact one hz1 _ h rfl
   ·cases h
  |false=>
  rw[hm] at h;simp only[gnF,if_false] at h;injection h with h;subst h;obtain⟨v,vs,hzv,hp,hrd,hcells⟩:=z1g hT hm w c.A (unP (zh k) p) k;have hrun:(execOp a.eval o).run uA w=.ok (.value (.pointer (some ⟨w.heap.size,0,none⟩))) (w.alloc (.cells vs.toArray T)):=by
   simp[execOp,heq,Instr.alloc,hzv,newVar,newRow,newObj,hcells,kJ]
  unfold Oper.wp;rw[hrun]
  show q09 c w0 S0 d z _ (a.put o.dst _) _
  rw[hdst];exact z5a hb hf hd hz hk hlo (by assumption) hrd
 ·split at h
  ·rename_i hz1;exact one hz1 _ h rfl
  ·split at h
   ·rename_i n hn;injection h with h;subst h;obtain⟨zc,hzv,rfl,-⟩:=z9t hn w;have hrun:(execOp a.eval o).run uA w=.ok (.value (.pointer (some ⟨w.heap.size,0,none⟩))) (w.alloc (.cells zc T)):=by
     simp[execOp,heq,Instr.alloc,hzv,newVar,newRow,newObj,Value.cells,kJ]
    unfold Oper.wp;rw[hrun]
    show q09 c w0 S0 d z _ (a.put o.dst _) _
    rw[hdst];exact zi2 hb hf hd hz hk hlo zc
   ·cases h
theorem zii(hb:Bs c.A c.F w0 S0 p w)(hf:SF c σ p w a)(hc:hold c.v cs=true)(hd:a.defers=d)(hz:a.tmps.size=z){k:Nat}(hk:k<z)(hlo:c.lo≤k∧k<VB)(hdst:o.dst=some k){T:TypeId}{y:Operand}(heq:o.op=.box T y)(h:zc1 σ cs k T y=some σ'){Q:Exit→Act→World→Prop}:
  o.wp uA a w (q09 c w0 S0 d z σ') Q:=by
 unfold zc1 at h;split at h
 ·rename_i t hT;split at h
  ·rename_i x own dep hy;injection h with h;subst h;obtain⟨y',hy1,hy2⟩:=uG.1 hy;have hf1:=SF.un (q:=zh k) hb.inj hb.pa hf;obtain⟨vs,hp,hcon⟩:=q2y hy2 (z4 hf1 hc hy1);have hcells:=hp.cells hcon.len.2;have hrun:(execOp a.eval o).run uA w=.ok (.value (.pointer (some ⟨w.heap.size,0,none⟩))) (w.alloc (.cells vs.toArray T)):=by
    generalize a.eval=r at *;simp[execOp,heq,Instr.box,newVar,newRow,newObj,hcells,kJ]
   unfold Oper.wp;rw[hrun]
   show q09 c w0 S0 d z _ (a.put o.dst _) _
   rw[hdst];exact z5a hb hf hd hz hk hlo (by assumption) hcon
  ·cases h
 ·split at h
  ·rename_i y' hy;split at h
   ·rename_i hpv;injection h with h;subst h;have hb1:=hb.un (zh k);have hf1:=SF.un (q:=zh k) hb.inj hb.pa hf;have hy1:=zfp hf1 hc hy;have hcells:=qt3 hpv hy1;have hrun:(execOp a.eval o).run uA w=.ok (.value (.pointer (some ⟨w.heap.size,0,none⟩))) (w.alloc (.cells #[a.eval y] T)):=by
     generalize a.eval=r at *;simp[execOp,heq,Instr.box,newVar,newRow,newObj,hcells,kJ]
    unfold Oper.wp;rw[hrun]
    show q09 c w0 S0 d z _ (a.put o.dst _) _
    rw[hdst];have hkq:zh k (k * 16)=true:=by simp[zh]
    have hpx:unP (zh k) p (k * 16)=none:=by unfold unP;rw[if_pos hkq]
    have hst:=q7h (A:=c.A) hpx hb1.bd (.cells #[a.eval y] T);refine⟨qfp (unP (zh k) p) (k * 16) w.heap.size,qey hb1 _ _,?_,hd,by simp only[Act.put,uS];exact hz⟩;have hkeep:SF c (σ.un (zh k)) (qfp (unP (zh k) p) (k * 16) w.heap.size) (w.alloc (.cells #[a.eval y] T)) a:=by
     refine⟨fun t' y hy=>?_,fun k' e he=>?_⟩
     ·obtain⟨v,h1,h2⟩:=hf1.t t' y hy;exact⟨v,h1,AV.kept hst y v (fun _ _=>⟨rfl,rfl⟩) (fun _ _=>rfl) h2⟩
     ·exact(hf1.m k' e he).kept hst (fun _ _=>⟨rfl,rfl⟩) ⟨rfl,rfl⟩
    exact hkeep.put (t:=k) (by rw[hz];exact hk) ⟨w.heap.size,a.eval y,⟨q1q,c.new k _ hlo.1 hlo.2⟩,rfl,q3h rfl,AV.kept hst y' _ (fun _ _=>⟨rfl,rfl⟩) (fun _ _=>rfl) hy1⟩
   ·cases h
  ·cases h
end
end
section
section
variable{c:Cx}{p:z6}{w w0:World}{S0:Nat→Prop}{a:Act}{σ σ':St}{cs:List (X×Bool)}{o:Oper}{d:List Deferred}{z:Nat}
theorem q3z{l:List Nat}{pin:Nat}(h:yk l pin=false):∀x∈l,q2s pin x=false∧no x=false:=fun y hy=>by
 refine⟨?_,rfl⟩;cases hq:q2s pin y with
 |false=>rfl
 |true=>
  have:=gnN hq;subst this;rw[yz.2 hy] at h;cases h
theorem z13{l m:List Nat}{x:Nat}(h1:yk l x=false)(h2:yk m x=false):yk (uni l m) x=false:=by
 cases h:yk (uni l m) x with
 |false=>rfl
 |true=>
  rcases zgq (yz.1 h) with h|h
  ·rw[yz.2 h] at h1;cases h1
  ·rw[yz.2 h] at h2;cases h2
theorem qxj(hb:Bs c.A c.F w0 S0 p w)(hf:SF c σ p w a)(hd:a.defers=d)(hz:a.tmps.size=z){T:TypeId}{t:Ty}(hT:qy T=some t){k q g:Nat}{path:List Nat}(hg:p (k * 16)=some g)(hnv:∀e,lkA σ.m k=some e→nvB e.t=true→c.F.mx e.t=0){v:Value}{xv:X}{ownv:List (Nat×Nat)}{depv:List Nat}{vs:List Value}
  (hp:j5 t vs v)(hv:Con c.A p w (xv.ev c.v) t ownv depv vs)(h:qf0 σ k path q t xv ownv depv=some σ'):
  ∃w',(Instr.storeAt T (.pointer (some ⟨g,q,none⟩)) v).run uA w=.ok () w'∧q09 c w0 S0 d z σ' a w':=by
 unfold qf0 at h;split at h
 ·rename_i e he;split at h
  ·rename_i xo t' ov q' x' own' hat hset;split at h
   ·rename_i hok;simp only[gnB,uQ] at hok;obtain⟨h1,h2,h3⟩:=hok;rw[Ty.beq_iff] at h1;have h2':=gnN h2;subst h1 h2';injection h with h;subst h;obtain⟨g',cur,T',hg',hh,hty,hcon⟩:=hf.m k e he;obtain rfl:g=g':=gnI (hg.symm.trans hg');have hcon2:Con c.A p w (e.x.ev c.v) e.t e.own (uni e.dep depv) cur.toList:=hcon.mono fun x hx=>q2m hx;have hv2:Con c.A p w (xv.ev c.v) t' ownv (uni e.dep depv) vs:=hv.mono fun x hx=>q5f hx;obtain⟨c0,c1,c2,e1,e2,e3,e4⟩:∃c0 c1 c2,cur.toList=c0++(c1++c2)∧c0.length=q'∧c1.length=vs.length∧Con c.A p w (x'.ev c.v) e.t own' (if z25 e.t path then depv else uni e.dep depv) (c0++(vs++c2)):=by
     cases hth:z25 e.t path with
     |false=>
      simp only[gnF,if_false];exact qmr path hset hat hcon2 hv2
     | true =>
      simp only[if_true];unfold z25 at hth;split at hth
      ·rename_i S j het;split at hth
       ·rename_i fs hfs;have hflat:∀i t,i≠j→fs[i]? =some t→y6 8 t=true:=fun i t hi ht=>by
         have hlt:=(gnH.1 ht).1;have:=vB.1 hth i (vX.2 hlt);simp only[kU,ht] at this;rcases this with h|h
         ·exact absurd (gnN h) hi
         ·exact h
        rw[het] at hset hat hcon;unfold qex at hset;unfold q3w at hat;simp only[hfs] at hset hat;split at hset
        ·rename_i tj hj;simp only[hj,q3w,qex] at hset hat;split at hset
         ·rename_i oj hoj;simp only[gnS] at hset hat;obtain⟨rfl,rfl⟩:=hset;obtain⟨-,rfl,-,rfl⟩:=hat;obtain⟨fs',ds,hf',hds,hfls⟩:=hcon;obtain rfl:=gnI (hf'.symm.trans hfs);obtain⟨c0,c1,c2,q1,q2,q3,q4⟩:=Fls.set2 (own':=q5r e.own j oj) (d:=xv.ev c.v) (c:=vs) hflat hfls hj (by rw[uE,q46,if_pos rfl];exact Con.sup hoj hv) (fun i hi=>by rw[uE] at hi;rw[q46,if_neg hi]);refine⟨c0,c1,c2,q1,by rw[q2];simp,by rw[q3,hv.len.1],?_⟩;rw[het];exact⟨fs',ds.set j (xv.ev c.v),hfs,by show D.a ((e.x.ev c.v).fs.set j _)=_;rw[hds];rfl,q4⟩
         ·cases hset
        ·cases hset
       ·cases hth
      ·cases hth
    have hrun:=q65 hT hh e1 e2 e3 (hv.rd (dep':=depv++ownv.map (·.2)) (fun x hx=>uJ _ hx) (fun x hx=>uH _ hx)) hp;refine⟨_,hrun,p,q61 hb hg (FlW.var hb.flo hh hty (by simpa using hcon.len.1) (hnv _ he) _),?_,hd,hz⟩;have hst:Stab c.A (q2s (k * 16)) no p w p (w.setRow g (c0++(vs++c2)).toArray):=q4r hb.inj hg _;have hno:=q3z h3;have hk:=hf.keep hst;refine hk.var ⟨g,(c0++(vs++c2)).toArray,T',hg,setRow_heap w g cur _ T' _ hh,hty,?_⟩;have hno2:∀x∈(if z25 e.t path then depv else uni e.dep depv),q2s (k * 16) x=false∧no x=false:=fun x hx=>by
     split at hx
     ·exact hno x (uH _ (q5f hx))
     ·exact hno x (uH _ hx)
    exact(e4.kept hst hno2 (fun x hx=>hno x (uJ _ hx))).depC
   ·cases h
  ·cases h
 ·cases h
theorem qn6(hb:Bs c.A c.F w0 S0 p w)(hf:SF c σ p w a)(hd:a.defers=d)(hz:a.tmps.size=z){T:TypeId}{t:Ty}(hT:qy T=some t){k q g:Nat}{path:List Nat}(hg:p (k * 16)=some g)(hnv:∀e,lkA σ.m k=some e→nvB e.t=true→c.F.mx e.t=0){v:Value}{xv:X}{ownv:List (Nat×Nat)}{depv:List Nat}{vs:List Value}
  (hp:j5 t vs v)(hv:Con c.A p w (xv.ev c.v) t ownv depv vs)(h:qhn σ k path q t xv ownv depv=some σ'):
  ∃w',(Instr.storeAt T (.pointer (some ⟨g,q,none⟩)) v).run uA w=.ok () w'∧q09 c w0 S0 d z σ' a w':=
 qxj hb hf hd hz hT hg hnv hp hv.depC h
theorem qxb{T:List (Nat×AV)}{k j:Nat}{x0:X}{t0:Ty}{own0:List (Nat×Nat)}{dep0:List Nat}:∀{l:List (Nat×AV)},zbm T k j l=some (x0,t0,own0,dep0)→∃t b,lkA T t=some (.wf k j x0 t0 own0 dep0 b)
  |[],h=>by cases h
  | (s, _) :: l, h => by
    unfold zbm at h;split at h
    · rename_i k' j' x t own dep b hs;split at h
      · rename_i hk;simp only[gnB] at hk;obtain rfl:=gnN hk.1;obtain rfl:=gnN hk.2;simp only[gnS] at h;obtain⟨rfl,rfl,rfl,rfl⟩:=h;exact⟨s,b,hs⟩
      · exact qxb h
    · exact qxb h
theorem z7r(hb:Bs c.A c.F w0 S0 p w)(hf:SF c σ p w a)(hd:a.defers=d)(hz:a.tmps.size=z){T:TypeId}{t:Ty}(hT:qy T=some t){k q g:Nat}{path:List Nat}(hg:p (k * 16)=some g){v:Value}{xv:X}{ownv:List (Nat×Nat)}{depv:List Nat}{vs:List Value}
  (hp:j5 t vs v)(hv:Con c.A p w (xv.ev c.v) t ownv depv vs)(h:qu0 σ k path q t xv ownv depv=some σ'):
  ∃w',(Instr.storeAt T (.pointer (some ⟨g,q,none⟩)) v).run uA w=.ok () w'∧q09 c w0 S0 d z σ' a w':=by
 unfold qu0 at h;split at h
 ·rename_i j ow1 ow2;split at h
  ·rename_i x0 S own0 dep0 hwf;split at h
   ·rename_i fs hfs;split at h
    ·rename_i t' oj hj hoj;split at h
     ·rename_i hok;simp only[gnB,uQ] at hok;obtain⟨h1,h2,h4,h3⟩:=hok;rw[Ty.beq_iff] at h1;have h2':=gnN h2;subst h1 h2';injection h with h;subst h;obtain⟨s,b,hs⟩:=qxb hwf;obtain⟨-,-,⟨g',cur,T',S',fs',ds,hg',hh,hty,hS,hf',hds,hfls⟩,-⟩:=hf.t s _ hs;obtain rfl:g=g':=gnI (hg.symm.trans hg');injection hS with hS;subst hS;obtain rfl:=gnI (hf'.symm.trans hfs);obtain⟨c0,c1,c2,e1,e2,e3,q4⟩:=q7f.set (own':=q5r own0 j oj) (dep2:=uni dep0 depv) (d:=xv.ev c.v) (c:=vs) (fun x hx=>q2m hx) (by rw[uE];exact hfls) hj (by rw[uE,q46,if_pos rfl];exact(Con.sup hoj hv).mono fun x hx=>q5f hx) (fun i hi=>by rw[uE] at hi;rw[q46,if_neg hi]);have e4:Con c.A p w ((X.set x0 j xv).ev c.v) (.st S) (q5r own0 j oj) (uni dep0 depv) (c0++(vs++c2)):=⟨_,ds.set j (xv.ev c.v),hfs,by show D.a ((x0.ev c.v).fs.set j _)=_;rw[hds];rfl,q4⟩;have e3':c1.length=vs.length:=by rw[e3,hv.len.1]
      have hrun:=q65 hT hh e1 e2 e3' (hv.rd (dep':=depv++(ow1::ow2).map (·.2)) (fun x hx=>uJ _ hx) (fun x hx=>uH _ hx)) hp;have hsz:cur.size=(Ty.st S).w:=by
       have:=e4.len.1;rw[←uT,e1,←this];simp only[uW,e3']
      refine⟨_,hrun,p,q61 hb hg (FlW.var hb.flo hh hty hsz (fun hn=>by rw[h4] at hn;cases hn) _),?_,hd,hz⟩;have hst:Stab c.A (q2s (k * 16)) no p w p (w.setRow g (c0++(vs++c2)).toArray):=q4r hb.inj hg _;have hno:=q3z h3;have hk:=hf.keep hst;refine hk.var ⟨g,(c0++(vs++c2)).toArray,T',hg,setRow_heap w g cur _ T' _ hh,hty,?_⟩;exact(e4.kept hst (fun x hx=>hno x (uH _ hx)) (fun x hx=>hno x (uJ _ hx))).depC
     ·cases h
    ·cases h
   ·cases h
  ·cases h
 ·cases h
theorem qyq(hb:Bs c.A c.F w0 S0 p w)(hf:SF c σ p w a)(hd:a.defers=d)(hz:a.tmps.size=z){T:TypeId}{t:Ty}(hT:qy T=some t){k q g:Nat}{path:List Nat}(hg:p (k * 16)=some g)(hnv:∀e,lkA σ.m k=some e→nvB e.t=true→c.F.mx e.t=0){v:Value}{xv:X}{ownv:List (Nat×Nat)}{depv:List Nat}{vs:List Value}
  (hp:j5 t vs v)(hv:Con c.A p w (xv.ev c.v) t ownv depv vs)(h:qfo σ k path q t xv ownv depv=some σ'):
  ∃w',(Instr.storeAt T (.pointer (some ⟨g,q,none⟩)) v).run uA w=.ok () w'∧q09 c w0 S0 d z σ' a w':=by
 unfold qfo at h;split at h
 ·rename_i σ1 h1;injection h with h;subst h;exact z7r hb hf hd hz hT hg hp hv.depC h1
 ·exact qn6 hb hf hd hz hT hg hnv hp hv h
theorem qnd{g oo:Nat}{c0 c1 c2 vs cl:List Value}{cur:Array Value}{T:TypeId}(hg:w.heap[g]? =some (.cells cur T (0,0)))(hc:cur.toList=c0++(c1++c2))(h1:c1.length=cl.length)(hr:w.rangeAt g oo vs)(hap:oo+vs.length≤c0.length∨c0.length+cl.length≤oo):
  (w.setRow g (c0++(cl++c2)).toArray).rangeAt g oo vs:=fun j v hj=>by
 have h:=hr j v hj;rw[cell_of_row w g _ cur T (0,0) hg,←uN,hc] at h;rw[cell_of_row _ g _ _ T (0,0) (setRow_heap w g cur _ T _ hg)];have hjl:=(gnH.1 hj).1;simp only[uU];rcases hap with hap|hap
 ·rw[uI (by omega)] at h⊢;exact h
 ·rw[uD (by omega),uD (by omega)] at h⊢;rw[h1] at h;exact h
theorem zc3{g oo:Nat}{c0 c1 c2 b0 b1 b2 cl:List Value}{cur:Array Value}{T:TypeId}(hg:w.heap[g]? =some (.cells cur T (0,0)))(hc:cur.toList=c0++(c1++c2))(h1:c1.length=cl.length)(hr:w.rangeAt g oo (b0++(b1++b2)))(hb:oo+b0.length=c0.length)(hb1:b1.length=cl.length):
  (w.setRow g (c0++(cl++c2)).toArray).rangeAt g oo (b0++(cl++b2)):=fun j v hj=>by
 rw[cell_of_row _ g _ _ T (0,0) (setRow_heap w g cur _ T _ hg)];simp only[uU];by_cases hj0:j<b0.length
 ·rw[uI hj0] at hj;have h:=hr j v (by rw[uI hj0];exact hj);rw[cell_of_row w g _ cur T (0,0) hg,←uN,hc,uI (by omega)] at h;rw[uI (by omega)];exact h
 ·rw[uD (by omega)] at hj;rw[uD (by omega)];by_cases hj1:j<b0.length+cl.length
  ·rw[uI (by omega)] at hj⊢;rw[show oo+j - c0.length=j - b0.length by omega];exact hj
  ·rw[uD (by omega)] at hj⊢;have h:=hr j v (by rw[uD (by omega),uD (by omega),hb1];exact hj);rw[cell_of_row w g _ cur T (0,0) hg,←uN,hc,uD (by omega),uD (by omega)] at h;rw[show oo+j - c0.length - cl.length=oo+j - c0.length - c1.length by omega];exact h
structure ElSt(c:Cx)(p:z6)(w:World)(pin g:Nat)(i:X)(path:List Nat)(te:Ty)(xv:X)(depv:List Nat)(c0 c1 c2 cl:List Value)(w':World):Prop where
 hp:p pin=some g
 inj:∀x y b,p x=some b→p y=some b→x=y
 cur:∃cur T,w.heap[g]? =some (.cells cur T (0,0))∧cur.toList=c0++(c1++c2)
 len:c1.length=cl.length
 out:w'=w.setRow g (c0++(cl++c2)).toArray
 off:∃t q,(∃xo ov,q3w (.lit .u) te [] path=some (xo,t,ov,q))∧c0.length=(i.ev c.v).int.toNat * te.w+q∧q+cl.length≤te.w∧Con c.A p w (xv.ev c.v) t [] depv cl
 dv:yk depv pin=false
theorem qnj:∀(path:List Nat){x y x':X}{t t':Ty}{ov:List (Nat×Nat)}{q:Nat},q3w x t [] path=some (x',t',ov,q)→∃y',q3w y t [] path=some (y',t',[],q)∧ov=[]
 |[],x,y,x',t,t',ov,q,h=>by
  simp only[q3w,gnS] at h;obtain⟨rfl,rfl,rfl,rfl⟩:=h;exact⟨y,rfl,rfl⟩
 | j :: path, x, y, x', t, t', ov, q, h => by
  unfold q3w at h;split at h
  ·rename_i S;split at h
   ·rename_i fs hfs;split at h
    ·rename_i tj hj;split at h
     ·rename_i x1 t1 own1 o1 hr;simp only[gnS] at h;obtain⟨rfl,rfl,rfl,rfl⟩:=h;have hr':q3w (.fld x j) tj [] path=some (x1,t1,own1,o1):=hr;obtain⟨y',hy,rfl⟩:=qnj path (y:=.fld y j) hr';refine⟨y',?_,rfl⟩;unfold q3w;simp only[hfs,hj,show qho (lkA ([]:List (Nat×Nat)) j)=[] from rfl,hy]
     ·cases h
    ·cases h
   ·cases h
  ·cases h
theorem ElSt.stab{pin g:Nat}{i:X}{path:List Nat}{te:Ty}{xv:X}{depv:List Nat}{c0 c1 c2 cl:List Value}{w':World}(h:ElSt c p w pin g i path te xv depv c0 c1 c2 cl w'):Stab c.A (q2s pin) no p w p w':=by
 rw[h.out];exact q4r h.inj h.hp _
theorem ElSt.row{pin g:Nat}{i:X}{path:List Nat}{te:Ty}{xv x x':X}{depv dep:List Nat}{c0 c1 c2 cl:List Value}{w':World}(h:ElSt c p w pin g i path te xv depv c0 c1 c2 cl w')(hu:z81 i te path xv x=some x')(hn:yk dep pin=false)
  {E:TypeId}{l:List D}(hl:x.ev c.v=.r l){v:Value}(hte:qy E=some te)(hv:qpu c.A p w dep pin E te l v):∃l',x'.ev c.v=.r l'∧qpu c.A p w' (uni dep depv) pin E te l' v:=by
 unfold z81 at hu;split at hu
 ·rename_i xe hxe;injection hu with hu;subst hu;obtain⟨t,q,⟨xo,ov,hat⟩,hoff,hfit,hcv⟩:=h.off;obtain⟨cur,T,hcur,hcl⟩:=h.cur;have hst:=h.stab;have hnd:=q3z (z13 hn h.dv);refine⟨l.set (i.ev c.v).int.toNat (xe.ev c.v),by show D.r _=_;rw[hl];rfl,?_⟩;rcases hv with⟨rfl,rfl⟩|⟨g',cap,cur',rfl,hg',hh,h1,h2,h3,h4,h5⟩
  ·exact .inl ⟨rfl,by simp⟩
  ·obtain rfl:g=g':=gnI (h.hp.symm.trans hg');rw[hcur] at hh;injection hh with hh;injection hh with hh1 hh2;subst hh1 hh2;have hsz:(c0++(cl++c2)).toArray.size=cur.size:=by
    rw[←uT (xs:=cur),hcl];simp[h.len]
   refine .inr ⟨g,cap,(c0++(cl++c2)).toArray,by simp,h.hp,by rw[h.out];exact setRow_heap w g cur _ _ _ hcur,by simpa using h1,h2,by rw[hsz];exact h3,by simpa using h4,fun j hj=>?_⟩;have hj':j<l.length:=by simpa using hj
   obtain⟨vs,hr,hd⟩:=h5 j hj';have hvl:=(Rd.len _ hd).1;by_cases hji:j=(i.ev c.v).int.toNat
   ·subst hji;have hget:(X.get x i).ev c.v=l[(i.ev c.v).int.toNat]:=by
     show(x.ev c.v).rs.getD (i.ev c.v).int.toNat .u=_
     rw[hl];simp[D.rs,gnG,gnK hj']
    obtain⟨y',hat',-⟩:=qnj path (y:=.get x i) hat;have hcon:Con c.A p w ((X.get x i).ev c.v) te [] (uni dep depv) vs:=by rw[hget];exact Con.of_rd (hd.mono fun b _ hb=>hb.mono fun y hy=>q2m hy)
    obtain⟨b0,b1,b2,e1,e2,e3,e4⟩:=qmr path hxe hat' hcon (hcv.mono fun y hy=>q5f hy);subst e1;refine⟨b0++(cl++b2),?_,?_⟩
    ·rw[h.out];exact zc3 hcur hcl h.len hr (by rw[e2,hoff]) e3
    ·have hrd:=(e4.kept hst hnd (fun x hx=>by cases hx)).rd (dep':=uni dep depv) (fun x hx=>hx) (fun x hx=>by cases hx);rw[List.getElem_set_self];exact hrd
   ·refine⟨vs,?_,?_⟩
    ·rw[h.out];refine qnd hcur hcl h.len hr ?_;rcases Nat.lt_or_gt_of_ne hji with hlt|hgt
     ·left;have:=uC te.w (show j+1≤(i.ev c.v).int.toNat by omega);rw[uO] at this;omega
     ·right;have:=uC te.w (show(i.ev c.v).int.toNat+1≤j by omega);rw[uO] at this;omega
    ·rw[vL (Ne.symm hji)];exact Rd.keeps (hst.kp hnd) _ (hd.mono fun b _ hb=>hb.mono fun y hy=>q2m hy)
 ·cases hu
theorem filter_one{own:List (Nat×Nat)}(hn:q40 own=true){pin j pin':Nat}(h:own.filter (fun e=>uB e.2 pin)=[(j,pin')]):lkA own j=some pin∧∀i,i≠j→lkA own i≠some pin:=by
 have hm:(j,pin')∈own.filter (fun e=>uB e.2 pin):=by rw[h];exact kG
 obtain⟨h1,h2⟩:=kB.1 hm;have h3:=gnN h2;simp only at h3;subst h3;refine⟨?_,fun i hi he=>?_⟩
 ·clear h hm
  induction own with
  |nil=>cases h1
  | cons e l ih =>
   obtain⟨k,x⟩:=e;simp only[q40,gnB,vD] at hn;rcases jB.1 h1 with he|he
   ·injection he with e1 e2;subst e1 e2;exact qb
   ·by_cases hk:k=j
    ·subst hk;have:=qj5 hn.1 _ he;exact absurd rfl this
    ·rw[qf hk];exact ih hn.2 he
 ·have:(i,pin')∈own.filter (fun e=>uB e.2 pin'):=kB.2 ⟨q0y he,by simp⟩;rw[h] at this;simp at this;exact hi this
theorem Fls.kept'{A:Nat→Prop}{p p':z6}{w w':World}{dep:List Nat}{Z L:Nat→Bool}{own:List (Nat×Nat)}(hs:Stab A Z L p w p' w')(hz:∀x∈dep,Z x=false∧L x=false):∀{ds:List D}{n:Nat}{fs:List Ty}{cs:List Value},(∀i x,n≤i→lkA own i=some x→Z x=false∧L x=false)→Fls A p w dep own n ds fs cs→Fls A p' w' dep own n ds fs cs
 |[],_,_,_,_,h=>h
 |d::ds,j,fs,cs,hp,⟨t,ts,c1,c2,e1,e2,h1,h2⟩=>⟨t,ts,c1,c2,e1,e2,h1.kept hs hz fun x hx=>hp j x (kI _) hx,Fls.kept' hs hz (fun i x hi hx=>hp i x (by omega) hx) h2⟩
theorem ElSt.flds{pin g:Nat}{i:X}{path:List Nat}{te:Ty}{xv x x':X}{depv dep:List Nat}{c0 c1 c2 cl:List Value}{w':World}(h:ElSt c p w pin g i path te xv depv c0 c1 c2 cl w')(hn:yk dep pin=false){own:List (Nat×Nat)}{E:TypeId}(hte:qy E=some te):
  ∀{ds:List D}{n j:Nat}{fs:List Ty}{vs:List Value},Fls c.A p w dep own n ds fs vs→fs[j]? =some (.row E)→lkA own (n+j)=some pin→(∀k,k≠n+j→lkA own k≠some pin)→x.ev c.v=ds.getD j .u→z81 i te path xv x=some x'→Fls c.A p w' (uni dep depv) own n (ds.set j (x'.ev c.v)) fs vs
 |[],n,j,fs,vs,⟨h1,h2⟩,hj,_,_,_,_=>by subst h1;simp at hj
 | d :: ds, n, j, fs, vs, ⟨t, ts, a1, a2, e1, e2, h1, h2⟩, hj, ho, hne, hx, hu => by
  subst e1 e2;have hst:=h.stab;have hnd:=q3z (z13 hn h.dv);have hpin:∀k y,k≠n+j→lkA own k=some y→q2s pin y=false∧no y=false:=fun k y hk hy=>by
   refine⟨?_,rfl⟩;cases hq:q2s pin y with
   |false=>rfl
   |true=>
    have:=gnN hq;subst this;exact absurd hy (hne k hk)
  cases j with
  |zero=>
   simp at hj;subst hj;rw[kK] at ho;rw[ho] at h1;rcases h1.symm with⟨K,V,kt,vt,lm,gm,es,clock,em,-⟩|⟨E1,te1,l,v,q1,q2,q3,q4,q5⟩
   ·cases em
   injection q1 with q1;subst q1;obtain rfl:=gnI (q2.symm.trans hte);subst q3 q4;obtain⟨l',hl',hown⟩:=h.row hu hn (l:=l) (by rw[hx];rfl) hte q5;refine⟨_,ts,_,a2,rfl,rfl,?_,Fls.kept' hst hnd (fun k y hk hy=>hpin k y (by omega) hy) (Fls.mono (fun y hy=>q2m hy) h2)⟩;rw[ho];exact .inl ⟨_,te1,l',v,rfl,hte,hl',rfl,hown⟩
  |succ j=>
   refine⟨t,ts,a1,a2,rfl,rfl,?_,ElSt.flds h hn hte h2 (by simpa using hj) (by rw[show n+1+j=n+(j+1) by omega];exact ho) (fun k hk=>hne k (by omega)) (by simpa using hx) hu⟩;exact(Fl.mono (fun y hy=>q2m hy) h1).kept hst hnd fun y hy=>hpin n y (by omega) hy
theorem qjx{E:TypeId}{te:Ty}(h:qwf E te=true):qy E=some te:=by
 unfold qwf at h;split at h
 ·rename_i t ht;rw[ht,(Ty.beq_iff _ _).1 h]
 ·cases h
theorem qmi{pin g:Nat}{i:X}{path:List Nat}{te:Ty}{xv:X}{depv:List Nat}{c0 c1 c2 cl:List Value}{w':World}(h:ElSt c p w pin g i path te xv depv c0 c1 c2 cl w'){x x':X}{t:Ty}{own:List (Nat×Nat)}{dep dep':List Nat}{vs:List Value}
  (hu:qm5 pin i te path xv depv x t own dep=some (x',dep'))(hc:Con c.A p w (x.ev c.v) t own dep vs):Con c.A p w' (x'.ev c.v) t own dep' vs:=by
 unfold qm5 at hu;split at hu
 ·cases hu
 ·rename_i hok;simp only[kU,uQ,not_or,vS,vQ] at hok;obtain⟨hn,hnd⟩:=hok;have hst:=h.stab;have hdep:=q3z hn;split at hu
  ·rename_i hfil;simp only[gnS] at hu;obtain⟨rfl,rfl⟩:=hu;refine hc.kept hst hdep fun y hy=>⟨?_,rfl⟩;cases hq:q2s pin y with
   |false=>rfl
   |true=>
    obtain⟨e,he,rfl⟩:=kS.1 hy;have:e∈own.filter (fun e=>uB e.2 pin):=kB.2 ⟨he,hq⟩;rw[hfil] at this;cases this
  ·rename_i j pin' hfil;obtain⟨ho,hne⟩:=filter_one hnd hfil;split at hu
   ·rename_i E;split at hu
    ·rename_i hE;simp only[gnB] at hE;have hte:=qjx hE.1;have hj:=gnN hE.2;subst hj;simp only[kP,Prod.mk.injEq] at hu;obtain⟨x1,hx1,rfl,rfl⟩:=hu;have hc':Fl c.A p w dep (lkA own 0) (x.ev c.v) (.row E) vs:=hc;rw[ho] at hc';rcases hc'.symm with⟨K,V,kt,vt,lm,gm,es,clock,em,-⟩|⟨E1,te1,l,v,q1,q2,q3,q4,q5⟩
     ·cases em
     injection q1 with q1;subst q1;obtain rfl:=gnI (q2.symm.trans hte);obtain⟨l',hl',hown⟩:=h.row hx1 hn q3 hte q5
     show Fl c.A p w' (uni dep depv) (lkA own 0) (x1.ev c.v) (.row E) vs
     rw[ho];exact .inl ⟨E,te1,l',v,rfl,hte,hl',q4,hown⟩
    ·cases hu
   ·rename_i S;split at hu
    ·rename_i fs hfs;split at hu
     ·rename_i E hj;split at hu
      ·rename_i hE;have hte:=qjx hE;simp only[kP,Prod.mk.injEq] at hu;obtain⟨x1,hx1,rfl,rfl⟩:=hu;obtain⟨fs',ds,hf',hds,hfl⟩:=hc;obtain rfl:=gnI (hf'.symm.trans hfs);have:=h.flds hn hte hfl hj (by rw[uE];exact ho) (fun k hk=>hne k (by omega)) (x:=.fld x j) (by show(x.ev c.v).fld j=_;rw[hds];rfl) hx1;refine⟨_,_,hf',?_,this⟩
       show D.a ((x.ev c.v).fs.set j (x1.ev c.v))=_
       rw[hds];rfl
      ·cases hu
     ·cases hu
    ·cases hu
   ·cases hu
  ·cases hu
end
end
section
theorem z4t:∀{fs:List Ty}{j:Nat}{t:Ty},fs[j]? =some t→offs fs j+t.w≤widths fs
 |[],j,t,h=>by simp at h
 |u::ts,0,t,h=>by
  simp at h;subst h;rw[q7p,q87];omega
 |u::ts,j+1,t,h=>by
  have:=z4t (fs:=ts) (j:=j) (t:=t) (by simpa using h);rw[q7y,q87];omega
theorem qt7:∀(path:List Nat){x x':X}{t t':Ty}{own ov:List (Nat×Nat)}{q:Nat},q3w x t own path=some (x',t',ov,q)→q+t'.w≤t.w
 |[],x,x',t,t',own,ov,q,h=>by
  simp only[q3w,gnS] at h;obtain⟨rfl,rfl,rfl,rfl⟩:=h;omega
 | j :: path, x, x', t, t', own, ov, q, h => by
  unfold q3w at h;split at h
  ·rename_i S;split at h
   ·rename_i fs hfs;split at h
    ·rename_i tj hj;split at h
     ·rename_i x1 t1 own1 o1 hr;simp only[gnS] at h;obtain⟨rfl,rfl,rfl,rfl⟩:=h;have h1:=qt7 path hr;have h2:=z4t hj;rw[(qq1 hfs).1];omega
     ·cases h
    ·cases h
   ·cases h
  ·cases h
section
variable{c:Cx}{p:z6}{w w0:World}{S0:Nat→Prop}{a:Act}{σ σ':St}{cs:List (X×Bool)}{o:Oper}{d:List Deferred}{z:Nat}
theorem zez{pin g:Nat}{i:X}{path:List Nat}{te:Ty}{xv:X}{depv:List Nat}{c0 c1 c2 cl:List Value}{w':World}(h:ElSt c p w pin g i path te xv depv c0 c1 c2 cl w'){x:AV}{v:Value}(hx:x.pd c p w v):(zc9 pin i te path xv depv x).pd c p w' v:=by
 have gen:∀y:AV,y.pd c p w v→(if okA (q2s pin) no y then y else AV.any).pd c p w' v:=fun y hy=>by
  split
  ·rename_i hok;exact AV.kept h.stab y v (qat hok).1 (qat hok).2 hy
  ·trivial
 unfold zc9;split
 ·rename_i x t own dep;split
  ·rename_i x' dep' hu;obtain⟨vs,hp,hc⟩:=hx;exact⟨vs,hp,qmi h hu hc⟩
  ·trivial
 ·rename_i q x t own dep;split
  ·rename_i x' dep' hu;obtain⟨hs,vs,hp,hc⟩:=hx;exact⟨hs,vs,hp,qmi h hu hc⟩
  ·trivial
 ·exact gen _ hx
theorem ze3{pin:Nat}{i:X}{te:Ty}{path:List Nat}{xv:X}{depv:List Nat}{l:List (Nat×Ent)}{k:Nat}{e:Ent}(h:lkA (z2z pin i te path xv depv l) k=some e):
  ∃e0 x' dep',lkA l k=some e0∧qm5 pin i te path xv depv e0.x e0.t e0.own e0.dep=some (x',dep')∧e=⟨x',e0.t,e0.own,dep'⟩∧q2s pin (k * 16)=false:=by
 induction l with
 |nil=>cases h
 | cons y l ih =>
  obtain⟨m,y⟩:=y;unfold z2z at h;split at h
  ·rename_i x' dep' hu;split at h
   ·by_cases hm:m=k
    ·subst hm;rw[zt] at h;cases h
    ·rw[q37 hm] at h;rw[qf hm];exact ih h
   ·rename_i hpin;by_cases hm:m=k
    ·subst hm;rw[qb] at h;injection h with h;exact⟨y,x',dep',qb,hu,h.symm,by
      cases hq:q2s pin (m * 16) with
      |false=>rfl
      |true=>exact absurd hq hpin⟩
    ·rw[qf hm] at h⊢;exact ih h
  ·by_cases hm:m=k
   ·subst hm;rw[zt] at h;cases h
   ·rw[q37 hm] at h;rw[qf hm];exact ih h
theorem El.sf{pin g:Nat}{i:X}{path:List Nat}{te:Ty}{xv:X}{depv:List Nat}{c0 c1 c2 cl:List Value}{w':World}(h:ElSt c p w pin g i path te xv depv c0 c1 c2 cl w')(hf:SF c σ p w a):SF c ⟨σ.t.map fun e=>(e.1,zc9 pin i te path xv depv e.2),z2z pin i te path xv depv σ.m⟩ p w' a:=by
 refine⟨fun t x hx=>?_,fun k e he=>?_⟩
 ·obtain⟨y,hy,rfl⟩:=q5l (f:=zc9 pin i te path xv depv) hx;obtain⟨v,h1,h2⟩:=hf.t t y hy;exact⟨v,h1,zez h h2⟩
 ·obtain⟨e0,x',dep',h1,h2,rfl,h3⟩:=ze3 he;obtain⟨g',vs,T,hg',hh,hty,hc⟩:=hf.m k e0 h1;exact⟨g',vs,T,hg',(h.stab.con _ _ h3 hg').trans hh,hty,qmi h h2 hc⟩
theorem z2t(hb:Bs c.A c.F w0 S0 p w)(hf:SF c σ p w a)(hd:a.defers=d)(hz:a.tmps.size=z){T:TypeId}{t:Ty}(hT:qy T=some t){pin b ob q:Nat}{i x:X}{path:List Nat}{te:Ty}(hpin:p pin=some b)(hob:ob=(i.ev c.v).int.toNat * te.w+q)(hblk:∃cur E,w.heap[b]? =some (.cells cur E (0,0))∧qy E=some te)(hfl:c.F.mx te≤(i.ev c.v).int.toNat){F:Nat→Prop}{dx:D}{vo:List Value}
  (hr:w.rangeAt b ob vo)(hrd:Rd w F dx t vo){v:Value}{xv:X}{ownv:List (Nat×Nat)}{depv:List Nat}{vs:List Value}
  (hp:j5 t vs v)(hv:Con c.A p w (xv.ev c.v) t ownv depv vs)(h:qko σ pin i path q te t xv ownv depv=some σ'):
  ∃w',(Instr.storeAt T (.pointer (some ⟨b,ob,none⟩)) v).run uA w=.ok () w'∧((∃c0 c1 c2,ElSt c p w pin b i path te xv depv c0 c1 c2 vs w')∧(path=[]→t=te))∧Bs c.A c.F w0 S0 p w'∧SF c σ' p w' a∧a.defers=d∧a.tmps.size=z:=by
 unfold qko at h;split at h
 ·rename_i xo t' ov q' hat;split at h
  ·rename_i hok;simp only[gnB,uQ] at hok;obtain⟨h1,h2,h3,h4⟩:=hok;rw[Ty.beq_iff] at h1;have h2':=gnN h2;subst h1 h2';have hown:ownv=[]:=by simpa using h3
   subst hown;injection h with h;subst h;have hl0:=(Rd.len _ hrd).1;have hpos0:=q66 hT;obtain⟨cur,T',hcur⟩:=(hb.obj pin b hpin).cells (hr 0 _ (gnK (by omega)));have hlv:=hv.len.1;have hpos:=q66 hT;have hsz:ob+vo.length≤cur.size:=by
    have:=hr (vo.length - 1) vo[vo.length - 1] (gnK (by omega));rw[cell_of_row w b _ cur T' (0,0) hcur] at this;have:=(kL.1 this).1;omega
   have hspl:cur.toList=cur.toList.take ob++((cur.toList.drop ob).take vs.length++(cur.toList.drop ob).drop vs.length):=by
    rw[kV,kV]
   have hl1:(cur.toList.take ob).length=ob:=by simp;omega
   have hl2:((cur.toList.drop ob).take vs.length).length=vs.length:=by simp;omega
   have hrun:=q65 hT hcur hspl hl1 hl2 (hv.rd (dep':=depv) (fun x hx=>hx) (fun x hx=>by cases hx)) hp;have hfit:=qt7 path hat
   have hel:ElSt c p w pin b i path te xv depv (cur.toList.take ob) ((cur.toList.drop ob).take vs.length) ((cur.toList.drop ob).drop vs.length) vs (w.setRow b (cur.toList.take ob++(vs++(cur.toList.drop ob).drop vs.length)).toArray):=
    ⟨hpin,hb.inj,⟨cur,T',hcur,hspl⟩,hl2,rfl,⟨t',q',⟨xo,ov,hat⟩,by rw[hl1,hob],by rw[hlv];exact hfit,hv⟩,h4⟩
   obtain⟨cur',E,hb1,hb2⟩:=hblk;rw[hcur] at hb1;injection hb1 with hb1;injection hb1 with hb3 hb4;subst hb3 hb4;refine⟨_,hrun,⟨⟨_,_,_,hel⟩,fun hpt=>by subst hpt;simp only[q3w,gnS] at hat;exact hat.2.1.symm⟩,q61 hb hpin (FlW.above hb.flo hcur hb2 (ob:=ob) (by rw[hob];exact vA (uC _ hfl) (Nat.le_add_right _ _)) (by simp;omega) fun j hj=>?_),El.sf hel hf,hd,hz⟩;rw[uU,uI (by omega),uF hj,uN]
  ·cases h
 ·cases h
theorem q7f.put{A:Nat→Prop}{dep:List Nat}{own:List (Nat×Nat)}{x:D}:∀{l:List D}{n j:Nat}{fs:List Ty}{vs:List Value},q7f A p w dep own (n+j) n l fs vs→q7f A p w dep own (n+j) n (l.set j x) fs vs
 |[],n,j,fs,vs,h=>by simpa using h
 |d::l,n,0,fs,vs,⟨t,ts,c1,c2,e1,e2,hl,h1,h2⟩=>⟨t,ts,c1,c2,e1,e2,hl,fun h=>absurd rfl h,h2⟩
 | d :: l, n, j + 1, fs, vs, ⟨t, ts, c1, c2, e1, e2, hl, h1, h2⟩ => ⟨t, ts, c1, c2, e1, e2, hl, h1, by
   have:=q7f.put (x:=x) (n:=n+1) (j:=j) (by rw[show n+1+j=n+(j+1) by omega];exact h2);rw[show n+1+j=n+(j+1) by omega] at this;exact this⟩
theorem qzs:∀{own:List (Nat×Nat)}{e:Nat×Nat},q40 own=true→e∈own→lkA own e.1=some e.2
 | f :: l, e, hn, h => by
  simp only[q40,gnB,vD] at hn;rcases jB.1 h with rfl|h
  ·exact qb
  ·have hne:f.1≠e.1:=fun h0=>qj5 hn.1 e h h0.symm;have h2:=qzs hn.2 h;rw[show f=(f.1,f.2) from rfl,qf hne];exact h2
theorem z92{own:List (Nat×Nat)}{pin j:Nat}(hn:q40 own=true)(h:z4l own pin=some j):lkA own j=some pin∧∀i,i≠j→lkA own i≠some pin:=by
 unfold z4l at h;split at h
 ·rename_i j' pin' hf;injection h with h;subst h;exact filter_one hn hf
 ·cases h
theorem zh2{pin g:Nat}{i:X}{E':TypeId}{xv:X}{depv:List Nat}{c0 c1 c2:List Value}{v:Value}{w':World}(h:ElSt c p w pin g i [] (.row E') xv depv c0 c1 c2 [v] w')(hblk:∃cur E,w.heap[g]? =some (.cells cur E (0,0))∧qy E=some (.row E')){k j:Nat}{e:Ent}(he:q4l c p w k e)(hk:zcn e j pin (.row E')=true)(hj:z4l e.own pin=some j)(hkp:uB (k * 16) pin=false):
  z32 c p w' pin i v∧qv7 c p w' pin i ⟨k,j,.set e.x j (.put (.fld e.x j) i xv),e.t,e.own.filter (fun y=>y.1 !=j),e.dep,xv⟩:=by
 unfold zcn at hk;split at hk
 ·rename_i S het;split at hk
  ·rename_i fs hfs;split at hk
   ·rename_i E hfj;simp only[gnB,uQ] at hk;obtain⟨hk1,hnd,hdp⟩:=hk;have hte:=qjx hk1;obtain⟨ho,hne⟩:=z92 hnd hj;obtain⟨gk,csk,Tk,hgk,hhk,hTk,hcon⟩:=he;have hst:=h.stab;have hdep:=q3z hdp;have hkz:q2s pin (k * 16)=false:=by
     unfold q2s;exact hkp
    rw[het] at hcon;have hcon0:=hcon;obtain⟨fs',ds,hf',hds,hfls⟩:=hcon;obtain rfl:=gnI (hf'.symm.trans hfs);have hat:q3w e.x (.st S) e.own [j]=some (.fld e.x j,.row E,qho (lkA e.own j),offs fs' j+0):=by
     simp only[q3w,hfs,hfj]
    obtain⟨b0,b1,b2,q1,q2,q3⟩:=qkc [j] hat hcon0;have q3':Fl c.A p w e.dep (lkA (qho (lkA e.own j)) 0) ((X.fld e.x j).ev c.v) (.row E) b1:=q3;rw[ho] at q3';rcases (show Fl c.A p w e.dep (some pin) ((X.fld e.x j).ev c.v) (.row E) b1 from q3').symm with⟨K,V,kt,vt,lm,gm,es,clock,em,-⟩|⟨E1,te1,l,v1,r1,r2,r3,r4,r5⟩
    ·cases em
    injection r1 with r1;subst r1 r4;obtain rfl:=gnI (r2.symm.trans hte);have hu:z81 i (.row E') [] xv (.fld e.x j)=some (.put (.fld e.x j) i xv):=rfl;obtain⟨l',hl',hown⟩:=h.row hu hdp r3 hte r5;have hl2:l'=l.set (i.ev c.v).int.toNat (xv.ev c.v):=by
     have:(X.put (.fld e.x j) i xv).ev c.v=.r (l.set (i.ev c.v).int.toNat (xv.ev c.v)):=by show D.r _=_;rw[r3];rfl
     rw[hl'] at this;injection this
    subst hl2;obtain⟨cur,Tc,hcur,hcl⟩:=h.cur;obtain⟨t0,q0,-,hoff,hfit,-⟩:=h.off;have hfit':q0+1≤1:=hfit;have hq0:q0=0:=by omega
    subst hq0;have hoff':c0.length=(i.ev c.v).int.toNat:=by simpa[Ty.w] using hoff
    have hcell:((c0++([v]++c2)).toArray)[(i.ev c.v).int.toNat]? =some v:=by
     rw[uU,←hoff',uD (kI _),jE];rfl
    have hw':w'.heap[g]? =some (.cells (c0++([v]++c2)).toArray Tc (0,0)):=by rw[h.out];exact setRow_heap w g cur _ _ _ hcur
    have hTc:qy Tc=some (.row E'):=by
     obtain⟨cur',E'',hb1,hb2⟩:=hblk;rw[hcur] at hb1;injection hb1 with hb1;injection hb1 with hb3 hb4;subst hb4;exact hb2
    refine⟨⟨g,_,Tc,_,h.hp,hw',hTc,rfl,hcell⟩,gk,csk,Tk,S,fs',ds.set j (.r (l.set (i.ev c.v).int.toNat (xv.ev c.v))),E,.row E',l.set (i.ev c.v).int.toNat (xv.ev c.v),v1,hgk,(hst.con _ _ hkz hgk).trans hhk,hTk,het,hfs,?_,?_,hfj,hte,?_,?_,?_,?_,?_⟩
    ·show D.a ((e.x.ev c.v).fs.set j ((X.put (.fld e.x j) i xv).ev c.v))=_
     rw[hl',hds];rfl
    ·have hX:q7f c.A p w e.dep (e.own.filter (fun y=>y.1 !=j)) j 0 ds fs' csk.toList:=q7f.of0 (fun n hn=>zge hn) hfls;have hX2:=hX.kept hst hdep fun y hy=>by
      obtain⟨f,hf1,rfl⟩:=kS.1 hy;obtain⟨hf2,hf3⟩:=kB.1 hf1;refine⟨?_,rfl⟩;cases hq:q2s pin f.2 with
      |false=>rfl
      |true=>
       have hq':=gnN hq;exact absurd (by rw[←hq'];exact qzs hnd hf2) (hne f.1 (by simpa using hf3))
     have:=q7f.put (x:=D.r (l.set (i.ev c.v).int.toNat (xv.ev c.v))) (n:=0) (j:=j) (by rw[uE];exact hX2);rw[uE] at this;exact this
    ·refine List.getElem?_set_self ?_;have:j<ds.length:=by
      rcases Nat.lt_or_ge j ds.length with h|h
      ·exact h
      ·exfalso;have:(X.fld e.x j).ev c.v=.u:=by
        show(e.x.ev c.v).fld j=.u
        rw[hds]
        show(D.a ds).fs.getD j .u=.u
        simp[D.fs,h]
       rw[r3] at this;cases this
     exact this
    ·show csk.toList[offs fs' j]? =some v1
     rw[q1,←kK (offs fs' j),←q2,uD (kI _),jE];rfl
    ·rcases hown with⟨e1,e2⟩|⟨g2,cap2,cur2,e1,e2,e3,e4,e5,e6,e7,-⟩
     ·exact .inl ⟨e1,e2⟩
     ·exact .inr ⟨g2,cap2,cur2,e1,e2,e3,e4,e5,e6,e7⟩
    ·intro d hd;rw[List.getElem?_set] at hd;split at hd
     ·split at hd
      ·injection hd with hd;exact hd.symm
      ·cases hd
     ·rename_i hn;exact absurd rfl hn
    ·intro n hn hne2;rw[vV] at hn;rcases r5 with⟨-,e2⟩|⟨g2,cap2,cur2,e1,e2,e3,e4,e5,e6,e7,e8⟩
     ·subst e2;exact absurd hn (Nat.not_lt_zero _)
     ·obtain rfl:g=g2:=gnI (h.hp.symm.trans e2);obtain⟨vs,s1,s2⟩:=e8 n hn;have hvl:vs.length=1:=(Rd.len _ s2).1;refine⟨g,vs,h.hp,?_,?_⟩
      ·rw[h.out];refine qnd hcur hcl h.len s1 ?_
       show n * 1+vs.length≤_∨_+1≤n * 1
       omega
      ·rw[vL (Ne.symm hne2)];exact Rd.keeps (hst.kp hdep) _ s2
   ·cases hk
  ·cases hk
 ·cases hk
theorem zf8{pin g:Nat}{i:X}{path:List Nat}{te t:Ty}{xv:X}{depv:List Nat}{c0 c1 c2 vs:List Value}{w':World}{z:Operand}(h:ElSt c p w pin g i path te xv depv c0 c1 c2 vs w')(hblk:∃cur E,w.heap[g]? =some (.cells cur E (0,0))∧qy E=some te)(htt:path=[]→t=te)(hf:SF c σ p w a)(hf2:SF c σ' p w' a)(hp:j5 t vs (a.eval z)):SF c (zgx σ σ' pin i path te z xv) p w' a:=by
 unfold zgx;split
 ·rename_i E' tz;split
  ·split
   ·rename_i x' t' q dep' k j h1 h2;split
    ·rename_i e he;split
     ·rename_i hok;simp only[gnB,gnD,uQ] at hok;obtain⟨hc1,hc2,hc3⟩:=hok;obtain⟨v,hv1,hv2⟩:=hf2.t tz _ h1;have hev:a.eval (.tmp tz)=v:=by simp[Act.eval,hv1]
      rw[hev] at hp;have ht:=htt rfl;subst ht;have hvs:vs=[v]:=hp;subst hvs;obtain⟨g1,g2⟩:=zh2 h hblk (hf.m k e he) hc1 hc2 hc3;refine⟨fun s y hs=>?_,hf2.m⟩;by_cases hst:tz=s
      ·subst hst;have hs':lkA (q0a σ'.t tz _) tz=some y:=hs;rw[q1o] at hs';injection hs' with hs';subst hs';exact⟨v,hv1,⟨g1,g2⟩,hv2⟩
      ·have hs':lkA (q0a σ'.t tz _) s=some y:=hs;rw[q4a hst] at hs';exact hf2.t s y hs'
     ·exact hf2
    ·exact hf2
   ·exact hf2
  ·exact hf2
 ·exact hf2
theorem z43(hb:Bs c.A c.F w0 S0 p w)(hf:SF c σ p w a)(hd:a.defers=d)(hz:a.tmps.size=z){k g:Nat}{T:TypeId}{x:AV}(hg:p (k * 16)=some g){u v:Value}(hh:w.heap[g]? =some (.cells #[u] T (0,0)))(hx:x.pd c p w v)
  (h:qn3 uA σ k T x=some σ'):(Instr.storeAt T (.pointer (some ⟨g,0,none⟩)) v).run uA w=.ok () (w.setRow g #[v])∧q09 c w0 S0 d z σ' a (w.setRow g #[v]):=by
 unfold qn3 at h;split at h
 ·rename_i hok;simp only[gnB] at hok;obtain⟨h1,h2,h3⟩:=hok;split at h
  ·rename_i k' T' y hl;split at h
   ·rename_i hkk;simp only[gnB] at hkk;obtain⟨e1,e2⟩:=hkk;have e1:=gnN e1;have e2:=gnN e2;subst e1 e2;injection h with h;subst h;have hcells:=qt3 h1 hx;have hone:=z9u h1 hx;refine⟨?_,p,q61 hb hg (FlW.one hb.flo hh _),?_,hd,hz⟩
    ·unfold zgk at h2;split at h2
     ·rename_i i hi;have hsz:=gnN h2;have hst:=run_storeCells_at uA g 0 T' [v] 0 #[u] w hh (by simp) (by simpa using hone);have e1:((#[u]:Array Value).toList.take (0+0)++[v]++(#[u]:Array Value).toList.drop (0+0+[v].length))=[v]:=by simp
      rw[e1] at hst;simp only[Instr.storeAt,Instr.sureAddr,uV,uZ,uK,storeVar,sizeOf,typeInfo,run_program,hi,hcells];rw[if_neg (by simp[hsz])];exact hst
     ·cases h2
    ·have hst:=q4r (A:=c.A) (w:=w) hb.inj hg #[v];have hkeep:=hf.keep hst;obtain⟨q1,q2⟩:=qat h3;obtain⟨v',hv',g',u',⟨hg',hat⟩,e,-,-⟩:=hf.t k' _ hl;obtain rfl:=gnI (hg.symm.trans hg');refine⟨fun t y hy=>?_,hkeep.m⟩;by_cases hkt:k'=t
     ·subst hkt;have hy':lkA (q0a (q9i (q2s (k' * 16)) no σ.t) k' (.bx k' T' (keyed k' x))) k'=some y:=hy;rw[q1o] at hy';injection hy' with hy';subst hy';exact⟨v',hv',g,v,⟨hg,hat⟩,e,setRow_heap w g _ _ _ _ hh,AV.kept hst _ _ q1 q2 (z0o x hx)⟩
     ·have hy':lkA (q0a (q9i (q2s (k' * 16)) no σ.t) k' (.bx k' T' (keyed k' x))) t=some y:=hy;rw[q4a hkt] at hy';exact hkeep.t t y hy'
   ·cases h
  ·cases h
 ·cases h
theorem z2e(hb:Bs c.A c.F w0 S0 p w)(hf:SF c σ p w a)(hd:a.defers=d)(hz:a.tmps.size=z){k g:Nat}{T K V:TypeId}{x:AV}(hT:qy T=some (.map K V))(hg:p (k * 16)=some g){u v:Value}(hh:w.heap[g]? =some (.cells #[u] T (0,0)))(hx:x.pd c p w v)
  (h:qm8 σ k T (.map K V) x=some σ'):∃w',(Instr.storeAt T (.pointer (some ⟨g,0,none⟩)) v).run uA w=.ok () w'∧q09 c w0 S0 d z σ' a w':=by
 unfold qm8 at h;split at h
 ·rename_i k' T' y xv own dep hl hv;split at h
  ·rename_i hkk;simp only[gnB,uQ] at hkk;obtain⟨e1,e2,h3⟩:=hkk;have e1:=gnN e1;have e2:=gnN e2;subst e1 e2;injection h with h;subst h;obtain⟨vs,hp,hcon⟩:=q2y hv hx;have hlen:vs.length=1:=hcon.len.1;have hrun:=q65 hT hh (c0:=[]) (c1:=[u]) (c2:=[]) (by simp) rfl (by simp[hlen]) (hcon.rd (dep':=dep++own.map (·.2)) (fun x hx=>uJ _ hx) (fun x hx=>uH _ hx)) hp;refine⟨_,hrun,p,q61 hb hg (FlW.one hb.flo hh _),?_,hd,hz⟩;have hst:Stab c.A (q2s (k' * 16)) no p w p (w.setRow g ([]++(vs++[])).toArray):=q4r hb.inj hg _;have hno:=q3z h3;have hk:=hf.keep hst;obtain⟨v',hv',g',u',⟨hg',hat⟩,e,-,-⟩:=hf.t k' _ hl;obtain rfl:=gnI (hg.symm.trans hg');have h2:=hk.var (k:=k') (e:=⟨xv,.map K V,own,dep⟩) ⟨g,([]++(vs++[])).toArray,T',hg,setRow_heap w g _ _ T' _ hh,hT,by
    simpa using hcon.kept hst (fun x hx=>hno x (uH _ hx)) (fun x hx=>hno x (uJ _ hx))⟩
   refine⟨fun t y hy=>?_,h2.m⟩;by_cases hkt:k'=t
   ·subst hkt;have hy':lkA (q0a (q9i (q2s (k' * 16)) no σ.t) k' (.ref k' [] 0 (.map K V))) k'=some y:=hy;rw[q1o] at hy';injection hy' with hy';subst hy';exact⟨v',hv',g,hg,e,hat⟩
   ·have hy':lkA (q0a (q9i (q2s (k' * 16)) no σ.t) k' (.ref k' [] 0 (.map K V))) t=some y:=hy;rw[q4a hkt] at hy';exact h2.t t y hy'
  ·cases h
 ·cases h
theorem ze2{k:Nat}{t:Ty}:∀(x:AV){v:Value},x.pd c p w v→(unlv k t x).pd c p w v:=fun x v h=>by
 cases x with
 | lv k' t' =>
  show AV.pd c p w (if uB k' k then .ref k [] 0 t else .lv k' t') v
  split
  ·rename_i hk;have hk:=gnN hk;subst hk;obtain⟨g,cs,T,⟨hg,hat⟩,e,-⟩:=h;exact⟨g,hg,e,hat⟩
  ·exact h
 |_=>exact h
theorem z46(hb:Bs c.A c.F w0 S0 p w)(hf:SF c σ p w a)(hd:a.defers=d)(hz:a.tmps.size=z){T:TypeId}{t:Ty}(hT:qy T=some t){k g:Nat}(hg:p (k * 16)=some g)(hat:c.At k g){cur:Array Value}{T':TypeId}(hh:w.heap[g]? =some (.cells cur T' (0,0)))(hty:qy T'=some t)(hsz:cur.size=t.w){v:Value}{xv:X}{own:List (Nat×Nat)}{dep:List Nat}{vs:List Value}
  (hp:j5 t vs v)(hv:Con c.A p w (xv.ev c.v) t own dep vs)(h:qmh σ k t xv own dep=some σ'):∃w',(Instr.storeAt T (.pointer (some ⟨g,0,none⟩)) v).run uA w=.ok () w'∧q09 c w0 S0 d z σ' a w':=by
 unfold qmh at h;split at h
 ·cases h
 rename_i hnv;split at h
 ·cases h
 ·rename_i h3;injection h with h;subst h;have hlen:=hv.len.1;have hrun:=q65 hT hh (c0:=[]) (c1:=cur.toList) (c2:=[]) (by simp) rfl (by simp[hlen,hsz]) (hv.rd (dep':=dep++own.map (·.2)) (fun x hx=>uJ _ hx) (fun x hx=>uH _ hx)) hp;refine⟨_,hrun,p,q61 hb hg (FlW.var hb.flo hh hty hsz (fun h=>absurd h (by simpa using hnv)) _),?_,hd,hz⟩;have hst:Stab c.A (q2s (k * 16)) no p w p (w.setRow g ([]++(vs++[])).toArray):=q4r hb.inj hg _;have hno:=q3z (by simpa using h3);have hf1:SF c ⟨σ.t.map fun e=>(e.1,unlv k t e.2),σ.m⟩ p w a:=by
   refine⟨fun t' x hx=>?_,hf.m⟩;obtain⟨y,hy,rfl⟩:=q5l (f:=unlv k t) hx;obtain⟨u,h1,h2⟩:=hf.t t' y hy;exact⟨u,h1,ze2 y h2⟩
  exact(hf1.keep hst).var (k:=k) (e:=⟨xv,t,own,dep⟩) ⟨g,([]++(vs++[])).toArray,T',hg,setRow_heap w g _ _ T' _ hh,hty,by
   simpa using hv.kept hst (fun x hx=>hno x (uH _ hx)) (fun x hx=>hno x (uJ _ hx))⟩
theorem zhy{E:TypeId}{te:Ty}(hte:qy E=some te){xs:List X}{dep:List Nat}{cs:Array Value}(h:z2g c p w E xs dep (.agg cs)):cs.size=xs.length * te.w∧One cs.toList:=by
 obtain⟨te',l,hte',e,hl,hr⟩:=h;obtain rfl:=gnI (hte'.symm.trans hte);injection e with e;subst e;have hw:=q66 hte;refine⟨by simpa using hl,fun v hv=>?_⟩;obtain⟨i,hi,rfl⟩:=vM (show v∈l from hv);have hl2:(X.evs c.v xs).length=xs.length:=q79 xs;have hq:i / te'.w<xs.length:=by
  rw[Nat.div_lt_iff_lt_mul hw];omega
 have h1:=(Rd.len _ (hr (i / te'.w) _ (gnK (by omega)))).2;refine h1 _ (List.mem_iff_getElem?.2 ⟨i % te'.w,?_⟩);rw[List.getElem?_take,if_pos (jI _ hw),kD,show i / te'.w * te'.w+i % te'.w=i from by rw[jF];exact Nat.div_add_mod i te'.w,gnK hi]
theorem z2d(hb:Bs c.A c.F w0 S0 p w)(hf:SF c σ p w a)(hd:a.defers=d)(hz:a.tmps.size=z){k g n:Nat}{T E:TypeId}{xs:List X}{dep:List Nat}(hg:p (k * 16)=some g){u:Array Value}{v:Value}(hh:w.heap[g]? =some (.cells u T (0,0)))(hun:u.size=n)(hx:(AV.ar E xs dep).pd c p w v)
  (h:qmt uA σ k T n E xs dep=some σ'):∃w',(Instr.storeAt T (.pointer (some ⟨g,0,none⟩)) v).run uA w=.ok () w'∧q09 c w0 S0 d z σ' a w':=by
 unfold qmt at h;split at h
 ·rename_i i te k' T' n' y hi hte hl;split at h
  ·rename_i hok;simp only[gnB,uQ] at hok;obtain⟨h1,h2,e1,e2,e3,h3,hno0⟩:=hok;have h1:=gnN h1;have h2:=gnN h2;have e1:=gnN e1;have e2:=gnN e2;have e3:=gnN e3;subst e1 e2 e3;injection h with h;subst h;have hx0:z2g c p w E xs dep v:=hx;obtain⟨-,l,-,rfl,-⟩:=hx;obtain⟨hsz,hone⟩:=zhy hte hx0;have hsz:l.length=n':=by
    have:l.toArray.size=l.length:=by simp
    omega
   have hone:One l:=hone;have hst0:=run_storeCells_at uA g 0 T' l 0 u w hh (by omega) hone;have e1:(u.toList.take (0+0)++l++u.toList.drop (0+0+l.length))=l:=by
    have:u.toList.length≤l.length:=by simp;omega
    simp[kT this]
   rw[e1] at hst0;refine⟨w.setRow g l.toArray,?_,p,q61 hb hg (FlW.noTy hb.flo hh (by simpa using hno0) _),?_,hd,hz⟩
   ·have hcells:(Value.agg l.toArray).cells=l.toArray:=rfl;simp only[Instr.storeAt,Instr.sureAddr,uV,uZ,uK,storeVar,sizeOf,typeInfo,run_program,hi,hcells];rw[if_neg (by simp only[uP];omega)];exact hst0
   ·have hst:=q4r (A:=c.A) (w:=w) hb.inj hg l.toArray;have hkeep:=hf.keep hst;have hno:=q3z h3;obtain⟨v',hv',g',u',⟨hg',hat⟩,e,-,-⟩:=hf.t k' _ hl;obtain rfl:=gnI (hg.symm.trans hg');refine⟨fun t y hy=>?_,hkeep.m⟩;by_cases hkt:k'=t
    ·subst hkt;have hy':lkA (q0a (q9i (q2s (k' * 16)) no σ.t) k' (.ax k' T' n' (.ar E xs dep))) k'=some y:=hy;rw[q1o] at hy';injection hy' with hy';subst hy';refine⟨v',hv',g,l.toArray,⟨hg,hat⟩,e,setRow_heap w g _ _ _ _ hh,by simpa using hsz,?_⟩;exact AV.kept hst (.ar E xs dep) _ (fun x hx=>hno x hx) (fun x hx=>by cases hx) hx0
    ·have hy':lkA (q0a (q9i (q2s (k' * 16)) no σ.t) k' (.ax k' T' n' (.ar E xs dep))) t=some y:=hy;rw[q4a hkt] at hy';exact hkeep.t t y hy'
  ·cases h
 ·cases h
theorem zbn(hb:Bs c.A c.F w0 S0 p w)(hf:SF c σ p w a)(hc:hold c.v cs=true)(hd:a.defers=d)(hz:a.tmps.size=z)(hdst:o.dst=none){T:TypeId}{y x:Operand}(heq:o.op=.store T y x)(h:qxu uA σ cs T y x=some σ')(hfl:∀xx t dep pin i path q te,opd σ cs y=some (.rd xx t dep (some (pin,i,path,q,te)))→c.F.mx te≤(i.ev c.v).int.toNat)(hnv:∀k path q t e,opd σ cs y=some (.ref k path q t)→lkA σ.m k=some e→nvB e.t=true→c.F.mx e.t=0){Q:Exit→Act→World→Prop}:
  o.wp uA a w (q09 c w0 S0 d z σ') Q:=by
 have fin:∀{w':World},(Instr.storeAt T (a.eval y) (a.eval x)).run uA w=.ok () w'→q09 c w0 S0 d z σ' a w'→o.wp uA a w (q09 c w0 S0 d z σ') Q:=fun{w'}hr hp=>by
  have hrun:(execOp a.eval o).run uA w=.ok .skip w':=by
   generalize a.eval=r at *;simp[execOp,heq,hr]
  unfold Oper.wp;rw[hrun]
  show q09 c w0 S0 d z σ' (a.put o.dst undef) w'
  rw[hdst];exact hp
 unfold qxu at h;split at h
 ·rename_i k path oo t hy;obtain⟨g,hg,hev,-⟩:=z4 hf hc hy;split at h
  ·rename_i hT;split at h
   ·rename_i xv ownv depv hx;obtain⟨y',hx1,hx2⟩:=uG.1 hx;obtain⟨vs,hp,hcon⟩:=z6m hx2 (z4 hf hc hx1);obtain⟨w',h1,h2⟩:=qyq hb hf hd hz (q3y hT) hg (fun e he hv=>hnv _ _ _ _ _ hy he hv) hp hcon h;exact fin (by rw[hev];exact h1) h2
   ·cases h
  ·cases h
 ·rename_i xx t dep pin i path q te hy;obtain⟨b,o1,vo,hev,hFb,hr,h0,hrd,hw1,hw2,hw3⟩:=z4 hf hc hy;split at h
  ·rename_i hT;split at h
   ·rename_i xv ownv depv hx;obtain⟨y',hx1,hx2⟩:=uG.1 hx;obtain⟨vs,hp,hcon⟩:=q2y hx2 (z4 hf hc hx1);have hcon2:Con c.A p w (xv.ev c.v) t [] (if ownv.isEmpty then depv else uni (ownv.map (·.2)) depv) vs:=by
     cases ownv with
     |nil=>exact hcon
     |cons e l=>exact Con.of_rd (hcon.rd (fun x hx=>q5f hx) (fun x hx=>q2m hx))
    obtain⟨σ1,h0',rfl⟩:=kP.1 h;obtain⟨w',h1,⟨⟨c0,c1,c2,hel⟩,htt⟩,hb2,hf2,hd2,hz2⟩:=z2t (x:=xx) hb hf hd hz (q3y hT) hw1 hw2 hw3 (hfl _ _ _ _ _ _ _ _ hy) hr hrd hp hcon2 h0';exact fin (by rw[hev];exact h1) ⟨p,hb2,zf8 hel hw3 htt hf hf2 hp,hd2,hz2⟩
   ·cases h
  ·cases h
 ·rename_i k t hy;obtain⟨g,cur,T',⟨hg,hat⟩,hev,hh,hty,hsz⟩:=z4 hf hc hy;split at h
  ·rename_i hT;split at h
   ·rename_i xv own dep hx;obtain⟨y',hx1,hx2⟩:=uG.1 hx;obtain⟨vs,hp,hcon⟩:=q2y hx2 (z4 hf hc hx1);obtain⟨w',h1,h2⟩:=z46 hb hf hd hz (q3y hT) hg hat hh hty hsz hp hcon h;exact fin (by rw[hev];exact h1) h2
   ·cases h
  ·cases h
 ·rename_i k T' y' hy;obtain⟨g,u,⟨hg,-⟩,hev,hh,-⟩:=z4 hf hc hy;split at h
  ·rename_i hT;have hT:=gnN hT;subst hT;split at h
   ·rename_i x' hx;split at h
    ·rename_i K V hT;obtain⟨w',h1,h2⟩:=z2e hb hf hd hz hT hg hh (z4 hf hc hx) h;exact fin (by rw[hev];exact h1) h2
    ·obtain⟨h1,h2⟩:=z43 hb hf hd hz hg hh (z4 hf hc hx) h;exact fin (by rw[hev];exact h1) h2
   ·cases h
  ·cases h
 ·rename_i k T' n y' hy;obtain⟨g,u,⟨hg,-⟩,hev,hh,hn,-⟩:=z4 hf hc hy;split at h
  ·rename_i hT;have hT:=gnN hT;subst hT;split at h
   ·rename_i E xs dep hx;obtain⟨w',h1,h2⟩:=z2d hb hf hd hz hg hh hn (z4 hf hc hx) h;exact fin (by rw[hev];exact h1) h2
   ·cases h
  ·cases h
 ·cases h
end
end
section
theorem qqw{w:World}{F:Nat→Prop}{te:Ty}{b o:Nat}:∀(l:List D)(i:Nat),RdE w F l te (some ⟨b,o,none⟩) i→∃news:List Value,news.length=l.length * te.w∧(∀j u,news[j]? =some u→w.cell? ⟨b,o+i * te.w+j,none⟩=some u)∧One news∧
  ∀j(h:j<l.length),Rd w F l[j] te ((news.drop (j * te.w)).take te.w)
 |[],i,_=>⟨[],by simp,fun j u h=>by simp at h,fun c hc=>(by cases hc),fun j h=>by simp at h⟩
 | d :: l, i, ⟨⟨b', o', vs, e, hF, hr, hd⟩, h2⟩ => by
  injection e with e;injection e with e1 e2;subst e1 e2;obtain⟨news,n1,n2,n3,n4⟩:=qqw l (i+1) h2;obtain⟨hl,hone⟩:=Rd.len d hd;refine⟨vs++news,by simp[n1,hl,uO];omega,fun j u hj=>?_,fun c hc=>?_,fun j hj=>?_⟩
  ·by_cases hjl:j<vs.length
   ·rw[uI hjl] at hj;exact hr j u hj
   ·rw[uD (by omega)] at hj;have:=n2 _ u hj;rw[show o+i * te.w+j=o+(i+1) * te.w+(j - vs.length) by rw[uO];omega];exact this
  ·rcases vU.1 hc with h|h
   ·exact hone c h
   ·exact n3 c h
  ·cases j with
   |zero=>
    simp only[vJ,vY,List.getElem_cons_zero];rw[←hl,vF];exact hd
   |succ j=>
    have:=n4 j (by simpa using hj);rw[show(j+1) * te.w=vs.length+j * te.w by rw[uO];omega,vR,kT (by omega),kH];simpa using this
section
variable{A:Nat→Prop}{F:Flr}{p:z6}{w w0:World}{S0:Nat→Prop}
theorem qhb{o:Obj}{k:Nat}(h:k<w.heap.size):(w.drew.alloc o).heap[k]? =w.heap[k]? :=by
 rw[hget,if_neg (by show ¬k=w.heap.size;omega)];rfl
theorem qie{o:Obj}:(w.drew.alloc o).heap[w.heap.size]? =some o:=by
 rw[hget,if_pos (by rfl)]
theorem qfg{o:Obj}:(w.drew.alloc o).heap.size=w.heap.size+1:=by
 rw[hsize];rfl
def qy9(p:z6)(pin:Option Nat)(P':Nat)(g:Option Nat):z6:=fun y=>if y=P' then g else if some y=pin then none else p y
theorem qfu{pin:Option Nat}{P':Nat}{g:Option Nat}:qy9 p pin P' g P'=g:=if_pos rfl
theorem qi7{pin:Option Nat}{P':Nat}{g:Option Nat}{y:Nat}(h1:y≠P')(h2:some y≠pin):qy9 p pin P' g y=p y:=by unfold qy9;rw[if_neg h1,if_neg h2]
theorem q0k{pin:Option Nat}{P':Nat}{g:Option Nat}{y b:Nat}(h:qy9 p pin P' g y=some b):(y=P'∧g=some b)∨(y≠P'∧some y≠pin∧p y=some b):=by
 unfold qy9 at h;split at h
 ·rename_i e;exact .inl ⟨e,h⟩
 ·rename_i e;split at h
  ·cases h
  ·rename_i e2;exact .inr ⟨e,e2,h⟩
def qiq(pin:Option Nat)(P':Nat):Nat→Bool:=fun y=>uB y P'||(match pin with|some x=>uB y x|none=>false)
theorem qq6{pin:Option Nat}{P' y:Nat}(h:qiq pin P' y=false):y≠P'∧some y≠pin:=by
 unfold qiq at h;simp only[uX] at h;refine⟨fun e=>by subst e;simp at h,fun e=>?_⟩;subst e;simp at h
structure AppOut(A:Nat→Prop)(F:Flr)(w0:World)(S0:Nat→Prop)(p:z6)(w:World)(pin:Option Nat)(P':Nat)(E:TypeId)(te:Ty)(n:Nat)(news:List Value)(m:Nat)(v':Value)(p':z6)(w':World):Prop where
 bs:Bs A F w0 S0 p' w'
 stab:Stab A (qiq pin P') (qiq pin P') p w p' w'
 res:(v'=.slice none 0 0∧n+m=0)∨∃g' cap' cur',v'=.slice (some ⟨g',0,none⟩) (n+m) cap'∧p' P'=some g'∧w'.heap[g']? =some (.cells cur' E (0,0))∧n+m≤cap'∧cap'≤maxLen∧cur'.size=cap' * te.w∧
  (∀j u,news[j]? =some u→cur'[n * te.w+j]? =some u)∧(0<n→∃x g cur,pin=some x∧p x=some g∧w.heap[g]? =some (.cells cur E (0,0))∧∀j,j<n * te.w→cur'[j]? =cur[j]?)
 old:∀x g,pin=some x→p x=some g→(A g∧qcc p' g∧w'.heap[g]? =w.heap[g]?)∨(p' P'=some g∧∀cur,w.heap[g]? =some (.cells cur E (0,0))→∃cur',w'.heap[g]? =some (.cells cur' E (0,0))∧∀j,j<n * te.w→cur'[j]? =cur[j]?)
theorem z4s{pin:Option Nat}{P':Nat}(hb:Bs A F w0 S0 p w)(hP:∀b,p P'=some b→pin=some P')(cs:Array Value)(E:TypeId):
  Bs A F w0 S0 (qy9 p pin P' (some w.heap.size)) (w.drew.alloc (.cells cs E))∧Stab A (qiq pin P') (qiq pin P') p w (qy9 p pin P' (some w.heap.size)) (w.drew.alloc (.cells cs E)):=by
 have hsz:w0.heap.size≤w.heap.size:=hb.but.size;have hheap:∀k,k<w.heap.size→(w.drew.alloc (.cells cs E)).heap[k]? =w.heap[k]? :=fun k hk=>qhb hk;constructor
 ·refine⟨fun y z b hy hz=>?_,fun y b hy=>?_,hb.but.drew.alloc _,fun y b hy=>?_,hb.new,fun y b hy=>?_,fun y b hy=>?_,hb.flo.same fun k hk _=>hheap k hk⟩
  ·rcases q0k hy with⟨rfl,e1⟩|⟨h1,h2,h3⟩
   ·injection e1 with e1;subst e1;rcases q0k hz with⟨rfl,e2⟩|⟨h4,h5,h6⟩
    ·rfl
    ·have:=hb.bd z _ h6;omega
   ·rcases q0k hz with⟨rfl,e2⟩|⟨h4,h5,h6⟩
    ·injection e2 with e2;subst e2;have:=hb.bd y _ h3;omega
    ·exact hb.inj y z b h3 h6
  ·rcases q0k hy with⟨rfl,e1⟩|⟨h1,h2,h3⟩
   ·injection e1 with e1;subst e1;rw[qfg];omega
   ·have:=hb.bd y b h3;rw[qfg];omega
  ·rcases q0k hy with⟨rfl,e1⟩|⟨h1,h2,h3⟩
   ·injection e1 with e1;exact .inr (by omega)
   ·exact hb.pin y b h3
  ·rcases q0k hy with⟨rfl,e1⟩|⟨h1,h2,h3⟩
   ·injection e1 with e1;exact(hb.new b (by omega)).1
   ·exact hb.pa y b h3
  ·rcases q0k hy with⟨rfl,e1⟩|⟨h1,h2,h3⟩
   ·injection e1 with e1;subst e1;exact .inl ⟨cs,E,qie⟩
   ·exact(hb.obj y b h3).same (hheap b (hb.bd y b h3))
 ·refine⟨by rw[qfg];omega,fun b hlt ha hf=>⟨hheap b hlt,fun y hy=>?_⟩,fun y b hz hy=>?_,fun y b hz hy=>hheap b (hb.bd y b hy)⟩
  ·rcases q0k hy with⟨rfl,e1⟩|⟨h1,h2,h3⟩
   ·injection e1 with e1;omega
   ·exact hf y h3
  ·obtain⟨h1,h2⟩:=qq6 hz;rw[qi7 h1 h2];exact hy
theorem z0b{T E:TypeId}{te:Ty}(hT:qy T=some (.row E))(hte:qy E=some te){i:TypeInfo}(hi:uA.info? E=some i)(hsz:i.size=te.w){zv:Value}(hzl:zv.cells.size=te.w){pin:Option Nat}{P':Nat}(hb:Bs A F w0 S0 p w)(hP:∀b,p P'=some b→pin=some P'){n m:Nat}{va:Value}(hfl:∀x,pin=some x→F.mx te≤n)
    (hva:(va=.slice none 0 0∧n=0)∨∃x g cap cur,pin=some x∧va=.slice (some ⟨g,0,none⟩) n cap∧p x=some g∧w.heap[g]? =some (.cells cur E (0,0))∧n≤cap∧cap≤maxLen∧cur.size=cap * te.w)
    {news:List Value}(hl:news.length=m * te.w)(hmx:n+m≤maxLen){R:Value→World→Prop}
    (R0:va=.slice none 0 0→m=0→R (.slice none 0 0) w)
    (R1:va=.slice none 0 0→m≠0→R (.slice (some ⟨w.heap.size,0,none⟩) m (grownCap w m 0 E)) (w.drew.alloc (.cells (news.toArray++uL zv.cells (grownCap w m 0 E - m)) E)))
    (R2:∀x g cap cur,pin=some x→va=.slice (some ⟨g,0,none⟩) n cap→p x=some g→w.heap[g]? =some (.cells cur E (0,0))→n≤cap→cap≤maxLen→cur.size=cap * te.w→n+m≤cap→R (.slice (some ⟨g,0,none⟩) (n+m) cap) (w.setRow g (cur.toList.take (n * te.w)++news++cur.toList.drop (n * te.w+news.length)).toArray))
    (R3:∀x g cap cur,pin=some x→va=.slice (some ⟨g,0,none⟩) n cap→p x=some g→w.heap[g]? =some (.cells cur E (0,0))→n≤cap→cap≤maxLen→cur.size=cap * te.w→¬n+m≤cap→R (.slice (some ⟨w.heap.size,0,none⟩) (n+m) (grownCap w (n+m) cap E)) (w.drew.alloc (.cells ((cur.toList.take (n * te.w)).toArray++news.toArray++uL zv.cells (grownCap w (n+m) cap E - (n+m))) E))):
    ∃v' p' w',R v' w'∧AppOut A F w0 S0 p w pin P' E te n news m v' p' w':=by
  rcases hva with⟨rfl,rfl⟩|⟨x,g,cap,cur,rfl,rfl,hg,hh,q1,q2,q3⟩
  · by_cases hm:m=0
    · subst hm;have hn0:news=[]:=uR (by simpa using hl);subst hn0;refine⟨.slice none 0 0,qy9 p pin P' none,w,?_,?_⟩
      · exact R0 rfl rfl
      · refine⟨⟨fun y z b hy hz=>?_,fun y b hy=>?_,hb.but,fun y b hy=>?_,hb.new,fun y b hy=>?_,fun y b hy=>?_,hb.flo⟩,⟨kI _,fun b hlt ha hf=>⟨rfl,fun y hy=>?_⟩,fun y b hz hy=>?_,fun y b hz hy=>rfl⟩,.inl ⟨rfl,rfl⟩,fun x g hx hg=>.inl ⟨hb.pa x g hg,fun y hy=>?_,rfl⟩⟩
        all_goals first
          | (rcases q0k hy with ⟨-, e⟩ | ⟨a1, a2, a3⟩
             · cases e
             · first
               |exact hb.bd y b a3
               |exact hb.pin y b a3
               |exact hb.pa y b a3
               |exact hb.obj y b a3
               |exact hf y a3
               | (rcases q0k hz with ⟨-, e⟩ | ⟨b1, b2, b3⟩
                  · cases e
                  · exact hb.inj y z b a3 b3)
               |(have:=hb.inj y x g a3 hg;subst this;exact a2 hx.symm))
          |(obtain⟨z1,z2⟩:=qq6 hz;rw[qi7 z1 z2];exact hy)
    · have hr:=R1 rfl hm;have hge:=grownCap_ge w m 0 E;have hcm:=grownCap_le_maxLen w m 0 E (by omega);obtain⟨n1,n2⟩:=z4s hb hP (news.toArray++uL zv.cells (grownCap w m 0 E - m)) E;refine⟨_,_,_,hr,n1,n2,.inr ⟨w.heap.size,_,_,by rw[uE],qfu,qie,by omega,hcm,?_,fun j u hj=>?_,fun h0=>absurd h0 (by omega)⟩,fun x g hx hg=>.inl ⟨hb.pa x g hg,fun y hy=>?_,qhb (hb.bd x g hg)⟩⟩
      · simp only[kN,uP,size_zeroCells,hzl,hl,←uO]
        congr 1
        omega
      · have hlt:=(gnH.1 hj).1;rw[vJ,uE,kE (by simpa using hlt)];simpa using hj
      · rcases q0k hy with⟨-,e⟩|⟨a1,a2,a3⟩
        · injection e with e;have:=hb.bd x g hg;omega
        · have:=hb.inj y x g a3 hg;subst this;exact a2 hx.symm
  · by_cases hroom:n+m≤cap
    · have hfit:n * i.size+news.length≤cur.size:=by rw[hsz,hl,q3,←uO];exact uC _ hroom
      have hr:=R2 x g cap cur rfl rfl hg hh q1 q2 q3 hroom;rw[hsz] at hfit;have hcl:(cur.toList.take (n * te.w)).length=n * te.w:=by rw[kC,uT];omega
      have hsize:(cur.toList.take (n * te.w)++news++cur.toList.drop (n * te.w+news.length)).toArray.size=cur.size:=by simp;omega
      have hold:∀j,j<n * te.w→(cur.toList.take (n * te.w)++news++cur.toList.drop (n * te.w+news.length)).toArray[j]? =cur[j]? :=fun j hj=>by
        rw[uU,kO,uI (by omega),uF hj,uN]
      have hheap:=setRow_heap w g cur (cur.toList.take (n * te.w)++news++cur.toList.drop (n * te.w+news.length)).toArray E (0,0) hh;have hbs:=q61 hb hg (FlW.above hb.flo hh hte (uC _ (hfl _ rfl)) hsize hold)
      refine⟨_,qy9 p (some x) P' (some g),_,hr,⟨fun y z b hy hz=>?_,fun y b hy=>?_,hbs.but,fun y b hy=>?_,hb.new,fun y b hy=>?_,fun y b hy=>?_,hbs.flo⟩,⟨by simp,fun b hlt ha hf=>⟨setRow_other w g b _ (fun e=>hf x (by rw[e];exact hg)),fun y hy=>?_⟩,fun y b hz hy=>?_,fun y b hz hy=>?_⟩,
        .inr ⟨g,cap,_,rfl,qfu,hheap,hroom,q2,by rw[hsize];exact q3,fun j u hj=>?_,fun _=>⟨x,g,cur,rfl,hg,hh,hold⟩⟩,fun x' g' hx hg'=>?_⟩
      · rcases q0k hy with⟨rfl,e1⟩|⟨a1,a2,a3⟩
        · injection e1 with e1;subst e1;rcases q0k hz with⟨rfl,e2⟩|⟨b1,b2,b3⟩
          · rfl
          · exact absurd (congrArg some (hb.inj z x _ b3 hg)) b2
        · rcases q0k hz with⟨rfl,e2⟩|⟨b1,b2,b3⟩
          · injection e2 with e2;subst e2;exact absurd (congrArg some (hb.inj y x _ a3 hg)) a2
          · exact hb.inj y z b a3 b3
      · rcases q0k hy with⟨rfl,e1⟩|⟨a1,a2,a3⟩
        · injection e1 with e1;subst e1;simpa using hb.bd x _ hg
        · simpa using hb.bd y b a3
      · rcases q0k hy with⟨rfl,e1⟩|⟨a1,a2,a3⟩
        · injection e1 with e1;subst e1;exact hb.pin x _ hg
        · exact hb.pin y b a3
      · rcases q0k hy with⟨rfl,e1⟩|⟨a1,a2,a3⟩
        · injection e1 with e1;subst e1;exact hb.pa x _ hg
        · exact hb.pa y b a3
      · rcases q0k hy with⟨rfl,e1⟩|⟨a1,a2,a3⟩
        · injection e1 with e1;subst e1;exact hbs.obj x _ hg
        · exact hbs.obj y b a3
      · rcases q0k hy with⟨rfl,e1⟩|⟨a1,a2,a3⟩
        · injection e1 with e1;subst e1;exact hf x hg
        · exact hf y a3
      · obtain⟨z1,z2⟩:=qq6 hz;rw[qi7 z1 z2];exact hy
      · obtain⟨z1,z2⟩:=qq6 hz;refine setRow_other w g b _ fun e=>?_;subst e;exact z2 (congrArg some (hb.inj y x b hy hg))
      · have hlt:=(gnH.1 hj).1;rw[uU,kO,uD (by omega),hcl,kH,uI hlt];exact hj
      · injection hx with hx;subst hx;obtain rfl:=gnI (hg'.symm.trans hg);refine .inr ⟨qfu,fun cur' hc=>?_⟩;rw[hh] at hc;injection hc with hc;injection hc with hc1 hc2;subst hc1;exact⟨_,hheap,hold⟩
    · have hnw:n * te.w≤cur.size:=by rw[q3];exact uC _ q1
      have holdl:(cur.toList.take (n * te.w)).length=n * i.size:=by rw[hsz,kC,uT];omega
      have holds:∀j u,(cur.toList.take (n * te.w))[j]? =some u→w.cell? ((⟨g,0,none⟩:Addr).add j)=some u:=fun j u hj=>by
        have hjl:=(gnH.1 hj).1;rw[Addr.mid_eq,uE,cell_of_row w g j cur E (0,0) hh,←uN];rw[uF (by simp at hjl;omega)] at hj;exact hj
      have hr:=R3 x g cap cur rfl rfl hg hh q1 q2 q3 hroom;have hge:=grownCap_ge w (n+m) cap E;have hcm:=grownCap_le_maxLen w (n+m) cap E hmx;obtain⟨n1,n2⟩:=z4s hb hP ((cur.toList.take (n * te.w)).toArray++news.toArray++uL zv.cells (grownCap w (n+m) cap E - (n+m))) E;refine⟨_,_,_,hr,n1,n2,.inr ⟨w.heap.size,_,_,rfl,qfu,qie,hge,hcm,?_,fun j u hj=>?_,fun _=>⟨x,g,cur,rfl,hg,hh,fun j hj=>?_⟩⟩,fun x' g' hx hg'=>.inl ⟨hb.pa x' g' hg',fun y hy=>?_,qhb (hb.bd x' g' hg')⟩⟩
      · rw[hsz] at holdl;simp only[kN,uP,size_zeroCells,hzl,hl,holdl,←uO]
        congr 1
        omega
      · have hlt:=(gnH.1 hj).1;rw[hsz] at holdl;rw[kE (by rw[kN,uP,uP,holdl];omega),Array.getElem?_append_right (by rw[uP,holdl];omega)];simp only[uP,holdl,kH];simpa using hj
      · rw[hsz] at holdl;rw[kE (by rw[kN,uP,uP,holdl];omega),kE (by rw[uP,holdl];omega),uU,uF hj,uN]
      · injection hx with hx;subst hx;rcases q0k hy with⟨-,e⟩|⟨a1,a2,a3⟩
        · injection e with e;have:=hb.bd _ g' hg';omega
        · have:=hb.inj y _ g' a3 hg';subst this;exact a2 rfl
theorem z5e{T E:TypeId}{te:Ty}(hT:qy T=some (.row E))(hte:qy E=some te){pin:Option Nat}{P':Nat}(hb:Bs A F w0 S0 p w)(hP:∀b,p P'=some b→pin=some P'){n m cb:Nat}{va:Value}(hfl:∀x,pin=some x→F.mx te≤n)
  (hva:(va=.slice none 0 0∧n=0)∨∃x g cap cur,pin=some x∧va=.slice (some ⟨g,0,none⟩) n cap∧p x=some g∧w.heap[g]? =some (.cells cur E (0,0))∧n≤cap∧cap≤maxLen∧cur.size=cap * te.w)
  {Ab:Option Addr}{news:List Value}(hl:news.length=m * te.w)(hnews:∀ad,Ab=some ad→∀j u,news[j]? =some u→w.cell? (ad.add j)=some u)(hAb:Ab=none→m=0)(h1:One news)(hsm:n+m≤LM te)(ty:TypeId):
  ∃v' p' w',(uM #[T,T] ty #[va,.slice Ab m cb]).run uA w=.ok v' w'∧AppOut A F w0 S0 p w pin P' E te n news m v' p' w':=by
 obtain⟨i,hi,hsz,hpos,hby⟩:=q4j hte;obtain⟨hu,-,-⟩:=q1y hT;obtain⟨zv,zvs,hzr,hzp,-,hzl0,hzc⟩:=qg1 hte w (fun _=>True);have hz:i.zero=some zv:=by
  have:=hzr;simp only[zeroValue,typeInfo,uV,run_program,hi,uK,uZ] at this;cases hzz:i.zero with
  |none=>rw[hzz] at this;simp[unsupported,kJ] at this
  |some v=>rw[hzz] at this;simp at this;rw[this]
 have hzl:zv.cells.size=te.w:=by rw[hzc];simpa using hzl0
 have hbytes:(n+m) * i.bytes≤140737488355328:=by
  rw[qkq hte hi];have h1:(n+m) * te.by≤LM te * te.by:=uC _ hsm;have h2:LM te * te.by≤LIM:=vN _ _;have h3:LIM≤140737488355328:=by decide
  omega
 have hsm':n+m≤LIM:=vA hsm (z5b _);have hsm2:n+m≤140737488351232:=hsm';have hmx:n+m≤maxLen:=by unfold maxLen;omega
 have h63:((n+m:Nat):Int)≤9223372036854775807:=by omega
 refine z0b hT hte hi hsz hzl hb hP hfl hva hl hmx (R:=fun v' w'=>(uM #[T,T] ty #[va,.slice Ab m cb]).run uA w=.ok v' w') (fun e hm=>?_) (fun e hm=>?_) (fun x g cap cur _ e hg hh q1 q2 q3 hroom=>?_) (fun x g cap cur _ e hg hh q1 q2 q3 hroom=>?_)
 ·subst e hm;cases Ab with
  |none=>simp[uM,run_underlying hu,sizeOf,typeInfo,hi,vE,kX]
  |some ad=>simp[uM,run_underlying hu,sizeOf,typeInfo,hi,vE,kX,loadCells,loadCellsFrom]
 ·subst e;cases Ab with
  |none=>exact absurd (hAb rfl) hm
  | some ad =>
   have hn0:n=0:=by
    rcases hva with⟨-,h⟩|⟨x,g,cap,cur,-,h,-⟩
    ·exact h
    ·cases h
   subst hn0;exact run_append_nil (P:=uA) w T ty E i zv hu hi hz ad m cb news (by rw[hl,hsz]) (hnews ad rfl) (by omega) (by omega) (by have hb:=hbytes;simp only[uE] at hb;omega)
 ·subst e;cases Ab with
  | none =>
   have hm:=hAb rfl;subst hm;have hn0:news=[]:=uR (by simpa using hl);subst hn0;have:(cur.toList.take (n * te.w)++[]++cur.toList.drop (n * te.w+([]:List Value).length)).toArray=cur:=by
    apply kR;simp
   rw[this,setRow_self w g cur E (0,0) hh];simp[uM,run_underlying hu,sizeOf,typeInfo,hi,vE,kX,q1,storeCells]
  |some ad=>
   have hfit:n * i.size+news.length≤cur.size:=by rw[hsz,hl,q3,←uO];exact uC _ hroom
   have hr:=run_append_room (P:=uA) w T ty E i hu hi g n cap cur hh ad m cb news (by rw[hl,hsz]) (hnews ad rfl) h1 hroom hfit;rw[hsz] at hr;exact hr
 ·subst e;cases Ab with
  |none=>have:=hAb rfl;omega
  | some ad =>
   have holdl:(cur.toList.take (n * te.w)).length=n * i.size:=by
    have:n * te.w≤cur.size:=by rw[q3];exact uC _ q1
    rw[hsz,kC,uT];omega
   have holds:∀j u,(cur.toList.take (n * te.w))[j]? =some u→w.cell? ((⟨g,0,none⟩:Addr).add j)=some u:=fun j u hj=>by
    have hjl:=(gnH.1 hj).1;rw[Addr.mid_eq,uE,cell_of_row w g j cur E (0,0) hh,←uN];rw[uF (by simp at hjl;omega)] at hj;exact hj
   exact run_append_grow (P:=uA) w T ty E i zv hu hi hz ⟨g,0,none⟩ n cap (cur.toList.take (n * te.w)) holdl holds ad m cb news (by rw[hl,hsz]) (hnews ad rfl) (by omega) h63 (growslice_fits (by omega) hbytes)
theorem z86{T E TI:TypeId}{te:Ty}(hT:qy T=some (.row E))(hte:qy E=some te)(hTI:qy TI=some (.int .i64)){pin:Option Nat}{P':Nat}(hb:Bs A F w0 S0 p w)(hP:∀b,p P'=some b→pin=some P'){n m:Nat}{va:Value}(hfl:∀x,pin=some x→F.mx te≤n)
  (hva:(va=.slice none 0 0∧n=0)∨∃x g cap cur,pin=some x∧va=.slice (some ⟨g,0,none⟩) n cap∧p x=some g∧w.heap[g]? =some (.cells cur E (0,0))∧n≤cap∧cap≤maxLen∧cur.size=cap * te.w)
  {zv:Value}(hzv:(zeroValue E).run uA w=.ok zv w)(hzl:zv.cells.size=te.w)(hone:One zv.cells.toList)(hsm:n+m≤LM te)(hm16:m≤16777216)(ty:TypeId):
  ∃v' p' w',(uM #[T,TI] ty #[va,.int .i64 m]).run uA w=.ok v' w'∧AppOut A F w0 S0 p w pin P' E te n (uL zv.cells m).toList m v' p' w':=by
 obtain⟨i,hi,hsz,hpos,hby⟩:=q4j hte;obtain⟨hu,-,-⟩:=q1y hT;obtain⟨huI,-⟩:=q50 hTI;have hz:i.zero=some zv:=by
  have:=hzv;simp only[zeroValue,typeInfo,uV,run_program,hi,uK,uZ] at this;cases hzz:i.zero with
  |none=>rw[hzz] at this;simp[unsupported,kJ] at this
  |some v=>rw[hzz] at this;simp at this;rw[this]
 have hbytes:(n+m) * i.bytes≤140737488355328:=by
  rw[qkq hte hi];have h1:(n+m) * te.by≤LM te * te.by:=uC _ hsm;have h2:LM te * te.by≤LIM:=vN _ _;have h3:LIM≤140737488355328:=by decide
  omega
 have hsm':n+m≤LIM:=vA hsm (z5b _);have hsm2:n+m≤140737488351232:=hsm';have hmb:m * i.bytes≤140737488355328:=vA (uC _ (Nat.le_add_left m n)) hbytes;have hmx:n+m≤maxLen:=by unfold maxLen;omega
 have h63:¬(9223372036854775807<((n:Int)+(m:Int))):=by omega
 have hl:(uL zv.cells m).toList.length=m * te.w:=by rw[uT,size_zeroCells,hzl]
 have hwrap:IntKind.i64.wrap (m:Int)=(m:Int):=qbr (by unfold q2p;rw[gnB];exact⟨decide_eq_true (by omega),decide_eq_true (by omega)⟩);have hneg:¬((m:Int)<0):=by omega
 have hbig:¬(281474976710656<(m:Int) * (i.bytes:Int)):=by
  have h1:((m * i.bytes:Nat):Int)≤((140737488355328:Nat):Int):=Int.ofNat_le.2 hmb;rw[Int.natCast_mul] at h1;omega
 have hposi:¬(m * i.size=0)∨m=0:=by
  rcases vO m with h|h
  ·exact .inr h
  ·exact .inl (Nat.ne_of_gt (jH h (by omega)))
 refine z0b hT hte hi hsz hzl hb hP hfl hva hl hmx (R:=fun v' w'=>(uM #[T,TI] ty #[va,.int .i64 m]).run uA w=.ok v' w') (fun e hm=>?_) (fun e hm=>?_) (fun x g cap cur _ e hg hh q1 q2 q3 hroom=>?_) (fun x g cap cur _ e hg hh q1 q2 q3 hroom=>?_)
 ·subst e hm;have hw0:IntKind.i64.wrap 0=0:=rfl;simp[uM,run_underlying hu,run_underlying huI,sizeOf,typeInfo,hi,asInt,asIntOf,hw0]
 ·subst e;have hn0:n=0:=by
   rcases hva with⟨-,h⟩|⟨x,g,cap,cur,-,h,-⟩
   ·exact h
   ·cases h
  subst hn0;have h48:¬(281474976710656<vG m 0 * i.bytes):=by rw[nextslicecap_zero (by omega)];omega
  have h63':¬(9223372036854775807<(m:Int)):=by omega
  have hposi:=hposi.resolve_right hm;simp[uM,run_underlying hu,run_underlying huI,sizeOf,typeInfo,zeroValue,hi,hz,asInt,asIntOf,hwrap,hneg,hbig,hm,hposi,h63',h48,Question.forced,run_firstCells_none,newRow,grownCap]
 ·subst e;have hfit:n * te.w+m * te.w≤cur.size:=by rw[q3,←uO];exact uC _ hroom
  have hst:=run_storeCells_at uA g (n * te.w) E (uL zv.cells m).toList 0 cur w hh (by rw[hl];omega) (fun v hv=>by
   simp only[uL,Array.toList_map,kS,Array.toList_range,vX] at hv;obtain⟨j,hj,rfl⟩:=hv;have hmod:j % zv.cells.size<zv.cells.size:=jI _ (by
    rcases vO zv.cells.size with h|h
    ·rw[h] at hj;simp at hj
    ·exact h)
   rw[getElem!_pos zv.cells _ hmod];exact hone _ (by simp))
  simp only[kK] at hst;by_cases hm:m=0
  ·subst hm;have e0:uL zv.cells 0= #[]:=by simp[uL]
   rw[e0] at hst⊢;have:(cur.toList.take (n * te.w)++(#[]:Array Value).toList++cur.toList.drop (n * te.w+(#[]:Array Value).toList.length)).toArray=cur:=by
    apply kR;simp
   rw[this,setRow_self w g cur E (0,0) hh];have hw0:IntKind.i64.wrap 0=0:=rfl;simp[uM,run_underlying hu,run_underlying huI,sizeOf,typeInfo,hi,asInt,asIntOf,hw0,q1,storeCells]
  ·have hposi:=hposi.resolve_right hm;have hadd:(⟨g,0,none⟩:Addr).add (n * i.size)=⟨g,n * te.w,none⟩:=by rw[Addr.mid_eq,hsz,uE]
   simp[uM,run_underlying hu,run_underlying huI,sizeOf,typeInfo,zeroValue,hi,hz,asInt,asIntOf,hwrap,hneg,hbig,hm,hposi,hroom,hadd,hst]
 ·subst e;have hm:m≠0:=by omega
  have hposi:=hposi.resolve_right hm;have holdl:(cur.toList.take (n * te.w)).length=n * i.size:=by
   have:n * te.w≤cur.size:=by rw[q3];exact uC _ q1
   rw[hsz,kC,uT];omega
  have holds:∀j u,(cur.toList.take (n * te.w))[j]? =some u→w.cell? ((⟨g,0,none⟩:Addr).add j)=some u:=fun j u hj=>by
   have hjl:=(gnH.1 hj).1;rw[Addr.mid_eq,uE,cell_of_row w g j cur E (0,0) hh,←uN];rw[uF (by simp at hjl;omega)] at hj;exact hj
  have hfo:=run_firstCells_some (P:=uA) w.drew i.size n ⟨g,0,none⟩ n cap (cur.toList.take (n * te.w)) holdl (by simpa using holds);have h48:¬(281474976710656<vG (n+m) cap * i.bytes):=by
   have:=growslice_fits (need:=n+m) (old:=cap) (bytes:=i.bytes) (by omega) hbytes;omega
  simp[uM,run_underlying hu,run_underlying huI,sizeOf,typeInfo,zeroValue,hi,hz,asInt,asIntOf,hwrap,hneg,hbig,hm,hposi,hroom,h63,h48,Question.forced,hfo,newRow,grownCap]
end
end
section
def zdi:X→X→X
 |.row l,.row m=>.row (l++m)
 |.lit (.r []),.row m=>.row m
 |x,y=>.app x y
def z6q(pin P':Nat)(xa x:X)(t:Ty)(own:List (Nat×Nat))(dep:List Nat):Option (List (Nat×Nat)×List Nat):=
  if yk dep pin||(yk dep P'|| !q40 own) then none else match own.filter fun e=>uB e.2 pin with
    |[]=>if yk (own.map (·.2)) P' then none else some (own,dep)
    | [(j, _)] => if yk ((own.filter fun e => e.1 != j).map (·.2)) P' then none else match t with
      |.row _=>if uB j 0&&X.beq x xa then some (own.filter fun e=>e.1 !=j,P'::dep) else none
      | .st S => match flds S with
        | some fs => match fs[j]? with
          |some (.row _)=>if X.beq (.fld x j) xa then some (own.filter fun e=>e.1 !=j,P'::dep) else none
          |_=>none
        |none=>none
      |_=>none
    |_=>none
def q3u(pin P':Nat):Nat→Bool:=fun y=>uB y P'||uB y pin
def zbq(pin P':Nat)(xa:X):AV→AV
 |.v x t own dep=>match z6q pin P' xa x t own dep with
  |some (own',dep')=>.v x t own' dep'
  |none=>.any
 |.wf k j x t own dep _=>if okA (q3u pin P') (q3u pin P') (.wf k j x t own dep .any) then .wf k j x t own dep .any else .any
 |.el o r i (.v x t own dep)=>match z6q pin P' xa x t own dep with
  |some (own',dep')=>if okA (q3u pin P') (q3u pin P') (.el o r i .any) then .el o r i (.v x t own' dep') else .any
  |none=>.any
 |a=>if okA (q3u pin P') (q3u pin P') a then a else .any
def z1s(pin P':Nat)(xa:X):List (Nat×Ent)→List (Nat×Ent)
  |[]=>[]
  | (k, e) :: l => match z6q pin P' xa e.x e.t e.own e.dep with
    |some (own',dep')=>if q3u pin P' (k * 16) then(z1s pin P' xa l).filter (fun y=>y.1 !=k) else(k,⟨e.x,e.t,own',dep'⟩)::z1s pin P' xa l
    |none=>(z1s pin P' xa l).filter fun y=>y.1 !=k
def z7p(te:Ty):X:=.lit (.i (LM te:Nat))
def z62:AV→Option (Option Nat)
 |.nilS=>some none
 |.v _ (.row _) [(0,pin)] _=>some (some pin)
 |_=>none
def qd2(te:Ty)(l:List Nat):List Nat:=if y6 8 te then[] else l
def flN(fb:Ty→Option X)(te:Ty)(x:X):List X:=match fb te with
 |some b=>[leX b (q9p x)]
 |none=>[]
def z7g(c:Cx)(fb:Ty→Option X):Prop:=∀te,match fb te with
 |some b=>c.F.mx te≤(b.ev c.v).int.toNat
 |none=>c.F.mx te=0
theorem z93{c:Cx}{fb:Ty→Option X}(hF:z7g c fb){te:Ty}{x:X}(hn:∀n∈flN fb te x,n.says c.v):c.F.mx te≤(x.ev c.v).rs.length:=by
 have h:=hF te;unfold flN at hn;split at hn
 ·rename_i b hb;rw[hb] at h;have h2:=q0h (hn _ kG);rw[q4u] at h2;have h1:c.F.mx te≤(b.ev c.v).int.toNat:=h;have h3:(b.ev c.v).int≤((x.ev c.v).rs.length:Int):=h2;omega
 ·rename_i hb;rw[hb] at h;have h1:c.F.mx te=0:=h;omega
def qwh(fb:Ty→Option X)(σ:St)(cs:List (X×Bool))(k:Nat)(T:TypeId)(x y:Operand):Option (List X×St):=match qy T with
 | some (.row E) => match qy E with
  | some te => match (opd σ cs x).bind z62 with
   | some none =>
    let σ1:=σ.un (zh k)
    match(opd σ1 cs y).bind (qgu E) with
    |some (xb,ownb,depb)=>
     let dep:=qd2 te (depb)
     if yk dep (k * 16+1) then none else some ([leX (q9p xb) (z7p te)],⟨q0a (q9i (qiq none (k * 16+1)) (qiq none (k * 16+1)) σ1.t) k (.v (zdi (.lit (.r [])) xb) (.row E) [(0,k * 16+1)] dep),qbp (qiq none (k * 16+1)) (qiq none (k * 16+1)) σ1.m⟩)
    |none=>none
   | some (some pin) =>
    let σ1:=σ.un fun z=>zh k z&& !Nat.beq z pin
    match(opd σ1 cs x).bind (qgu E),(opd σ1 cs y).bind (qgu E) with
    | some (xa, [(0, pin')], depa), some (xb, ownb, depb) =>
     let dep:=qd2 te (uni depa depb)
     if uB pin' pin&& !(yk dep pin||yk dep (k * 16+1)) then
      some (leX (qnx (q9p xa) (q9p xb)) (z7p te)::flN fb te xa,⟨q0a (σ1.t.map fun e=>(e.1,zbq pin (k * 16+1) xa e.2)) k (.v (zdi xa xb) (.row E) [(0,k * 16+1)] dep),z1s pin (k * 16+1) xa σ1.m⟩)
     else none
    |_,_=>none
   |none=>none
  |none=>none
 |_=>none
def zf7(σ:St)(cs:List (X×Bool))(E:TypeId)(k:Nat)(x:Operand):Option AV:=match opd σ cs x with
 |some .nilS=>some (.v (.lit (.r [])) (.row E) [(0,k * 16+1)] [])
 |r=>r
def z2p(fb:Ty→Option X)(σ:St)(cs:List (X×Bool))(k:Nat)(T T2:TypeId)(x y:Operand):Option (List X×St):=match qy T with
 | some (.row E) => match qy E with
  | some te => match (zf7 σ cs E k x).bind z62 with
   | some (some pin) =>
    let σ1:=σ.un fun z=>zh k z&& !Nat.beq z pin
    match(zf7 σ1 cs E k x).bind (qgu E),opd σ1 cs y with
    | some (xa, [(0, pin')], depa), some (.v xn (.int .i64) _ _) =>
     let dep:=qd2 te depa
     if uB pin' pin&&(!(yk dep pin||yk dep (k * 16+1))&&(qgd T2 (.int .i64)&& !qb4 te)) then
      some ([leX (.lit (.i 0)) xn,leX xn (.lit (.i 16777216)),leX (qnx (q9p xa) xn) (z7p te)]++flN fb te xa,⟨q0a (σ1.t.map fun e=>(e.1,zbq pin (k * 16+1) xa e.2)) k (.v (.app xa (.rep xn (qen te))) (.row E) [(0,k * 16+1)] dep),z1s pin (k * 16+1) xa σ1.m⟩)
     else none
    |_,_=>none
   |_=>none
  |none=>none
 |_=>none
theorem z4w{e:Ev}(x y:X):(zdi x y).ev e=.r ((x.ev e).rs++(y.ev e).rs):=by
 unfold zdi;split
 ·rename_i l m;have:∀l m:List X,X.evs e (l++m)=X.evs e l++X.evs e m:=by
   intro l m
   induction l with
   |nil=>rfl
   |cons x l ih=>simp[X.evs,ih]
  show D.r (X.evs e (l++m))=_
  rw[this];rfl
 ·rfl
 ·rfl
section
variable{c:Cx}{p p':z6}{w w' w0:World}{S0:Nat→Prop}{a:Act}{σ σ':St}{cs:List (X×Bool)}{o:Oper}{d:List Deferred}{z:Nat}
theorem AppOut.claim{pin P':Nat}{E:TypeId}{te:Ty}(hte:qy E=some te){n m:Nat}{news:List Value}{v':Value}(h:AppOut c.A c.F w0 S0 p w (some pin) P' E te n news m v' p' w')
  (hblk:0<n→∃g cur,p pin=some g∧w.heap[g]? =some (.cells cur E (0,0)))
  {dep:List Nat}(hdep:∀x∈dep,q3u pin P' x=false∧q3u pin P' x=false){E1:TypeId}{te1:Ty}{l:List D}{v:Value}(hte1:qy E1=some te1)(hn:l.length=n)(hv:qpu c.A p w dep pin E1 te1 l v):Rd w' (FFD c.A p' (P'::dep)) (.r l) (.row E1) [v]:=by
 rcases hv with⟨rfl,rfl⟩|⟨g,cap,cur,rfl,hg,hh,h1,h2,h3,h4,h5⟩
 ·exact⟨E1,te1,none,0,rfl,hte1,rfl,by simp,by simp,by simp[maxLen],by simp[RdE]⟩
 ·refine⟨E1,te1,some ⟨g,0,none⟩,cap,rfl,hte1,rfl,h1,h4,h2,q38.2 fun j hj=>?_⟩;obtain⟨g',cur',hg',hh'⟩:=hblk (by omega);obtain rfl:=gnI (hg'.symm.trans hg);rw[hh] at hh';injection hh' with hh';injection hh' with e1 e2;subst e1 e2;obtain rfl:=gnI (hte1.symm.trans hte);obtain⟨vs,hr,hd⟩:=h5 j hj;have hst:Stab c.A (q3u pin P') (q3u pin P') p w p' w':=h.stab;have hd':Rd w' (FFD c.A p' (P'::dep)) l[j] te1 vs:=(Rd.keeps (hst.kp hdep) _ hd).mono fun b _ hb=>hb.mono fun y hy=>kF _ hy;rcases h.old pin g' rfl hg with⟨ha,hf,he⟩|⟨hP,hc⟩
  ·exact⟨g',0,vs,rfl,.inl ⟨ha,hf⟩,by simpa using qbu hr he,hd'⟩
  ·obtain⟨cur2,hc1,hc2⟩:=hc cur hh;refine⟨g',0,vs,rfl,.inr ⟨P',kG,hP⟩,?_,hd'⟩;intro i u hi;have:=hr i u hi;rw[cell_of_row w g' _ cur E1 (0,0) hh] at this;rw[show 0+(0+j) * te1.w+i=j * te1.w+i by rw[uE,uE],cell_of_row w' g' _ cur2 E1 (0,0) hc1,hc2 _ ?_]
   ·exact this
   ·have hi':=(gnH.1 hi).1;rw[(Rd.len _ hd).1] at hi';have:=uC te1.w (show j+1≤n by omega);rw[uO] at this;omega
theorem qjg{own:List (Nat×Nat)}{j i:Nat}:lkA (own.filter fun e=>e.1 !=j) i=if i=j then none else lkA own i:=by
 by_cases h:i=j
 ·subst h;rw[if_pos rfl,zt]
 ·rw[if_neg h,q37 (Ne.symm h)]
theorem qzl{pin P':Nat}{E:TypeId}{te:Ty}(hte:qy E=some te){n m:Nat}{news:List Value}{v':Value}(h:AppOut c.A c.F w0 S0 p w (some pin) P' E te n news m v' p' w')
  (hblk:0<n→∃g cur,p pin=some g∧w.heap[g]? =some (.cells cur E (0,0))){xa:X}(hn:(xa.ev c.v).rs.length=n)
  {x:X}{t:Ty}{own own':List (Nat×Nat)}{dep dep':List Nat}{vs:List Value}(hu:z6q pin P' xa x t own dep=some (own',dep'))(hc:Con c.A p w (x.ev c.v) t own dep vs):Con c.A p' w' (x.ev c.v) t own' dep' vs:=by
 have two:∀{l:List Nat},yk l pin=false→yk l P'=false→∀y∈l,q3u pin P' y=false∧q3u pin P' y=false:=fun{l}h1 h2 y hy=>by
  have:q3u pin P' y=false:=by
   unfold q3u;rw[uX];exact⟨(q3z h2 y hy).1,(q3z h1 y hy).1⟩
  exact⟨this,this⟩
 have hst:Stab c.A (q3u pin P') (q3u pin P') p w p' w':=h.stab;unfold z6q at hu;split at hu
 ·cases hu
 ·rename_i hok;simp only[kU,uQ,not_or,vS,vQ] at hok;obtain⟨hd1,hd2,hnd⟩:=hok;have hdep:=two hd1 hd2;split at hu
  ·rename_i hfil;split at hu
   ·cases hu
   ·rename_i hP;simp only[gnS] at hu;obtain⟨rfl,rfl⟩:=hu;refine hc.kept hst hdep (two ?_ (by simpa using hP));cases hq:yk (own.map (·.2)) pin with
    |false=>rfl
    |true=>
     obtain⟨e,he,e1⟩:=kS.1 (yz.1 hq);have:e∈own.filter (fun e=>uB e.2 pin):=kB.2 ⟨he,by rw[e1];simp⟩;rw[hfil] at this;cases this
  ·rename_i j pin' hfil;obtain⟨ho,hne⟩:=filter_one hnd hfil;split at hu
   ·cases hu
   ·rename_i hP;have hP':yk ((own.filter fun e=>e.1 !=j).map (·.2)) P'=false:=by simpa using hP
    have hoth:∀i y,i≠j→lkA own i=some y→q3u pin P' y=false∧q3u pin P' y=false:=fun i y hi hy=>by
     have hm:y∈(own.filter fun e=>e.1 !=j).map (·.2):=kS.2 ⟨(i,y),kB.2 ⟨q0y hy,by simpa using hi⟩,rfl⟩;have h2:=(q3z hP' y hm).1;have h1:uB y pin=false:=by
      cases hq:uB y pin with
      |false=>rfl
      |true=>rw[gnN hq] at hy;exact absurd hy (hne i hi)
     have:q3u pin P' y=false:=by
      unfold q3u;rw[uX];exact⟨h2,h1⟩
     exact⟨this,this⟩
    split at hu
    ·rename_i E0;split at hu
     ·rename_i hok2;simp only[gnB] at hok2;have hj:=gnN hok2.1;subst hj;have hxx:=X.beq_ok _ _ hok2.2;subst hxx;simp only[gnS] at hu;obtain⟨rfl,rfl⟩:=hu;have hc':Fl c.A p w dep (lkA own 0) (x.ev c.v) (.row E0) vs:=hc;rw[ho] at hc';rcases hc'.symm with⟨K,V,kt,vt,lm,gm,es,clock,em,-⟩|⟨E1,te1,l,v,q1,q2,q3,q4,q5⟩
      ·cases em
      injection q1 with q1;subst q1 q4
      show Fl c.A p' w' (P'::dep) (lkA (own.filter fun e=>e.1 !=0) 0) (x.ev c.v) (.row E0) [v]
      rw[qjg,if_pos rfl,q3];exact h.claim hte hblk hdep q2 (by rw[←hn,q3];rfl) q5
     ·cases hu
    ·rename_i S;split at hu
     ·rename_i fs hfs;split at hu
      ·rename_i E0 hj;split at hu
       ·rename_i hok2;have hxx:=X.beq_ok _ _ hok2;simp only[gnS] at hu;obtain⟨rfl,rfl⟩:=hu;obtain⟨fs',ds,hf',hds,hfl⟩:=hc;obtain rfl:=gnI (hf'.symm.trans hfs);refine⟨_,ds,hf',hds,?_⟩
        have key:∀{ds:List D}{k j:Nat}{fs:List Ty}{vs:List Value},Fls c.A p w dep own k ds fs vs→fs[j]? =some (.row E0)→lkA own (k+j)=some pin→(∀i y,i≠k+j→lkA own i=some y→q3u pin P' y=false∧q3u pin P' y=false)→(ds.getD j .u).rs.length=n→
          Fls c.A p' w' (P'::dep) (own.filter fun e=>e.1 !=k+j) k ds fs vs:=by
         intro ds
         induction ds with
         |nil=>rintro k j fs vs⟨h1,h2⟩hj;subst h1;simp at hj
         | cons d ds ih =>
          rintro k j fs vs⟨t,ts,a1,a2,rfl,rfl,h1,h2⟩hj ho' hoth' hlen;cases j with
          | zero =>
           simp at hj;subst hj;rw[kK] at ho'⊢;rw[ho'] at h1;rcases h1.symm with⟨K,V,kt,vt,lm,gm,es,clock,em,-⟩|⟨E1,te1,l,v,q1,q2,q3,q4,q5⟩
           ·cases em
           injection q1 with q1;subst q1 q3 q4;refine⟨_,ts,_,a2,rfl,rfl,?_,?_⟩
           ·rw[qjg,if_pos rfl];exact h.claim hte hblk hdep q2 (by simpa[D.rs] using hlen) q5
           ·refine Fls.congr (fun i hi=>by rw[qjg,if_neg (by omega)]) (Fls.mono (fun y hy=>kF _ hy) (Fls.kept' hst hdep (fun i y hi hy=>hoth' i y (by omega) hy) h2))
          | succ j =>
           refine⟨t,ts,a1,a2,rfl,rfl,?_,?_⟩
           ·rw[qjg,if_neg (by omega)];exact Fl.mono (fun y hy=>kF _ hy) (h1.kept hst hdep fun y hy=>hoth' k y (by omega) hy)
           ·have:=ih (k:=k+1) (j:=j) h2 (by simpa using hj) (by rw[show k+1+j=k+(j+1) by omega];exact ho') (fun i y hi hy=>hoth' i y (by omega) hy) (by simpa using hlen);rw[show k+1+j=k+(j+1) by omega] at this;exact this
        have:=key (k:=0) (j:=j) hfl hj (by rw[uE];exact ho) (fun i y hi hy=>hoth i y (by omega) hy) (by
         have hx:(ds.getD j .u)=xa.ev c.v:=by rw[←hxx];show _=(x.ev c.v).fld j;rw[hds];rfl
         rw[hx];exact hn)
        rw[uE] at this;exact this
       ·cases hu
      ·cases hu
     ·cases hu
    ·cases hu
  ·cases hu
theorem zf2{pin P':Nat}{xa:X}{l:List (Nat×Ent)}{k:Nat}{e:Ent}(h:lkA (z1s pin P' xa l) k=some e):
  ∃e0 own' dep',lkA l k=some e0∧z6q pin P' xa e0.x e0.t e0.own e0.dep=some (own',dep')∧e=⟨e0.x,e0.t,own',dep'⟩∧q3u pin P' (k * 16)=false:=by
 induction l with
 |nil=>cases h
 | cons y l ih =>
  obtain⟨m,y⟩:=y;unfold z1s at h;split at h
  ·rename_i x' dep' hu;split at h
   ·by_cases hm:m=k
    ·subst hm;rw[zt] at h;cases h
    ·rw[q37 hm] at h;rw[qf hm];exact ih h
   ·rename_i hpin;by_cases hm:m=k
    ·subst hm;rw[qb] at h;injection h with h;exact⟨y,x',dep',qb,hu,h.symm,by simpa using hpin⟩
    ·rw[qf hm] at h⊢;exact ih h
  ·by_cases hm:m=k
   ·subst hm;rw[zt] at h;cases h
   ·rw[q37 hm] at h;rw[qf hm];exact ih h
theorem AppOut.own{pin:Option Nat}{P':Nat}{E:TypeId}{te:Ty}(hte:qy E=some te){la lb:List D}{news:List Value}{v':Value}(h:AppOut c.A c.F w0 S0 p w pin P' E te la.length news lb.length v' p' w'){dep:List Nat}(hsm:la.length+lb.length≤LM te)
  (hnl:news.length=lb.length * te.w)(hnews:∀j(h:j<lb.length),Rd w' (FFD c.A p' dep) lb[j] te ((news.drop (j * te.w)).take te.w))
  (hold:∀x g,pin=some x→p x=some g→∀j(h:j<la.length),∃vs,w.rangeAt g (j * te.w) vs∧Rd w' (FFD c.A p' dep) la[j] te vs):qpu c.A p' w' dep P' E te (la++lb) v':=by
 rcases h.res with⟨rfl,h0⟩|⟨g',cap',cur',rfl,hP,hh,h1,h2,h3,h4,h5⟩
 ·have ha:la=[]:=uR (by omega);have hb:lb=[]:=uR (by omega);subst ha hb;exact .inl ⟨rfl,rfl⟩
 ·refine .inr ⟨g',cap',cur',by simp,hP,hh,by simpa using h1,h2,h3,by simp only[uW];omega,fun i hi=>?_⟩;by_cases hia:i<la.length
  ·obtain⟨x,g,cur,hx,hg,hc,hcc⟩:=h5 (by omega);obtain⟨vs,hr,hd⟩:=hold x g hx hg i hia;refine⟨vs,fun j u hj=>?_,by rw[List.getElem_append_left hia];exact hd⟩;have hj':=(gnH.1 hj).1;rw[(Rd.len _ hd).1] at hj';have hlt:i * te.w+j<la.length * te.w:=by
    have:=uC te.w (show i+1≤la.length by omega);rw[uO] at this;omega
   rw[cell_of_row w' g' _ cur' E (0,0) hh,hcc _ hlt];have:=hr j u hj;rw[cell_of_row w g _ cur E (0,0) hc] at this;exact this
  ·have hib:i - la.length<lb.length:=by simp at hi;omega
   refine⟨_,fun j u hj=>?_,by rw[List.getElem_append_right (by omega)];exact hnews (i - la.length) hib⟩;rw[cell_of_row w' g' _ cur' E (0,0) hh];have hj':=(gnH.1 hj).1;simp only[kC] at hj';rw[uF (by omega),kD] at hj;have:=h4 _ u hj;rw[←this]
   congr 1
   have:i * te.w=la.length * te.w+(i - la.length) * te.w:=by rw[←uO];congr 1;omega
   omega
end
end
section
section
variable{c:Cx}{p p':z6}{w w' w0:World}{S0:Nat→Prop}{a:Act}{σ σ':St}{cs:List (X×Bool)}{o:Oper}{d:List Deferred}{z:Nat}
theorem SF.app{pin P':Nat}{E:TypeId}{te:Ty}(hte:qy E=some te){n m:Nat}{news:List Value}{v':Value}(h:AppOut c.A c.F w0 S0 p w (some pin) P' E te n news m v' p' w')
  (hblk:0<n→∃g cur,p pin=some g∧w.heap[g]? =some (.cells cur E (0,0))){xa:X}(hn:(xa.ev c.v).rs.length=n)(hf:SF c σ p w a):SF c ⟨σ.t.map fun e=>(e.1,zbq pin P' xa e.2),z1s pin P' xa σ.m⟩ p' w' a:=by
 have hst:Stab c.A (q3u pin P') (q3u pin P') p w p' w':=h.stab;refine⟨fun t x hx=>?_,fun k e he=>?_⟩
 ·obtain⟨y,hy,rfl⟩:=q5l (f:=zbq pin P' xa) hx;obtain⟨v,h1,h2⟩:=hf.t t y hy;refine⟨v,h1,?_⟩;have gen:∀y:AV,y.pd c p w v→(if okA (q3u pin P') (q3u pin P') y then y else AV.any).pd c p' w' v:=fun y hy=>by
   split
   ·rename_i hok;exact AV.kept hst y v (qat hok).1 (qat hok).2 hy
   ·trivial
  unfold zbq;split
  ·rename_i x t own dep;split
   ·rename_i own' dep' hu;obtain⟨vs,hp,hc⟩:=h2;exact⟨vs,hp,qzl hte h hblk hn hu hc⟩
   ·trivial
  ·exact gen _ ⟨h2.1,trivial⟩
  ·rename_i el0 r0 i0 x0 t0 own0 dep0;split
   ·rename_i own' dep' hu;split
    ·rename_i hok;obtain⟨hel,vs,hp,hc⟩:=h2;exact⟨(AV.kept hst (.el el0 r0 i0 .any) v (qat hok).1 (qat hok).2 ⟨hel,trivial⟩).1,vs,hp,qzl hte h hblk hn hu hc⟩
    ·trivial
   ·trivial
  ·exact gen _ h2
 ·obtain⟨e0,own',dep',h1,h2,rfl,h3⟩:=zf2 he;obtain⟨g',vs,T,hg',hh,hty,hc⟩:=hf.m k e0 h1;exact⟨g',vs,T,hst.loc _ _ h3 hg',(hst.con _ _ h3 hg').trans hh,hty,qzl hte h hblk hn h2 hc⟩
theorem z47{y:AV}{r:Option Nat}(h:z62 y=some r):(r=none∧y=.nilS)∨∃pin x E dep,r=some pin∧y=.v x (.row E) [(0,pin)] dep:=by
 unfold z62 at h;split at h
 ·injection h with h;exact .inl ⟨h.symm,rfl⟩
 ·injection h with h;exact .inr ⟨_,_,_,_,h.symm,rfl⟩
 ·cases h
theorem z5g{E:TypeId}{te:Ty}(hte:qy E=some te){xb:X}{ownb:List (Nat×Nat)}{depb:List Nat}{v:Value}(hcon:Con c.A p w (xb.ev c.v) (.row E) ownb depb [v]):
  ∃Ab capb,v=.slice Ab (xb.ev c.v).rs.length capb∧∃news:List Value,news.length=(xb.ev c.v).rs.length * te.w∧(∀ad,Ab=some ad→∀j u,news[j]? =some u→w.cell? (ad.add j)=some u)∧One news∧(Ab=none→(xb.ev c.v).rs.length=0)∧
   ∀j(h:j<(xb.ev c.v).rs.length),Rd w (FFD c.A p depb) (xb.ev c.v).rs[j] te ((news.drop (j * te.w)).take te.w):=by
 obtain⟨te',Ab,capb,hte',hdb,hevb,q1,q2,q3,hE⟩:=hcon.row;obtain rfl:=gnI (hte'.symm.trans hte)
 -- the elements hang on less than the row
 have hel:∀j(h:j<(xb.ev c.v).rs.length),∃b o cs,Ab=some ⟨b,o,none⟩∧w.rangeAt b (o+j * te'.w) cs∧Rd w (FFD c.A p depb) (xb.ev c.v).rs[j] te' cs:=fun j hj=>by
  have hc0:Fl c.A p w depb (lkA ownb 0) (xb.ev c.v) (.row E) [v]:=hcon;cases ho:lkA ownb 0 with
  | none =>
   rw[ho] at hc0;have hr:Rd w (FFD c.A p depb) (xb.ev c.v) (.row E) [v]:=hc0;have hr:=hr.asR;obtain⟨E',te2,A2,cap2,e1,e2,e3,-,-,-,e4⟩:=hr;injection e1 with e1;subst e1;obtain rfl:=gnI (hte.symm.trans e2);obtain rfl:Ab=A2:=by
    rw[hevb] at e3;injection e3 with e3;injection e3
   obtain⟨b,o,cs,g1,-,g2,g3⟩:=q38.1 e4 j hj;exact⟨b,o,cs,g1,by simpa using g2,g3⟩
  | some pin =>
   rw[ho] at hc0;rcases hc0.symm with⟨K,V,kt,vt,l,g,es,clock,e1,-⟩|⟨E',te2,l,v2,e1,e2,e3,e4,hv⟩
   ·cases e1
   injection e1 with e1;subst e1;obtain rfl:=gnI (hte.symm.trans e2);injection e4 with e4;subst e4;have hl:(xb.ev c.v).rs=l:=by rw[e3];rfl
   rcases hv with⟨-,hl0⟩|⟨g,cap,cur,e5,-,-,-,-,-,-,e6⟩
   ·rw[hl,hl0] at hj;simp at hj
   ·obtain⟨cs,g2,g3⟩:=e6 j (by rw[←hl];exact hj);rw[hevb] at e5;injection e5 with e5;refine⟨g,0,cs,e5,by simpa using g2,?_⟩;have:(xb.ev c.v).rs[j]=l[j]'(by rw[←hl];exact hj):=by
     congr 1
    rw[this];exact g3
 refine⟨Ab,capb,hevb,?_⟩;by_cases h0:(xb.ev c.v).rs.length=0
 ·refine⟨[],by simp[h0],fun ad _ j u hj=>by simp at hj,fun u hu=>?_,fun _=>h0,fun j hj=>by omega⟩;cases hu
 ·obtain⟨b,oo,vs,rfl,-⟩:=q38.1 hE 0 (by omega);obtain⟨news,n1,n2,n3,n4⟩:=qqw _ 0 hE;refine⟨news,n1,fun ad e j u hj=>?_,n3,fun e=>?_,fun j hj=>?_⟩
  ·injection e with e;subst e;have:=n2 j u hj;rw[Addr.mid_eq];simpa using this
  ·cases e
  ·obtain⟨b',o',cs,e,g2,g3⟩:=hel j hj;injection e with e;injection e with e1 e2;subst e1 e2;have hlen:=(Rd.len _ g3).1;have:cs=(news.drop (j * te'.w)).take te'.w:=by
    refine kZ fun i=>?_;by_cases hi:i<te'.w
    ·have hjw:j * te'.w+i<news.length:=by
      rw[n1];have:(j+1) * te'.w≤(xb.ev c.v).rs.length * te'.w:=uC _ hj;rw[uO,vK] at this;omega
     have h1:=g2 i _ (gnK (by omega));have h2:=n2 (j * te'.w+i) _ (gnK hjw);rw[uF hi,kD,gnK hjw,gnK (show i<cs.length by omega)];rw[show oo+0 * te'.w+(j * te'.w+i)=oo+j * te'.w+i by omega,h1] at h2;exact h2
    ·rw[kA (by omega),kA (by simp;omega)]
   rw[←this];exact g3
theorem qrv(hb:Bs c.A c.F w0 S0 p w)(hf:SF c σ p w a)(hc:hold c.v cs=true)(hd:a.defers=d)(hz:a.tmps.size=z){k:Nat}(hk:k<z)(hdst:o.dst=some k){T:TypeId}{x y:Operand}(heq:o.op=.call {callee:=.builtin .append,args:= #[x,y],argTypes:= #[T,T]})
  {ns:List X}{fb:Ty→Option X}(hF:z7g c fb)(h:qwh fb σ cs k T x y=some (ns,σ'))(hn:∀n∈ns,n.says c.v){Q:Exit→Act→World→Prop}:o.wp uA a w (q09 c w0 S0 d z σ') Q:=by
 have fin:∀{v':Value}{w':World},(uM #[T,T] o.type #[a.eval x,a.eval y]).run uA w=.ok v' w'→q09 c w0 S0 d z σ' (a.put (some k) v') w'→o.wp uA a w (q09 c w0 S0 d z σ') Q:=fun{v' w'}hr hp=>by
  have hrun:(execOp a.eval o).run uA w=.ok (.value v') w':=by
   generalize a.eval=r at *;simp[execOp,heq,resolve,invoke,builtin,hr]
  unfold Oper.wp;rw[hrun]
  show q09 c w0 S0 d z σ' (a.put o.dst v') w'
  rw[hdst];exact hp
 have hkq:zh k (k * 16+1)=true:=by
  unfold zh;rw[vP];omega
 unfold qwh at h;split at h
 ·rename_i E hT;split at h
  ·rename_i te hte;split at h
   ·-- nil
    rename_i hpin;obtain⟨x',hx1,hx2⟩:=uG.1 hpin;rcases z47 hx2 with⟨-,rfl⟩|⟨pin,xx,E',dep,e,-⟩
    ·have hev:a.eval x=.slice none 0 0:=z4 hf hc hx1;simp only at h;split at h
     ·rename_i xb ownb depb hy;split at h
      ·cases h
      rename_i hdepP;simp only[gnS] at h;obtain⟨rfl,rfl⟩:=h;obtain⟨y',hy1,hy2⟩:=uG.1 hy;have hb1:=hb.un (zh k);have hf1:=SF.un (q:=zh k) hb.inj hb.pa hf;have hcon:=q8k hte hy2 (z4 hf1 hc hy1);obtain⟨Ab,capb,hevb,news,n1,n2,n3,n4,n5⟩:=z5g hte hcon;have hlim:=q0h (x:=q9p xb) (y:=z7p te) (hn _ (by simp));rw[q4u] at hlim;have hlim':(xb.ev c.v).rs.length≤LM te:=by
       have:((xb.ev c.v).rs.length:Int)≤(LM te:Nat):=hlim;omega
      have hP:∀b,unP (zh k) p (k * 16+1)=some b→(none:Option Nat)=some (k * 16+1):=fun b hb=>by
       have:=(q2b hb).1;rw[hkq] at this;cases this
      obtain⟨v',p',w',hr,hout⟩:=z5e (va:=a.eval x) (pin:=none) (n:=0) hT hte hb1 hP (fun x hx=>by cases hx) (.inl ⟨hev,rfl⟩) n1 n2 n4 n3 (by omega) o.type;rw[←hevb] at hr;refine fin hr ⟨p',hout.bs,?_,hd,by simp only[Act.put,uS];exact hz⟩;have hkeep:=hf1.keep hout.stab;refine hkeep.put (by rw[hz];exact hk) ⟨[v'],rfl,?_⟩;rw[z4w];refine .inl ⟨E,te,_,v',rfl,hte,rfl,rfl,?_⟩;have:=AppOut.own (c:=c) (la:=[]) (lb:=(xb.ev c.v).rs) hte hout (dep:=qd2 te (depb)) (by simpa using hlim') n1 (fun j hj=>?_) (fun x g hx=>by cases hx)
      ·exact this
      ·by_cases hfl:y6 8 te=true
       ·exact Rd.flat 8 _ hfl (n5 j hj)
       ·have e1:qd2 te (depb)=depb:=if_neg hfl;rw[e1] at hdepP⊢;have hz0:∀y∈depb,qiq none (k * 16+1) y=false∧qiq none (k * 16+1) y=false:=fun y hy=>by
         have:=(q3z (by simpa using hdepP) y hy).1;have h2:qiq none (k * 16+1) y=false:=by
          unfold qiq;rw[uX];exact⟨this,rfl⟩
         exact⟨h2,h2⟩
        refine Rd.keeps (hout.stab.kp hz0) _ ((n5 j hj).mono fun b _ hb=>hb.mono fun y hy=>hy)
     ·cases h
    ·cases e
   ·rename_i pin hpin;simp only at h;split at h
    ·rename_i xa pin' depa xb ownb depb hx hy;split at h
     ·rename_i hok;simp only[gnB,uQ,uX] at hok;obtain⟨hpp,hdp,hdP⟩:=hok;have hpp':=gnN hpp;subst hpp';simp only[gnS] at h;obtain⟨rfl,rfl⟩:=h;obtain⟨x',hx1,hx2⟩:=uG.1 hx;obtain⟨y',hy1,hy2⟩:=uG.1 hy;have hb1:=hb.un fun z=>zh k z&& !Nat.beq z pin';have hf1:=SF.un (q:=fun z=>zh k z&& !Nat.beq z pin') hb.inj hb.pa hf;have hca:=q8k hte hx2 (z4 hf1 hc hx1);have hcb:=q8k hte hy2 (z4 hf1 hc hy1);obtain⟨Ab,capb,hevb,news,n1,n2,n3,n4,n5⟩:=z5g hte hcb;have hca':Fl c.A (unP (fun z=>zh k z&& !Nat.beq z pin') p) w depa (some pin') (xa.ev c.v) (.row E) [a.eval x]:=hca;rcases hca'.symm with⟨K,V,kt,vt,lm,gm,es,clock,em,-⟩|⟨E1,te1,la,va,q1,q2,q3,q4,q5⟩
      ·cases em
      injection q1 with q1;subst q1;injection q4 with q4;subst q4;obtain rfl:=gnI (q2.symm.trans hte);have hla:(xa.ev c.v).rs=la:=by rw[q3];rfl
      have hlim:=q0h (x:=qnx (q9p xa) (q9p xb)) (y:=z7p te1) (hn _ (by simp));rw[qja,q4u,q4u] at hlim;have hlim':la.length+(xb.ev c.v).rs.length≤LM te1:=by
       have:(((xa.ev c.v).rs.length:Int)+((xb.ev c.v).rs.length:Int))≤(LM te1:Nat):=hlim;rw[hla] at this;omega
      have hP:∀b,unP (fun z=>zh k z&& !Nat.beq z pin') p (k * 16+1)=some b→some pin'=some (k * 16+1):=fun b hb=>by
       have:=(q2b hb).1;rw[hkq] at this;simp at this;rw[this]
      have hva:(a.eval x=.slice none 0 0∧la.length=0)∨∃xx g cap cur,some pin'=some xx∧a.eval x=.slice (some ⟨g,0,none⟩) la.length cap∧unP (fun z=>zh k z&& !Nat.beq z pin') p xx=some g∧w.heap[g]? =some (.cells cur E (0,0))∧la.length≤cap∧cap≤maxLen∧cur.size=cap * te1.w:=by
       rcases q5 with⟨r1,r2⟩|⟨g,cap,cur,r1,r2,r3,r4,r5,r6,r7,r8⟩
       ·exact .inl ⟨r1,by rw[r2];rfl⟩
       ·exact .inr ⟨pin',g,cap,cur,rfl,r1,r2,r3,r4,r5,r6⟩
      obtain⟨v',p',w',hr,hout⟩:=z5e (va:=a.eval x) (pin:=some pin') (n:=la.length) hT hte hb1 hP (fun _ _=>by rw[←hla];exact z93 hF fun n hm=>hn n (by simp[hm])) hva n1 n2 n4 n3 hlim' o.type;rw[←hevb] at hr;refine fin hr ⟨p',hout.bs,?_,hd,by simp only[Act.put,uS];exact hz⟩;have hblk:0<la.length→∃g cur,unP (fun z=>zh k z&& !Nat.beq z pin') p pin'=some g∧w.heap[g]? =some (.cells cur E (0,0)):=fun h0=>by
       rcases q5 with⟨r1,r2⟩|⟨g,cap,cur,r1,r2,r3,-⟩
       ·rw[r2] at h0;simp at h0
       ·exact⟨g,cur,r2,r3⟩
      have happ:=SF.app (xa:=xa) hte hout hblk (by rw[hla]) hf1;refine happ.put (by rw[hz];exact hk) ⟨[v'],rfl,?_⟩;rw[z4w,hla];refine .inl ⟨E,te1,_,v',rfl,hte,rfl,rfl,?_⟩;have two:∀y∈qd2 te1 (uni depa (depb)),q3u pin' (k * 16+1) y=false∧q3u pin' (k * 16+1) y=false:=fun y hy=>by
       have h1:=(q3z hdp y hy).1;have h2:=(q3z hdP y hy).1;have h3:q3u pin' (k * 16+1) y=false:=by
        unfold q3u;rw[uX];exact⟨h2,h1⟩
       exact⟨h3,h3⟩
      have hst:Stab c.A (q3u pin' (k * 16+1)) (q3u pin' (k * 16+1)) (unP (fun z=>zh k z&& !Nat.beq z pin') p) w p' w':=hout.stab;refine AppOut.own (c:=c) (la:=la) (lb:=(xb.ev c.v).rs) hte hout hlim' n1 (fun j hj=>?_) (fun xx g hxx hg j hj=>?_)
      ·by_cases hfl:y6 8 te1=true
       ·exact Rd.flat 8 _ hfl (n5 j hj)
       ·have e1:qd2 te1 (uni depa (depb))=uni depa (depb):=if_neg hfl;rw[e1] at two⊢;refine Rd.keeps (hst.kp two) _ ((n5 j hj).mono fun b _ hb=>hb.mono fun y hy=>q5f hy)
      ·injection hxx with hxx;subst hxx;rcases q5 with⟨r1,r2⟩|⟨g',cap,cur,r1,r2,r3,r4,r5,r6,r7,r8⟩
       ·rw[r2] at hj;simp at hj
       ·obtain rfl:=gnI (r2.symm.trans hg);obtain⟨vs,hrr,hdd⟩:=r8 j hj;refine⟨vs,hrr,?_⟩;by_cases hfl:y6 8 te1=true
        ·exact Rd.flat 8 _ hfl hdd
        ·have e1:qd2 te1 (uni depa (depb))=uni depa (depb):=if_neg hfl;rw[e1] at two⊢;exact Rd.keeps (hst.kp two) _ (hdd.mono fun b _ hb=>hb.mono fun y hy=>q2m hy)
     ·cases h
    ·cases h
   ·cases h
  ·cases h
 ·cases h
theorem zej(hf:SF c σ p w a)(hc:hold c.v cs=true){E:TypeId}{te:Ty}(hte:qy E=some te){k:Nat}{x:Operand}{y:AV}(h:zf7 σ cs E k x=some y):y.pd c p w (a.eval x):=by
 unfold zf7 at h;split at h
 ·rename_i hx;injection h with h;subst h;have hev:a.eval x=.slice none 0 0:=z4 hf hc hx;refine⟨[a.eval x],rfl,?_⟩
  show Fl c.A p w [] (lkA [(0,k * 16+1)] 0) (.r []) (.row E) _
  rw[qb];exact .inl ⟨E,te,[],_,rfl,hte,rfl,rfl,.inl ⟨hev,rfl⟩⟩
 ·exact z4 hf hc h
theorem zea(hb:Bs c.A c.F w0 S0 p w)(hf:SF c σ p w a)(hc:hold c.v cs=true)(hd:a.defers=d)(hz:a.tmps.size=z){k:Nat}(hk:k<z)(hdst:o.dst=some k){T T2:TypeId}{x y:Operand}(heq:o.op=.call {callee:=.builtin .append,args:= #[x,y],argTypes:= #[T,T2]})
  {ns:List X}{fb:Ty→Option X}(hF:z7g c fb)(h:z2p fb σ cs k T T2 x y=some (ns,σ'))(hn:∀n∈ns,n.says c.v){Q:Exit→Act→World→Prop}:o.wp uA a w (q09 c w0 S0 d z σ') Q:=by
 have fin:∀{v':Value}{w':World},(uM #[T,T2] o.type #[a.eval x,a.eval y]).run uA w=.ok v' w'→q09 c w0 S0 d z σ' (a.put (some k) v') w'→o.wp uA a w (q09 c w0 S0 d z σ') Q:=fun{v' w'}hr hp=>by
  have hrun:(execOp a.eval o).run uA w=.ok (.value v') w':=by
   generalize a.eval=r at *;simp[execOp,heq,resolve,invoke,builtin,hr]
  unfold Oper.wp;rw[hrun]
  show q09 c w0 S0 d z σ' (a.put o.dst v') w'
  rw[hdst];exact hp
 have hkq:zh k (k * 16+1)=true:=by
  unfold zh;rw[vP];omega
 unfold z2p at h;split at h
 ·rename_i E hT;split at h
  ·rename_i te hte;split at h
   ·rename_i pin hpin;simp only at h;split at h
    ·rename_i xa pin' depa xn on dn hx hy;split at h
     ·rename_i hok;simp only[gnB,uQ,uX] at hok;obtain⟨hpp,⟨hdp,hdP⟩,hT2,hmp⟩:=hok;have hpp':=gnN hpp;subst hpp';simp only[gnS] at h;obtain⟨rfl,rfl⟩:=h;obtain⟨x',hx1,hx2⟩:=uG.1 hx;have hb1:=hb.un fun z=>zh k z&& !Nat.beq z pin';have hf1:=SF.un (q:=fun z=>zh k z&& !Nat.beq z pin') hb.inj hb.pa hf;have hca:=q8k hte hx2 (zej hf1 hc hte hx1);obtain⟨m,hm,hmv,hmr⟩:=q0j (z4 hf1 hc hy);have hca':Fl c.A (unP (fun z=>zh k z&& !Nat.beq z pin') p) w depa (some pin') (xa.ev c.v) (.row E) [a.eval x]:=hca;rcases hca'.symm with⟨K,V,kt,vt,lm,gm,es,clock,em,-⟩|⟨E1,te1,la,va,q1,q2,q3,q4,q5⟩
      ·cases em
      injection q1 with q1;subst q1;injection q4 with q4;subst q4;obtain rfl:=gnI (q2.symm.trans hte);have hla:(xa.ev c.v).rs=la:=by rw[q3];rfl
      have n1:=q0h (x:=.lit (.i 0)) (y:=xn) (hn _ (by simp));have n2:=q0h (x:=xn) (y:=.lit (.i 16777216)) (hn _ (by simp));have hlim:=q0h (x:=qnx (q9p xa) xn) (y:=z7p te1) (hn _ (by simp));rw[qja,q4u,hm,hla] at hlim;rw[hm] at n1 n2;simp only[X.ev,D.int] at n1 n2;obtain⟨m',rfl⟩:=Int.eq_ofNat_of_zero_le n1;have hlim':la.length+m'≤LM te1:=by
       have:((la.length:Int)+(m':Int))≤(LM te1:Nat):=hlim;omega
      have hP:∀b,unP (fun z=>zh k z&& !Nat.beq z pin') p (k * 16+1)=some b→some pin'=some (k * 16+1):=fun b hb=>by
       have:=(q2b hb).1;rw[hkq] at this;simp at this;rw[this]
      have hva:(a.eval x=.slice none 0 0∧la.length=0)∨∃xx g cap cur,some pin'=some xx∧a.eval x=.slice (some ⟨g,0,none⟩) la.length cap∧unP (fun z=>zh k z&& !Nat.beq z pin') p xx=some g∧w.heap[g]? =some (.cells cur E (0,0))∧la.length≤cap∧cap≤maxLen∧cur.size=cap * te1.w:=by
       rcases q5 with⟨r1,r2⟩|⟨g,cap,cur,r1,r2,r3,r4,r5,r6,r7,r8⟩
       ·exact .inl ⟨r1,by rw[r2];rfl⟩
       ·exact .inr ⟨pin',g,cap,cur,rfl,r1,r2,r3,r4,r5,r6⟩
      obtain⟨zv,zvs,hzr,hzp,hzrd0,hzl0,hzc⟩:=qg1 hte w (fun _=>False);have hzrd:=hzrd0 hmp;obtain⟨-,hzone⟩:=Rd.len _ hzrd;have hzl:zv.cells.size=te1.w:=by rw[hzc];simpa using hzl0
      have hzone':One zv.cells.toList:=by rw[hzc];simpa using hzone
      obtain⟨v',p',w',hr,hout⟩:=z86 (va:=a.eval x) (pin:=some pin') (n:=la.length) hT hte (q3y hT2) hb1 hP (fun _ _=>by rw[←hla];exact z93 hF fun n hm=>hn n (by simp[hm])) hva hzr hzl hzone' hlim' (by omega) o.type;rw[←hmv] at hr;refine fin hr ⟨p',hout.bs,?_,hd,by simp only[Act.put,uS];exact hz⟩;have hblk:0<la.length→∃g cur,unP (fun z=>zh k z&& !Nat.beq z pin') p pin'=some g∧w.heap[g]? =some (.cells cur E (0,0)):=fun h0=>by
       rcases q5 with⟨r1,r2⟩|⟨g,cap,cur,r1,r2,r3,-⟩
       ·rw[r2] at h0;simp at h0
       ·exact⟨g,cur,r2,r3⟩
      have happ:=SF.app (xa:=xa) hte hout hblk (by rw[hla]) hf1;refine happ.put (by rw[hz];exact hk) ⟨[v'],rfl,?_⟩;have hev:(X.app xa (.rep xn (qen te1))).ev c.v=.r (la++kM m' (q5y 8 te1)):=by
       show D.r ((xa.ev c.v).rs++kM (xn.ev c.v).int.toNat (q5y 8 te1))=_
       rw[hla,hm];rfl
      rw[hev];refine .inl ⟨E,te1,_,v',rfl,hte,rfl,rfl,?_⟩;have two:∀y∈qd2 te1 depa,q3u pin' (k * 16+1) y=false∧q3u pin' (k * 16+1) y=false:=fun y hy=>by
       have h1:=(q3z hdp y hy).1;have h2:=(q3z hdP y hy).1;have h3:q3u pin' (k * 16+1) y=false:=by
        unfold q3u;rw[uX];exact⟨h2,h1⟩
       exact⟨h3,h3⟩
      have hst:Stab c.A (q3u pin' (k * 16+1)) (q3u pin' (k * 16+1)) (unP (fun z=>zh k z&& !Nat.beq z pin') p) w p' w':=hout.stab;have hnl:(uL zv.cells m').toList.length=(kM m' (q5y 8 te1)).length * te1.w:=by rw[uT,size_zeroCells,hzl,List.length_replicate]
      refine AppOut.own (c:=c) (la:=la) (lb:=kM m' (q5y 8 te1)) hte (by simpa using hout) (by simpa using hlim') hnl (fun j hj=>?_) (fun xx g hxx hg j hj=>?_)
      ·have hjm:j<m':=by simpa using hj
       have hcell:((uL zv.cells m').toList.drop (j * te1.w)).take te1.w=zvs:=by
        rw[hzc];refine kZ fun q=>?_;by_cases hq:q<te1.w
        ·have hlt:j * te1.w+q<m' * te1.w:=by
          have:(j+1) * te1.w≤m' * te1.w:=uC _ hjm;rw[uO,vK] at this;omega
         rw[uF hq,kD,uN];simp only[uL,uP,hzl0];rw[Array.getElem?_map,Array.getElem?_range,if_pos hlt];have hmod:(j * te1.w+q) % te1.w=q:=by rw[jF,Nat.mul_add_mod,vT hq]
         simp only[Option.map_some,hmod];rw[getElem!_pos zvs.toArray q (by simpa[hzl0] using hq)];simp[gnK (show q<zvs.length by omega)]
        ·rw[kA (by simp;omega),kA (by omega)]
       rw[hcell,vH];exact Rd.keeps (fun b o hb=>hb.elim) _ hzrd
      ·injection hxx with hxx;subst hxx;rcases q5 with⟨r1,r2⟩|⟨g',cap,cur,r1,r2,r3,r4,r5,r6,r7,r8⟩
       ·rw[r2] at hj;simp at hj
       ·obtain rfl:=gnI (r2.symm.trans hg);obtain⟨vs,hrr,hdd⟩:=r8 j hj;refine⟨vs,hrr,?_⟩;by_cases hfl:y6 8 te1=true
        ·exact Rd.flat 8 _ hfl hdd
        ·have e1:qd2 te1 depa=depa:=if_neg hfl;rw[e1] at two⊢;exact Rd.keeps (hst.kp two) _ (hdd.mono fun b _ hb=>hb)
     ·cases h
    ·cases h
   ·cases h
  ·cases h
 ·cases h
end
end
section
theorem qnk:∀(l:List Value)(k:Nat){c0 c1 c2:List Value}{cs:Array Value}{off:Nat},cs.toList=c0++(c1++c2)→c0.length=off+k→c1.length=l.length→((l.zipIdx k).foldl (fun cs x=>cs.setIfInBounds (off+x.2) x.1) cs).toList=c0++(l++c2)
 |[],k,c0,c1,c2,cs,off,h,h1,h2=>by
  have:c1=[]:=uR (by simpa using h2);subst this;simpa using h
 | v :: l, k, c0, c1, c2, cs, off, h, h1, h2 => by
  cases c1 with
  |nil=>simp at h2
  | cons u c1 =>
   simp only[List.zipIdx_cons,List.foldl_cons];have:=qnk l (k+1) (c0:=c0++[v]) (c1:=c1) (c2:=c2) (cs:=cs.setIfInBounds (off+k) v) (off:=off) (by
    rw[Array.toList_setIfInBounds,h,←h1];simp) (by simp;omega) (by simpa using h2)
   rw[this];simp
theorem qwe{place:Nat→Option (Nat×Nat)}{cells:Array Value}{i off size:Nat}{v:Value}{r:List (Nat×Value)}{c0 c1 c2 vs:List Value}(hp:place i=some (off,size))(hv:v.cells=vs.toArray)(hs:vs.length=size)(hc:cells.toList=c0++(c1++c2))(h0:c0.length=off)(h1:c1.length=size):
  Instr.fill place cells ((i,v)::r)=Instr.fill place (c0++(vs++c2)).toArray r:=by
 have hsz:cells.size=c0.length+(c1.length+c2.length):=by rw[←uT,hc];simp
 have hf:v.cells.zipIdx.foldl (fun cs(c,j)=>cs.setIfInBounds (off+j) c) cells=(c0++(vs++c2)).toArray:=by
  apply kR;rw[hv];have:=qnk vs 0 (cs:=cells) (off:=off) hc (by omega) (by omega);rw[←this];simp
 simp only[Instr.fill,hp,hf];rw[if_neg (by
  rw[hv];simp only[uP,hs,ne_eq,not_true_eq_false,decide_false,jD,kU,gnD];simp;omega)]
def bld(σ:St)(cs:List (X×Bool))(fs:List Ty):List (Nat×Operand)→X→List (Nat×Nat)→List Nat→Option (X×List (Nat×Nat)×List Nat)
  |[],x,own,dep=>some (x,own,dep)
  | (j, y) :: r, x, own, dep => match fs[j]? with
    | some t => match (opd σ cs y).bind (q5h t) with
      | some (xv, ownv, depv) => match qro t ownv with
        |some oj=>bld σ cs fs r (.set x j xv) (q5r own j oj) (uni dep depv)
        |none=>none
      |none=>none
    |none=>none
def z6u(σ:St)(cs:List (X×Bool))(fs:List Ty):List (Nat×Operand)→Nat→Option (List X)
  |[],_=>some []
  | (j, y) :: r, k => if uB j k then (match fs[j]? with
    | some t => match (opd σ cs y).bind (q5h t), z6u σ cs fs r (k + 1) with
      |some (xv,_,_),some l=>some (xv::l)
      |_,_=>none
    |none=>none) else none
def qyc(σ:St)(cs:List (X×Bool))(k:Nat)(T:TypeId)(ps:List (Nat×Operand)):Option AV:=match qy T with
 | some (.st S) => match flds S with
  | some fs => match bld σ cs fs ps (qen (.st S)) (zw k (.st S)) [] with
   |some (x,own,dep)=>match(if uB ps.length fs.length then z6u σ cs fs ps 0 else none) with
    |some l=>some (.v (.mk l) (.st S) own dep)
    |none=>some (.v x (.st S) own dep)
   |none=>none
  |none=>none
 |_=>none
section
variable{c:Cx}{p p':z6}{w w' w0:World}{S0:Nat→Prop}{a:Act}{σ σ':St}{cs:List (X×Bool)}{o:Oper}{d:List Deferred}{z:Nat}
theorem zbv(hf:SF c σ p w a)(hc:hold c.v cs=true){S:TypeId}{fs:List Ty}(hfs:flds S=some fs){places:Nat→Option (Nat×Nat)}(hpl:∀j t,fs[j]? =some t→places j=some (offs fs j,t.w)):
    ∀{ps:List (Nat×Operand)}{x x':X}{own own':List (Nat×Nat)}{dep dep':List Nat}{cells:Array Value},bld σ cs fs ps x own dep=some (x',own',dep')→Con c.A p w (x.ev c.v) (.st S) own dep cells.toList→
    ∃cells',Instr.fill places cells (ps.map fun y=>(y.1,a.eval y.2))=some cells'∧Con c.A p w (x'.ev c.v) (.st S) own' dep' cells'.toList
  | [], x, x', own, own', dep, dep', cells, h, hx => by
    simp only[bld,gnS] at h;obtain⟨rfl,rfl,rfl⟩:=h;exact⟨cells,rfl,hx⟩
  | (j, y) :: r, x, x', own, own', dep, dep', cells, h, hx => by
    unfold bld at h;split at h
    · rename_i t hj;split at h
      · rename_i xv ownv depv hy;split at h
        · rename_i oj hoj;obtain⟨y',hy1,hy2⟩:=uG.1 hy;obtain⟨vs,hp,hcon⟩:=q2y hy2 (z4 hf hc hy1);have hcells:=hp.cells hcon.len.2;obtain⟨fs',ds,hf',hds,hfl⟩:=hx.mono (dep':=uni dep depv) fun y hy=>q2m hy;obtain rfl:=gnI (hf'.symm.trans hfs);obtain⟨c0,c1,c2,q1,q2,q3,q4⟩:=Fls.set (own':=q5r own j oj) (d:=xv.ev c.v) (c:=vs) hfl hj (by rw[uE,q46,if_pos rfl];exact Con.sup hoj (hcon.mono fun y hy=>q5f hy)) (fun i hi=>by rw[uE] at hi;rw[q46,if_neg hi]);have hx2:Con c.A p w ((X.set x j xv).ev c.v) (.st S) (q5r own j oj) (uni dep depv) (c0++(vs++c2)):=⟨fs',ds.set j (xv.ev c.v),hf',by show D.a ((x.ev c.v).fs.set j _)=_;rw[hds];rfl,q4⟩;obtain⟨cells',h1,h2⟩:=zbv hf hc hfs hpl (cells:=(c0++(vs++c2)).toArray) h (by simpa using hx2);refine⟨cells',?_,h2⟩;rw[jC,qwe (hpl j t hj) hcells hcon.len.1 q1 q2 q3];exact h1
        · cases h
      · cases h
    · cases h
theorem z4j{c:Cx}{fs:List Ty}:∀{ps:List (Nat×Operand)}{k:Nat}{x x':X}{own own':List (Nat×Nat)}{dep dep':List Nat}{l:List X},bld σ cs fs ps x own dep=some (x',own',dep')→z6u σ cs fs ps k=some l→(x.ev c.v).fs.length=k+ps.length→
    x'.ev c.v=(if ps=[] then x.ev c.v else .a ((x.ev c.v).fs.take k++X.evs c.v l))
  | [], k, x, x', own, own', dep, dep', l, h, hl, hlen => by
    simp only[bld,gnS] at h;obtain⟨rfl,rfl,rfl⟩:=h;simp
  | (j, y) :: r, k, x, x', own, own', dep, dep', l, h, hl, hlen => by
    rw[if_neg (by simp)];unfold z6u at hl;split at hl
    · rename_i hjk;have hjk':=gnN hjk;subst hjk';unfold bld at h;split at h
      · rename_i t hj;simp only[hj] at hl;split at h
        · rename_i xv ownv depv hy;simp only[hy] at hl;split at h
          · rename_i oj hoj;split at hl
            · rename_i _ _ xv' _ _ l' he hl';injection he with he;injection he with he1 he2;subst he1;injection hl with hl;subst hl;simp only[kQ] at hlen;have hs:((X.set x j xv).ev c.v).fs=(x.ev c.v).fs.set j (xv.ev c.v):=rfl;have:=z4j (c:=c) (k:=j+1) h hl' (by rw[hs,vV];omega);rw[this];have htake:((x.ev c.v).fs.set j (xv.ev c.v)).take (j+1)=(x.ev c.v).fs.take j++[xv.ev c.v]:=by
                rw[List.take_succ_eq_append_getElem (by simp;omega),List.take_set_of_le (kI _)];simp
              by_cases hr:r=[]
              · subst hr;rw[if_pos rfl];have hl0:l'=[]:=by simp[z6u] at hl';exact hl'
                subst hl0
                show D.a ((x.ev c.v).fs.set j _)=_
                congr 1
                have:(x.ev c.v).fs.set j (xv.ev c.v)=((x.ev c.v).fs.set j (xv.ev c.v)).take (j+1):=by rw[List.take_of_length_le (by simp at hlen⊢;omega)]
                rw[this,htake];simp[X.evs]
              · rw[if_neg hr,hs,htake];simp[X.evs]
            · cases hl
          · cases h
        · cases h
      · cases h
    · cases hl
theorem run_places{fields:Array Field}{fs:List Ty}(hfb:q4b fields.toList fs 0=true):∃places:Array (Nat×Nat),(fields.mapM fun f=>(do pure (f.offset,←sizeOf f.type):Sem (Nat×Nat))).run uA w=.ok places w∧∀j t,fs[j]? =some t→places[j]? =some (offs fs j,t.w):=by
 have key:∀(fl:List Field)(fs:List Ty)(o:Nat),q4b fl fs o=true→∃l:List (Nat×Nat),(fl.mapM fun(f:Field)=>(do pure (f.offset,←sizeOf f.type):Sem (Nat×Nat))).run uA w=.ok l w∧∀j t,fs[j]? =some t→l[j]? =some (o+offs fs j,t.w):=by
  intro fl
  induction fl with
  |nil=>
   intro fs o hb;refine⟨[],by simp,fun j t hj=>?_⟩;cases fs with
   |nil=>simp at hj
   |cons t ts=>cases hb
  | cons f fl ih =>
   intro fs o hb;cases fs with
   |nil=>cases hb
   | cons t ts =>
    simp only[q4b,gnB] at hb;obtain⟨⟨⟨hb1,hb2⟩,hb3⟩,hb4⟩:=hb;have hoff:=gnN hb1;have hty:qy f.type=some t:=by
     split at hb3
     ·rename_i t' ht';rw[ht',(Ty.beq_iff _ _).1 hb3]
     ·cases hb3
    obtain⟨l,h1,h2⟩:=ih ts _ hb4;refine⟨(f.offset,t.w)::l,?_,fun j u hj=>?_⟩
    ·simp only[List.mapM_cons,uV,q18 hty,uZ,uK,h1]
    ·cases j with
     |zero=>
      simp at hj;subst hj;simp[hoff,q7p]
     |succ j=>
      have:=h2 j u (by simpa using hj);rw[List.getElem?_cons_succ,this,q7y]
      congr 2
      omega
 obtain⟨l,h1,h2⟩:=key fields.toList fs 0 hfb;refine⟨l.toArray,?_,fun j t hj=>by simpa using h2 j t hj⟩;rw[Array.mapM_eq_mapM_toList];simp only[map_eq_pure_bind,uV,h1,uK,uZ]
theorem z75(hf:SF c σ p w a)(hc:hold c.v cs=true){k:Nat}{T:TypeId}{ps:Array (Nat×Operand)}(heq:o.op=.build T ps){x:AV}(h:qyc σ cs k T ps.toList=some x):q6z o a c p w x:=by
 unfold qyc at h;split at h
 ·rename_i S hT;split at h
  ·rename_i fs hfs;split at h
   ·rename_i x1 own dep hb;obtain⟨fields,fs',zc,i,hu,hf',hfb,hi,hs,hz,hpz,-⟩:=q57 hT;obtain rfl:=gnI (hf'.symm.trans hfs);obtain⟨v,vs,hzv,hpk,hcon0,hcells⟩:=z1g hT rfl w c.A p k;have hrd:Rd w (FFD c.A p ((zw k (.st S)).map (·.2))) (q5y 8 (.st S)) (.st S) vs:=hcon0.rd (fun x hx=>by cases hx) (fun x hx=>hx);obtain⟨places,hpr,hpl⟩:=run_places (w:=w) hfb;obtain⟨cells',h1,h2⟩:=zbv hf hc hfs (places:=fun i=>places[i]?) hpl (cells:=vs.toArray) hb (show Con c.A p w ((qen (.st S)).ev c.v) (.st S) (zw k (.st S)) [] vs.toArray.toList from hcon0);have hrun:(execOp a.eval o).run uA w=.ok (.value (.agg cells')) w:=by
     have hparts:(ps.map fun(y:Nat×Operand)=>(y.1,a.eval y.2)).toList=ps.toList.map fun y=>(y.1,a.eval y.2):=by simp
     rw[←hparts] at h1;generalize a.eval=r at *;simp only[execOp,heq,Instr.build,uV,hzv,run_underlying hu,uK,hpr,hcells,h1];rfl
    refine⟨_,hrun,?_⟩;split at h
    ·rename_i l hl;injection h with h;subst h;refine⟨cells'.toList,by simp[j5],?_⟩;split at hl
     ·rename_i hlen;have hlen':=gnN hlen;have hzl:((qen (.st S)).ev c.v).fs.length=0+ps.toList.length:=by
       have hr':Rd w (FFD c.A p ((zw k (.st S)).map (·.2))) (q5y 8 (.st S)) (.st S) vs:=hrd;cases hd0:q5y 8 (.st S) with
       |a l0=>
        rw[hd0] at hr';obtain⟨T',fs0,e1,e2,e3⟩:=hr';injection e1 with e1;subst e1;obtain rfl:=gnI (e2.symm.trans hfs)
        show(q5y 8 (.st S)).fs.length=_
        rw[hd0]
        show l0.length=_
        rw[(RdF.len e3).2];omega
       |u=>rw[hd0] at hr';obtain⟨E,te,e,-⟩:=hr';cases e
       |i n=>rw[hd0] at hr';rcases hr' with⟨k,e,-⟩|⟨e,-⟩<;>cases e
       |b x=>rw[hd0] at hr';cases hr'.1
       |s x=>rw[hd0] at hr';cases hr'.1
       |r l=>rw[hd0] at hr';obtain⟨E,te,A,cap,e,-⟩:=hr';cases e
       |mp l=>rw[hd0] at hr';obtain⟨K,V,kt,vt,g,es,clock,e,-⟩:=hr';cases e
      have hev:=z4j (c:=c) hb hl hzl;have:(X.mk l).ev c.v=x1.ev c.v:=by
       rw[hev];split
       ·rename_i hnil;rw[hnil] at hl hzl;have hl0:l=[]:=by simp[z6u] at hl;exact hl
        subst hl0
        show D.a []=_
        have hz0:((qen (.st S)).ev c.v).fs=[]:=uR (by simpa using hzl);cases hd0:(qen (.st S)).ev c.v with
        |a l0=>rw[hd0] at hz0;simp[D.fs] at hz0;rw[hz0]
        | _ =>
         exfalso;have hr':Rd w (FFD c.A p ((zw k (.st S)).map (·.2))) ((qen (.st S)).ev c.v) (.st S) vs:=hrd;rw[hd0] at hr'
         first
          |exact hr'
          |(cases hr'.1;done)
          |(obtain⟨E,te,e,-⟩:=hr';cases e;done)
          |(rcases hr' with⟨k,e,-⟩|⟨e,-⟩<;>cases e<;>done)
          |(obtain⟨E,te,A,cap,e,-⟩:=hr';cases e;done)
          |(obtain⟨K,V,kt,vt,g,es,clock,e,-⟩:=hr';cases e;done)
       ·simp;rfl
      rw[this];exact h2
     ·cases hl
    ·injection h with h;subst h;exact⟨cells'.toList,by simp[j5],h2⟩
   ·cases h
  ·cases h
 ·cases h
def z7j(σ:St)(cs:List (X×Bool))(te:Ty):List (Nat×Operand)→Nat→Option (List X×List Nat)
  |[],_=>some ([],[])
  | (j, y) :: r, k => if uB j k then (match (opd σ cs y).bind (z3s te), z7j σ cs te r (k + 1) with
    |some (xv,ownv,depv),some (l,dep)=>some (xv::l,uni (uni depv (ownv.map (·.2))) dep)
    |_,_=>none) else none
def zad(P:Program)(σ:St)(cs:List (X×Bool))(T:TypeId)(ps:List (Nat×Operand)):Option AV:=match P.underlying T,P.info? T with
 | some (.array n E), some i => (match qy E with
  |some te=>(match z7j σ cs te ps 0,i.zero with
   |some (l,dep),some (.agg zc)=>if uB ps.length n&&uB zc.size (n * te.w) then some (.ar E l dep) else none
   |_,_=>none)
  |none=>none)
 |_,_=>none
def z8g(σ:St)(cs:List (X×Bool))(k:Nat)(T:TypeId)(n:Nat)(ps:List (Nat×Operand)):Option St:=match qy T with
 | some (.row E) => match qy E with
  |some te=>match z7j (σ.un (zh k)) cs te ps 0 with
   |some (l,dep)=>if uB ps.length n&&(kY n 1000&&kY (n * te.w) 16777216) then some ⟨q0a (σ.un (zh k)).t k (.v (.row l) (.row E) [(0,k * 16+1)] (qd2 te dep)),(σ.un (zh k)).m⟩ else none
   |none=>none
  |none=>none
 |_=>none
def z30(σ:St)(cs:List (X×Bool))(k:Nat)(T:TypeId)(x y:Operand):Option (List X×St):=match qy T with
 | some (.row E) => match qy E with
  |some te=>match opd (σ.un (zh k)) cs x,opd (σ.un (zh k)) cs y with
   |some (.v xn (.int .i64) _ _),some (.v yn (.int .i64) _ _)=>if X.beq xn yn&& !qb4 te then some ([leX (.lit (.i 0)) xn,leX xn (.lit (.i 16777216))],⟨q0a (σ.un (zh k)).t k (.v (.rep xn (qen te)) (.row E) [(0,k * 16+1)] []),(σ.un (zh k)).m⟩) else none
   |_,_=>none
  |none=>none
 |_=>none
theorem z58(hb:Bs c.A c.F w0 S0 p w)(hf:SF c σ p w a)(hd:a.defers=d)(hz:a.tmps.size=z){k:Nat}(hk:k<z){E:TypeId}{te:Ty}(hte:qy E=some te){x:X}{l:List D}(hx:x.ev c.v=.r l){dep:List Nat}{cells:List Value}(hl:cells.length=l.length * te.w)(hlen:l.length≤16777216)
  (hc:∀j(h:j<l.length),Rd w (FFD c.A (unP (zh k) p) dep) l[j] te ((cells.drop (j * te.w)).take te.w)):
  q09 c w0 S0 d z ⟨q0a (σ.un (zh k)).t k (.v x (.row E) [(0,k * 16+1)] dep),(σ.un (zh k)).m⟩ (a.put (some k) (.slice (some ⟨w.heap.size,0,none⟩) l.length l.length)) (w.alloc (.cells cells.toArray E)):=by
 have hb1:=hb.un (zh k);have hf1:=SF.un (q:=zh k) hb.inj hb.pa hf;have hkq:zh k (k * 16+1)=true:=by
  unfold zh;rw[vP];omega
 have hpx:unP (zh k) p (k * 16+1)=none:=by unfold unP;rw[if_pos hkq]
 have hst:=q7h (A:=c.A) hpx hb1.bd (.cells cells.toArray E);have hnew:(w.alloc (.cells cells.toArray E)).heap[w.heap.size]? =some (.cells cells.toArray E (0,0)):=q3h rfl;refine⟨qfp (unP (zh k) p) (k * 16+1) w.heap.size,qey hb1 _ _,?_,hd,by simp only[Act.put,uS];exact hz⟩;have hkeep:SF c (σ.un (zh k)) (qfp (unP (zh k) p) (k * 16+1) w.heap.size) (w.alloc (.cells cells.toArray E)) a:=by
  refine⟨fun t' y hy=>?_,fun k' e he=>?_⟩
  ·obtain⟨v,h1,h2⟩:=hf1.t t' y hy;exact⟨v,h1,AV.kept hst y v (fun _ _=>⟨rfl,rfl⟩) (fun _ _=>rfl) h2⟩
  ·exact(hf1.m k' e he).kept hst (fun _ _=>⟨rfl,rfl⟩) ⟨rfl,rfl⟩
 refine hkeep.put (t:=k) (by rw[hz];exact hk) ⟨[_],rfl,?_⟩;rw[hx];refine .inl ⟨E,te,l,_,rfl,hte,rfl,rfl,.inr ⟨w.heap.size,l.length,cells.toArray,rfl,q1q,hnew,kI _,by unfold maxLen;omega,by simpa using hl,zgj hte (by omega),fun i hi=>⟨_,fun j u hj=>?_,Rd.keeps (hst.kp fun _ _=>⟨rfl,rfl⟩) _ (hc i hi)⟩⟩⟩;rw[cell_of_row _ _ _ _ _ _ hnew,uU];have hj':=(gnH.1 hj).1;simp only[kC] at hj';rw[uF (by omega),kD] at hj;exact hj
theorem qxg{p:z6}(hf:SF c σ p w a)(hc:hold c.v cs=true){te:Ty}:∀{ps:List (Nat×Operand)}{k:Nat}{l:List X}{dep:List Nat}{cells:Array Value}{c0 c1:List Value},z7j σ cs te ps k=some (l,dep)→cells.toList=c0++c1→c0.length=k * te.w→c1.length=ps.length * te.w→
    ∃c2:List Value,Instr.fill (fun i=>some (i * te.w,te.w)) cells (ps.map fun y=>(y.1,a.eval y.2))=some (c0++c2).toArray∧c2.length=ps.length * te.w∧(X.evs c.v l).length=ps.length∧
      ∀j(h:j<(X.evs c.v l).length),Rd w (FFD c.A p dep) (X.evs c.v l)[j] te ((c2.drop (j * te.w)).take te.w)
  | [], k, l, dep, cells, c0, c1, h, h1, h2, h3 => by
    simp only[z7j,gnS] at h;obtain⟨rfl,rfl⟩:=h;have:c1=[]:=uR (by simpa using h3);subst this;refine⟨[],?_,by simp,rfl,fun j hj=>by simp[X.evs] at hj⟩
    show some cells=_
    congr 1
    apply kR;rw[h1]
  | (j, y) :: r, k, l, dep, cells, c0, c1, h, h1, h2, h3 => by
    unfold z7j at h;split at h
    · rename_i hjk;have hjk':=gnN hjk;subst hjk';split at h
      · rename_i xv ownv depv l' dep' hy hr;simp only[gnS] at h;obtain⟨rfl,rfl⟩:=h;obtain⟨y',hy1,hy2⟩:=uG.1 hy;obtain⟨vs,hp,hcon⟩:=z7w hy2 (z4 hf hc hy1);have hcells:=hp.cells hcon.len.2;have hvl:=hcon.len.1;simp only[kQ,uO,vK] at h3;have hspl:c1=c1.take te.w++c1.drop te.w:=(kV _ _).symm;have hl1:(c1.take te.w).length=te.w:=by rw[kC];omega
        obtain⟨c2,q1,q2,q3,q4⟩:=qxg hf hc (cells:=(c0++(vs++c1.drop te.w)).toArray) (c0:=c0++vs) (c1:=c1.drop te.w) hr (by simp) (by rw[uW,h2,hvl,uO];omega) (by rw[List.length_drop];omega);refine⟨vs++c2,?_,by rw[uW,hvl,q2,kQ,uO];omega,by simp[X.evs,q3],fun i hi=>?_⟩
        · rw[jC,qwe (c0:=c0) (c1:=c1.take te.w) (c2:=c1.drop te.w) (off:=j * te.w) (size:=te.w) rfl hcells hvl (by rw[←hspl];exact h1) h2 hl1,q1];simp
        · cases i with
          | zero =>
            simp only[vJ,vY];rw[←hvl,vF];refine(hcon.rd (dep':=uni (uni depv (ownv.map (·.2))) dep') (fun x hx=>q2m (q2m hx)) (fun x hx=>q2m (q5f hx)))
          | succ i =>
            have hi':i<(X.evs c.v l').length:=by simp only[X.evs,kQ] at hi;omega
            have:=q4 i hi';rw[show(i+1) * te.w=vs.length+i * te.w by rw[uO];omega,vR,kT (by omega),kH];simp only[X.evs,List.getElem_cons_succ,vC];exact this.mono fun b _ hb=>hb.mono fun y hy=>q5f hy
      · cases h
    · cases h
theorem zec(hf:SF c σ p w a)(hc:hold c.v cs=true){T:TypeId}{ps:Array (Nat×Operand)}(heq:o.op=.build T ps){x:AV}(h:zad uA σ cs T ps.toList=some x):q6z o a c p w x:=by
 unfold zad at h;split at h
 ·rename_i n E i hu hi;split at h
  ·rename_i te hte;split at h
   ·rename_i l dep zc hr hzc;split at h
    ·rename_i hok;simp only[gnB] at hok;have hn:=gnN hok.1;have hz:=gnN hok.2;injection h with h;subst h;obtain⟨c2,q1,q2,q3,q4⟩:=qxg hf hc (cells:=zc) (c0:=[]) (c1:=zc.toList) hr (by simp) (by simp) (by simp[hz,hn]);have hparts:(ps.map fun(y:Nat×Operand)=>(y.1,a.eval y.2)).toList=ps.toList.map fun y=>(y.1,a.eval y.2):=by simp
     rw[←hparts,vC] at q1;have hzr:(zeroValue T).run uA w=.ok (.agg zc) w:=by simp[zeroValue,typeInfo,hi,hzc]
     refine⟨.agg c2.toArray,?_,te,c2,hte,rfl,?_,fun j d hj=>?_⟩
     ·generalize a.eval=r at *;simp only[execOp,heq,Instr.build,uV,hzr,run_underlying hu,uK,Value.cells,q18 hte,q1];rfl
     ·rw[q2,←q3,q79]
     ·obtain⟨hjl,rfl⟩:=gnH.1 hj;exact q4 j hjl
    ·cases h
   ·cases h
  ·cases h
 ·cases h
theorem zdd(hb:Bs c.A c.F w0 S0 p w)(hf:SF c σ p w a)(hc:hold c.v cs=true)(hd:a.defers=d)(hz:a.tmps.size=z){k:Nat}(hk:k<z)(hdst:o.dst=some k){T:TypeId}{n:Nat}{ps:Array (Nat×Operand)}(heq:o.op=.buildSlice T n ps)(h:z8g σ cs k T n ps.toList=some σ'){Q:Exit→Act→World→Prop}:
  o.wp uA a w (q09 c w0 S0 d z σ') Q:=by
 unfold z8g at h;split at h
 ·rename_i E hT;split at h
  ·rename_i te hte;split at h
   ·rename_i l dep hr;split at h
    ·rename_i hok;simp only[gnB] at hok;obtain⟨ho1,ho2,ho3⟩:=hok;have hn:=gnN ho1;have hn2:n≤1000:=by simpa using ho2
     have hn3:n * te.w≤16777216:=by simpa using ho3
     injection h with h;subst h;have hf1:=SF.un (q:=zh k) hb.inj hb.pa hf;obtain⟨i,hi,hsz,hpos,hby⟩:=q4j hte;obtain⟨zv,zvs,hzr,hzp,-,hzl0,hzc⟩:=qg1 hte w (fun _=>True);have hu:=(q1y hT).1;obtain⟨c2,q1,q2,q3,q4⟩:=qxg hf1 hc (cells:=(kW (n * te.w)).map fun i=>(if n * te.w=0 then #[] else zv.cells)[i % (if n * te.w=0 then #[] else zv.cells).size]!) (c0:=[]) (c1:=((kW (n * te.w)).map fun i=>(if n * te.w=0 then #[] else zv.cells)[i % (if n * te.w=0 then #[] else zv.cells).size]!).toList) hr (by simp) (by simp) (by simp[hn]);have hparts:(ps.map fun(y:Nat×Operand)=>(y.1,a.eval y.2)).toList=ps.toList.map fun y=>(y.1,a.eval y.2):=by simp
     rw[←hparts,vC] at q1;have hrun:(execOp a.eval o).run uA w=.ok (.value (.slice (some ⟨w.heap.size,0,none⟩) n n)) (w.alloc (.cells c2.toArray E)):=by
      have hns:¬(n * te.w>2^24):=by omega
      generalize a.eval=r at *;simp only[execOp,heq,Instr.buildSlice,uV,run_underlying hu,uK,q18 hte];rw[if_neg hns];by_cases h0:n * te.w=0
      ·simp only[h0,if_true] at q1⊢;simp only[uV,uZ,uK,q1,newRow,newObj];simp[kJ]
      ·simp only[h0,if_false] at q1⊢;simp only[uV,uZ,uK,hzr,q1,newRow,newObj];simp[kJ]
     unfold Oper.wp;rw[hrun]
     show q09 c w0 S0 d z _ (a.put o.dst _) _
     rw[hdst];have hln:(X.evs c.v l).length=n:=by rw[q3,hn]
     have:=z58 (σ:=σ) hb hf hd hz hk hte (x:=.row l) (l:=X.evs c.v l) rfl (dep:=qd2 te dep) (cells:=c2) (by rw[q2,q3]) (by omega) (fun j hj=>by
      by_cases hfl:y6 8 te=true
      ·exact Rd.flat 8 _ hfl (q4 j hj)
      ·have e1:qd2 te dep=dep:=if_neg hfl;rw[e1];exact q4 j hj)
     rw[hln] at this;exact this
    ·cases h
   ·cases h
  ·cases h
 ·cases h
theorem z37{zvs:List Value}{m:Nat}(h:0<zvs.length):∀j,j<m→((((kW (m * zvs.length)).map fun i=>zvs.toArray[i % zvs.toArray.size]!).toList.drop (j * zvs.length)).take zvs.length)=zvs:=by
 intro j hj;have hle:(j+1) * zvs.length≤m * zvs.length:=uC _ (by omega);rw[uO] at hle;apply kZ;intro i;by_cases hi:i<zvs.length
 ·rw[uF hi,kD];have hlt:j * zvs.length+i<m * zvs.length:=by omega
  have hmod:(j * zvs.length+i) % zvs.length=i:=by rw[Nat.add_comm,Nat.add_mul_mod_self_right,vT hi]
  simp[hlt,hmod,hi]
 ·rw[kA (by simp;omega),kA (by omega)]
theorem zf5(hb:Bs c.A c.F w0 S0 p w)(hf:SF c σ p w a)(hc:hold c.v cs=true)(hd:a.defers=d)(hz:a.tmps.size=z){k:Nat}(hk:k<z)(hdst:o.dst=some k){T:TypeId}{x y:Operand}(heq:o.op=.makeSlice T x y){ns:List X}(h:z30 σ cs k T x y=some (ns,σ'))(hn:∀n∈ns,n.says c.v){Q:Exit→Act→World→Prop}:
  o.wp uA a w (q09 c w0 S0 d z σ') Q:=by
 unfold z30 at h;split at h
 ·rename_i E hT;split at h
  ·rename_i te hte;split at h
   ·rename_i xn _ _ yn _ _ hx hy;split at h
    ·rename_i hxy;simp only[gnB,uQ] at hxy;obtain⟨hxy,hmp⟩:=hxy;have hxy':=X.beq_ok _ _ hxy;subst hxy';simp only[gnS] at h;obtain⟨rfl,rfl⟩:=h;have hf1:=SF.un (q:=zh k) hb.inj hb.pa hf;obtain⟨m,hm,hmv,-⟩:=q0j (z4 hf1 hc hx);obtain⟨m',hm',hmv',-⟩:=q0j (z4 hf1 hc hy);rw[hm] at hm';injection hm' with hm';subst hm';have n1:=q0h (x:=.lit (.i 0)) (y:=xn) (hn _ (by simp));have n2:=q0h (x:=xn) (y:=.lit (.i 16777216)) (hn _ (by simp));rw[hm] at n1 n2;simp only[X.ev,D.int] at n1 n2;obtain⟨m',rfl⟩:=Int.eq_ofNat_of_zero_le n1;obtain⟨i,hi,hsz,hpos,hby⟩:=q4j hte;obtain⟨zv,zvs,hzr,hzp,hzrd,hzl0,hzc⟩:=qg1 hte w (FFD c.A (unP (zh k) p) []);have hzrd:=hzrd hmp;have hu:=(q1y hT).1;have hzl:zvs.length=te.w:=(Rd.len _ hzrd).1;have hm2:m'≤16777216:=by omega
     have hwr:IntKind.i64.wrap (m':Int)=m':=qbr (k:=.i64) (by simp[q2p];omega);have hcl:((kW (m' * te.w)).map fun i=>zvs.toArray[i % zvs.toArray.size]!).toList.length=m' * te.w:=by simp
     have hrun:∃cells:List Value,(execOp a.eval o).run uA w=.ok (.value (.slice (some ⟨w.heap.size,0,none⟩) m' m')) (w.alloc (.cells cells.toArray E))∧cells.length=m' * te.w∧∀j,j<m'→(cells.drop (j * te.w)).take te.w=zvs:=by
      have hb48:¬(281474976710656<(i.bytes:Int) * m'):=by
       have:i.bytes * m'≤4096 * 16777216:=jA hby hm2;omega
      have hlt0:¬((m':Int)<0):=by omega
      by_cases h0:m' * te.w=0
      ·refine⟨[],?_,by simp[h0],fun j hj=>?_⟩
       ·have hm0:m'=0:=by
         rcases Nat.mul_eq_zero.1 h0 with h|h
         ·exact h
         ·omega
        subst hm0;generalize a.eval=r at *;simp only[execOp,heq,hmv,hmv',Instr.makeSlice,uV,run_underlying hu,uK,asInt,asIntOf,uZ,typeInfo,run_program,hi,hwr];simp[askRoom,roomBytes,q18 hte,newRow,newObj,kJ,hwr]
        congr 2
        apply kR;simp
       ·have:0<te.w:=hpos;have:=jH (show 0<m' by omega) this;omega
      ·refine⟨((kW (m' * te.w)).map fun i=>zvs.toArray[i % zvs.toArray.size]!).toList,?_,hcl,fun j hj=>?_⟩
       ·have hroom:¬(m' * i.bytes>roomBytes):=by
         have:m' * i.bytes≤16777216 * 4096:=jA hm2 hby;unfold roomBytes;omega
        generalize a.eval=r at *;simp only[execOp,heq,hmv,hmv',Instr.makeSlice,uV,run_underlying hu,uK,asInt,asIntOf,uZ,typeInfo,run_program,hi,hwr];simp[askRoom,hroom,q18 hte,h0,hzr,hzc,newRow,newObj,kJ,hb48,hlt0,hwr]
        congr 2
        apply kR;simp
       ·have:=z37 (zvs:=zvs) (m:=m') (by omega) j hj;rw[hzl] at this;exact this
     obtain⟨cells,hrun,hcl,hcells⟩:=hrun;unfold Oper.wp;rw[hrun]
     show q09 c w0 S0 d z _ (a.put o.dst _) _
     rw[hdst];have:=z58 (σ:=σ) hb hf hd hz hk hte (x:=.rep xn (qen te)) (l:=kM m' (q5y 8 te)) (by show D.r _=_;rw[hm];rfl) (dep:=[]) (cells:=cells) (by simp[hcl]) (by simpa using hm2) (fun j hj=>by
      have hj':j<m':=by simpa using hj
      rw[hcells j hj',vH];exact hzrd)
     simpa using this
    ·cases h
   ·cases h
  ·cases h
 ·cases h
end
end
structure Ow where
 f:Option (List Nat)
 lost:Bool:=false
instance:Coe Bool Ow:=⟨fun b=>{f:=cond b none (some [])}⟩
inductive Ar where
 |val(t:Ty)
 |ref(t:Ty)(o:Ow)
 |rref(t:Ty)
 |own(t:Ty)
 |mref(t:Ty)
 |nils
 |nilp
 |cst(t:Ty)(d:D)
 |fn(f:FuncId)(ks:List Nat)
 |cell(T:TypeId)(j:Nat)
def qvd(o:Ow)(i:Nat)(t:Ty):List (Nat×Nat):=match o.f with
 |none=>zw i t
 |some []=>[]
 |some l=>(zw i t).filter fun e=>yk l e.1
def z7e(o:Ow)(i:Nat)(t:Ty):List (Nat×Nat):=if o.lost then[] else qvd o i t
inductive Src where
 |cap(i q:Nat)
 |cell(i:Nat)
structure Ct where
 f:FuncId
 ar:List Ar
 rs:List (Ty×Bool)
 vr:List (Src×Ar):=[]
 pn:Option TypeId:=none
 kp:List Nat:=[]
 fl:List (Nat×Nat×Ty):=[]
def qij(ct:Ct)(F:Flr)(ds:List D):Prop:=∀te,F.mx te=0∨∃k j,(k,j,te)∈ct.fl∧(k=999∨F.mx te≤(((ds.getD k .u).fld j).rs.length))
theorem qij.zero{ct:Ct}{F:Flr}{ds:List D}(h:qij ct F ds)(hf:ct.fl=[])(te:Ty):F.mx te=0:=by
 rcases h te with h|⟨k,j,hm,-⟩
 ·exact h
 ·rw[hf] at hm;cases hm
theorem qij.of0{ct:Ct}{F:Flr}{ds:List D}(h:∀te,F.mx te=0):qij ct F ds:=fun te=>.inl (h te)
theorem Flo.of0{F:Flr}(h:∀te,F.mx te=0){w0 w w1 w':World}(hw:Flo F w0 w):Flo F w1 w':=fun k hk=>by
 obtain⟨cs,cs',T,te,h1,h2,h3,h4,-⟩:=hw k hk;rw[h te] at h4;omega
theorem Flo.anew{F:Flr}{w0 w:World}(h:Flo F w0 w):Flo F w w:=fun k hk=>by
 obtain⟨cs,cs',T,te,h1,h2,h3,h4,h5,h6,h7,h8⟩:=h k hk;exact⟨cs',cs',T,te,jb h6,h6,h3,h4,by rw[h7];exact h5,h6,rfl,fun j _=>rfl⟩
theorem Flo.trans{F:Flr}{w0 w w':World}(h:Flo F w0 w)(h':Flo F w w'):Flo F w0 w':=fun k hk=>by
 obtain⟨cs,cs',T,te,h1,h2,h3,h4,h5,h6,h7,h8⟩:=h k hk;obtain⟨ds,ds',T',te',g1,g2,g3,g4,g5,g6,g7,g8⟩:=h' k hk;rw[h6] at g2;injection g2 with g2;injection g2 with e1 e2;subst e1 e2;exact⟨cs,ds',T,te,h1,h2,h3,h4,h5,g6,g7.trans h7,fun j hj=>(g8 j hj).trans (h8 j hj)⟩
def idx:Nat→List Ar→List (Nat×Ar)
 |_,[]=>[]
 |i,a::l=>(i,a)::idx (i+1) l
def Ct.all(ct:Ct):List (Nat×Ar):=idx 0 ct.ar++idx VB (ct.vr.map (·.2))
def j7(V:List Value)(A:Nat→Prop)(p:z6)(w:World):List (Nat×Ar)→List Value→List D→Prop
  |[],vs,ds=>vs=[]∧ds=[]
  |(_,.val t)::l,vs,ds=>∃v r d ds',vs=v::r∧ds=d::ds'∧(∃cs,j5 t cs v∧Rd w (FFD A p []) d t cs)∧j7 V A p w l r ds'
  |(i,.ref t o)::l,vs,ds=>∃v r d ds',vs=v::r∧ds=d::ds'∧(∃g cs T,p (i * 16)=some g∧v=.pointer (some ⟨g,0,none⟩)∧w.heap[g]? =some (.cells cs T (0,0))∧qy T=some t∧Con A p w d t (qvd o i t) [] cs.toList)∧j7 V A p w l r ds'
  |(_,.rref t)::l,vs,ds=>∃v r d ds',vs=v::r∧ds=d::ds'∧(∃b o cs,v=.pointer (some ⟨b,o,none⟩)∧FFD A p [] b∧w.rangeAt b o cs∧0<cs.length∧Rd w (FFD A p []) d t cs)∧j7 V A p w l r ds'
  |(i,.own t)::l,vs,ds=>∃v r d ds',vs=v::r∧ds=d::ds'∧(∃cs,j5 t cs v∧Con A p w d t (zw i t) [] cs)∧j7 V A p w l r ds'
  |(i,.mref t)::l,vs,ds=>∃v r d ds',vs=v::r∧ds=d::ds'∧(∃cs,j5 t cs v∧Con A p w d t (zw i t) [] cs)∧j7 V A p w l r ds'
  |(_,.nils)::l,vs,ds=>∃r,vs=.slice none 0 0::r∧j7 V A p w l r ds
  |(_,.nilp)::l,vs,ds=>∃r,vs=.pointer none::r∧j7 V A p w l r ds
  |(_,.cst t d)::l,vs,ds=>∃v r,vs=v::r∧(∃cs,j5 t cs v∧Rd w (FFD A p []) d t cs)∧j7 V A p w l r ds
  |(_,.fn f ks)::l,vs,ds=>∃r,vs=.func (.func f) #[] (ks.map fun k=>V.getD k undef).toArray::r∧j7 V A p w l r ds
  |(_,.cell T j)::l,vs,ds=>∃b r,vs=.pointer (some ⟨b,0,none⟩)::r∧A b∧qcc p b∧w.heap[b]? =some (.cells #[V.getD j undef] T (0,0))∧j7 V A p w l r ds
def qov(A:Nat→Prop)(p:z6)(w:World):List (Ty×Bool)→Nat→List Value→List D→Prop
  |[],_,vs,ds=>vs=[]
  |(t,own)::l,k,vs,ds=>∃v r d ds',vs=v::r∧ds=d::ds'∧(∃cs,j5 t cs v∧Con A p w d t (if own then zw k t else[]) [] cs)∧qov A p w l (k+1) r ds'
def qb6(V:List Value)(A:Nat→Prop)(p p':z6)(w:World):List (Nat×Ar)→List D→Prop
  |[],ds=>ds=[]
  |(i,.ref t o)::l,ds=>∃d ds',ds=d::ds'∧(∃g cs T,p (i * 16)=some g∧p' (i * 16)=some g∧w.heap[g]? =some (.cells cs T (0,0))∧qy T=some t∧Con A p' w d t (z7e o i t) [] cs.toList)∧qb6 V A p p' w l ds'
  |(i,.mref t)::l,ds=>∃d ds',ds=d::ds'∧((∃g,p (i * 16+1)=some g∧p' (i * 16+1)=some g∧Con A p' w d t [(0,i * 16+1)] [] [.map (some g)])∨(qpi t=true∧∃v cs,V[i]? =some v∧j5 t cs v∧Con A p' w d t (zw i t) [] cs))∧qb6 V A p p' w l ds'
  |_::l,ds=>qb6 V A p p' w l ds
def qt9:List Value→Value
 |[v]=>v
 |l=>.tuple l.toArray
structure Pre(n:Nat)(A:Nat→Prop)(F:Flr)(p:z6)(w:World):Prop where
 inj:∀x y b,p x=some b→p y=some b→x=y
 bd:∀x b,p x=some b→b<w.heap.size
 pa:∀x b,p x=some b→A b
 obj:∀x b,p x=some b→qh5 w b
 new:∀b,w.heap.size≤b→A b∧F.fr b
 keys:∀x b,p x=some b→x / 16<n∨VB≤x / 16
def pinned(p:z6):Nat→Prop:=fun b=>∃x,p x=some b
def qcq(T:TypeId):List PanicEntry:=[{v:=.iface T (.agg #[]),recovered:=false}]
def Kpt(l:List Nat)(p p':z6)(w w':World):Prop:=∀q∈l,∀b,p q=some b→p' q=some b∧w'.heap[b]? =w.heap[b]?
structure FOk(ct:Ct)(g:List D→Option (List D)):Prop where
 enter:∀args w,(callFunc ct.f args).run uA w=.ok (.enter ct.f args) w
 call:∀(A:Nat→Prop)(F:Flr)(p:z6)(w:World)(vs us:List Value)(ds outs:List D),g ds=some outs→qij ct F ds→Flo F w w→Pre ct.ar.length A F p w→vs.length=ct.ar.length→j7 (vs++us) A p w ct.all (vs++us) ds→
  Calls uA ct.f vs.toArray w fun e w'=>(∃T,ct.pn=some T∧outs=[.u]∧e=.panicked (qcq T)∧But (pinned p) w w')∨∃rs p',e=.returned (qt9 rs)∧Bs A F w (pinned p) p' w'∧qov A p' w' ct.rs ct.ar.length rs (outs.take ct.rs.length)∧qb6 (vs++us) A p p' w' ct.all (outs.drop ct.rs.length)
 keep:ct.kp≠[]→∀(A:Nat→Prop)(F:Flr)(p:z6)(w:World)(vs us:List Value)(ds outs:List D),g ds=some outs→qij ct F ds→Flo F w w→Pre ct.ar.length A F p w→vs.length=ct.ar.length→j7 (vs++us) A p w ct.all (vs++us) ds→
  Calls uA ct.f vs.toArray w fun e w'=>(∃T,ct.pn=some T∧outs=[.u]∧e=.panicked (qcq T)∧But (pinned p) w w')∨∃rs p',e=.returned (qt9 rs)∧Bs A F w (pinned p) p' w'∧qov A p' w' ct.rs ct.ar.length rs (outs.take ct.rs.length)∧qb6 (vs++us) A p p' w' ct.all (outs.drop ct.rs.length)∧Kpt ct.kp p p' w w':=by intro h;exact absurd rfl h
theorem FOk.callK{ct:Ct}{g:List D→Option (List D)}(h:FOk ct g):∀(A:Nat→Prop)(F:Flr)(p:z6)(w:World)(vs us:List Value)(ds outs:List D),g ds=some outs→qij ct F ds→Flo F w w→Pre ct.ar.length A F p w→vs.length=ct.ar.length→j7 (vs++us) A p w ct.all (vs++us) ds→
  Calls uA ct.f vs.toArray w fun e w'=>(∃T,ct.pn=some T∧outs=[.u]∧e=.panicked (qcq T)∧But (pinned p) w w')∨∃rs p',e=.returned (qt9 rs)∧Bs A F w (pinned p) p' w'∧qov A p' w' ct.rs ct.ar.length rs (outs.take ct.rs.length)∧qb6 (vs++us) A p p' w' ct.all (outs.drop ct.rs.length)∧Kpt ct.kp p p' w w':=fun A F p w vs us ds outs h1 hfl hfo h2 h3 h4=>by
 by_cases hk:ct.kp=[]
 ·refine(h.call A F p w vs us ds outs h1 hfl hfo h2 h3 h4).mono fun e w'=>Or.imp id fun⟨rs,p',a,b,c,d⟩=>⟨rs,p',a,b,c,d,?_⟩;rw[hk];intro q hq;cases hq
 ·exact h.keep hk A F p w vs us ds outs h1 hfl hfo h2 h3 h4
abbrev Tbl:=List (Ct×(List D→Option (List D)))
def ym(tbl:Tbl):Nat→List D→Option (List D):=fun n ds=>match tbl[n]? with
 |some e=>e.2 ds
 |none=>none
def zgm(ct:Ct):Option Ty:=match ct.ar,ct.rs with
 |[.val (.st 4242424243)],(t,_)::_=>some t
 |_,_=>none
def flI(t:Ty):Nat→Tbl→Option Nat
 |_,[]=>none
 |n,e::l=>match zgm e.1 with
  |some t'=>if Ty.beq t' t then some n else flI t (n+1) l
  |none=>none
def z1t:Tbl→List Ty
 |[]=>[]
 |e::l=>match zgm e.1 with
  |some t'=>t'::z1t l
  |none=>[]
def flX(tbl:Tbl)(t:Ty):Option X:=(flI t 0 tbl).map fun n=>.call n 0 []
def flM(tbl:Tbl)(t:Ty):Nat:=match flI t 0 tbl with
 |some n=>(((ym tbl n []).getD []).getD 0 .u).int.toNat
 |none=>0
structure HS(c:Cx)(tbl:Tbl):Prop where
 s:c.v.S=ym tbl
 f:∀te,c.F.mx te≤flM tbl te
theorem z4n{t:Ty}:∀{l:Tbl}{n i:Nat},flI t n l=some i→t∈z1t l
 |[],n,i,h=>by cases h
 | e :: l, n, i, h => by
  unfold flI at h;unfold z1t;split at h
  ·rename_i t' ht;split at h
   ·rename_i he;rw[(Ty.beq_iff _ _).1 he];exact kG
   ·exact kF _ (z4n h)
  ·cases h
theorem HS.zero{c:Cx}{tbl:Tbl}(h:HS c tbl){te:Ty}(hn:te∉z1t tbl):c.F.mx te=0:=by
 have:=h.f te;unfold flM at this;split at this
 ·rename_i n hi;exact absurd (z4n hi) hn
 ·omega
def q35(tbl:Tbl):Prop:=∀e,e∈tbl→FOk e.1 e.2
def qjw(tbl:Tbl)(w0:World)(S0:Nat→Prop)(d:List Deferred)(Q:Exit→Act→World→Prop):Prop:=∀e∈tbl,∀T,e.1.pn=some T→(∃ds,e.2 ds=some [.u])→∀a w,a.defers=d→But S0 w0 w→Q (.panic (qcq T)) a w
def zkb(tbl:Tbl)(R:List D→Prop)(w0:World)(S0:Nat→Prop)(d:List Deferred)(Q:Exit→Act→World→Prop):Prop:=R [.u]→∀e∈tbl,∀T,e.1.pn=some T→∀a w,a.defers=d→But S0 w0 w→Q (.panic (qcq T)) a w
def z64(tbl:Tbl):Bool:=tbl.all fun e=>e.1.pn.isNone
theorem qzz{tbl:Tbl}(h:z64 tbl=true){e:Ct×(List D→Option (List D))}(he:e∈tbl){T:TypeId}(hT:e.1.pn=some T):False:=by
 have:=vB.1 h e he;rw[hT] at this;cases this
mutual
/-- Both are one value. -/
def q3e:AV→AV→Bool
 |.sn i _,.sn j _=>uB i j
 |.ref k _ o _,.ref k' _ o' _=>uB k k'&&uB o o'
 |.ref k _ o _,.bx k' _ _=>uB k k'&&uB o 0
 |.bx k _ _,.ref k' _ o _=>uB k k'&&uB o 0
 |.bx k _ _,.bx k' _ _=>uB k k'
 |.fn f l,.fn f' l'=>uB f f'&&qme l l'
 |.nilP,.nilP=>true
 |_,_=>false
def qme:List AV→List AV→Bool
 |[],[]=>true
 |a::l,b::m=>q3e a b&&qme l m
 |_,_=>false
end
def z70(σ:St):AV→AV
 |.sn _ a=>a
 | .ref k path o t => (match path, o with
  |[],0=>(match lkA σ.t k with
   |some (.bx k' T a)=>if uB k' k then .bx k T a else .ref k path o t
   |_=>.ref k path o t)
  |_,_=>.ref k path o t)
 |a=>a
def zeh(σ:St)(avs:List AV):Src→Option AV
 | .cap i q => (match avs[i]? with
  |some a=>(match z70 σ a with
   |.fn _ l=>l[q]?
   |_=>none)
  |none=>none)
 | .cell i => (match avs[i]? with
  |some a=>(match z70 σ a with
   |.bx _ _ a=>some a
   |.fr _ a=>some a
   |_=>none)
  |none=>none)
def qwc(σ:St):List AV→List Src→Option (List AV)
 |avs,[]=>some avs
 |avs,s::l=>match zeh σ avs s with
  |some a=>qwc σ (avs++[a]) l
  |none=>none
def z80(V:List AV):List AV→List Nat→Bool
 |[],[]=>true
 |a::l,k::ks=>(match V[k]? with
  |some b=>q3e a b
  |none=>false)&&z80 V l ks
 |_,_=>false
def qzb(V:List AV)(j:Nat)(c:AV):Bool:=match V[j]? with
 |some b=>q3e c b
 |none=>false
def zb0(t:Ty)(d:D)(a:AV):Bool:=match q5h t a with
 |some (x,_,_)=>(match zae x with
  |some d'=>D.beq d' d
  |none=>false)
 |none=>false
def zkh:Ar→AV→Bool
 |.val t,a=>(q5h t a).isSome
 |.ref t _,.ref _ [] 0 t'=>Ty.beq t' t
 |.rref t,.ref _ [] 0 t'=>Ty.beq t' t
 |.rref t,.rd _ t' _ _=>Ty.beq t' t
 |.own t,a=>(q5h t a).isSome
 |.mref t,a=>(q5h t a).isSome
 |.nils,.nilS=>true
 |.nilp,.nilP=>true
 |.cst t d,a=>zb0 t d a
 |.fn f _,.fn f' _=>uB f f'
 |.cell T _,.bx _ T' _=>uB T T'
 |.cell T _,.fr T' _=>uB T T'
 |_,_=>false
def zgc(σ:St):List (Nat×Ar)→List AV→Bool
 |[],[]=>true
 |r::l,a::m=>zkh r.2 (z70 σ a)&&zgc σ l m
 |_,_=>false
def z06(σ:St)(args:List AV)(ct:Ct):Option (List AV):=match qwc σ args (ct.vr.map (·.1)) with
 |some V=>if uB args.length ct.ar.length&&zgc σ ct.all V then some V else none
 |none=>none
def qkz(σ:St)(f:FuncId)(args:List AV):Tbl→Nat→Option (Nat×Ct×List AV)
 |[],_=>none
 |e::l,n=>if uB e.1.f f then(match z06 σ args e.1 with
  |some V=>some (n,e.1,V)
  |none=>qkz σ f args l (n+1)) else qkz σ f args l (n+1)
def MB:Nat:=1000000000
def qic(k:Nat):Nat:=if kY MB k then k - MB else k * 16
def qhw(k i:Nat):Nat:=if kY MB k then i * 16+1 else i * 16
structure Gv where
 xs:List X
 dep:List Nat
 pass:List (Nat×Nat)
 vars:List (Nat×Nat×Ty×List (Nat×Nat))
def qhf(own mine:List (Nat×Nat)):Option (List (Nat×Nat×Nat)):=match own with
  |[]=>some []
  | (j, q) :: l => match lkA mine j, qhf l mine with
    |some pin,some r=>some ((j,q,pin)::r)
    |_,_=>none
def qbk(σ:St)(V:List AV)(i:Nat)(r:Ar)(a:AV)(g:Gv):Option Gv:=match r,a with
 |.val t,a=>(match q5h t a with
  |some (x,own,dep)=>some ⟨x::g.xs,uni (uni (own.map (·.2)) dep) g.dep,g.pass,g.vars⟩
  |none=>none)
 | .ref t o, .ref k [] 0 t' => (match lkA σ.m k with
  |some e=>if jG k MB&&(Ty.beq t' t&&(Ty.beq e.t t&&e.own.all fun y=>(lkA (qvd o i t) y.1).isSome)) then(match qhf (qvd o i t) e.own with
   |some ps=>some ⟨e.x::g.xs,uni e.dep g.dep,(i * 16,k * 16)::ps.map (·.2)++g.pass,(k,i,t,if o.lost then[] else ps.map fun y=>(y.1,y.2.2))::g.vars⟩
   |none=>none) else none
  |none=>none)
 |.rref t,.ref k [] 0 t'=>(match lkA σ.m k with
  |some e=>if Ty.beq t' t&&(Ty.beq e.t t&&jG 0 t.w) then some ⟨e.x::g.xs,uni (k * 16::uni (e.own.map (·.2)) e.dep) g.dep,g.pass,g.vars⟩ else none
  |none=>none)
 |.rref t,.rd x t' dep _=>if Ty.beq t' t then some ⟨x::g.xs,uni dep g.dep,g.pass,g.vars⟩ else none
 |.own (.row E),.nilS=>if(qy E).isSome then some ⟨.lit (.r [])::g.xs,g.dep,g.pass,g.vars⟩ else none
 | .own t, a => (match q5h t a with
  |some (x,own,dep)=>if own.all fun y=>(lkA (zw i t) y.1).isSome then(match qhf (zw i t) own with
   |some ps=>some ⟨x::g.xs,uni dep g.dep,ps.map (·.2)++g.pass,g.vars⟩
   |none=>none) else none
  |none=>none)
 |.mref t,a=>(match q5h t a with
  |some (x,[(0,pin)],_)=>if qb4 t||qpi t then some ⟨x::g.xs,g.dep,(i * 16+1,pin)::g.pass,(MB+pin,i,t,[(0,pin)])::g.vars⟩ else none
  |_=>none)
 |.nils,.nilS=>some g
 |.nilp,.nilP=>some g
 |.cst t d,a=>if zb0 t d a then(match q5h t a with
  |some (_,own,dep)=>some ⟨g.xs,uni (uni (own.map (·.2)) dep) g.dep,g.pass,g.vars⟩
  |none=>none) else none
 |.fn f ks,.fn f' l=>if uB f f'&&z80 V l ks then some g else none
 |.cell T j,.bx k T' c=>if uB T T'&&qzb V j c then some ⟨g.xs,uni [k * 16] g.dep,g.pass,g.vars⟩ else none
 |.cell T j,.fr T' c=>if uB T T'&&qzb V j c then some g else none
 |_,_=>none
def give(σ:St)(V:List AV):List (Nat×Ar)→List AV→Option Gv
  |[],[]=>some ⟨[],[],[],[]⟩
  | (i, r) :: l, a :: m => match give σ V l m with
    |some g=>qbk σ V i r (z70 σ a) g
    |none=>none
  |_,_=>none
def q1s:List Nat→Bool
 |[]=>true
 |x::l=> !yk l x&&q1s l
def z8c(t:Ty)(own:Bool)(l:List Nat):List Nat:=if y6 8 t||(own&&qfy t) then[] else l
def shO(j:Nat)(l:List (Nat×Nat)):List (Nat×Nat):=match j with
 |0=>l
 |_+1=>l.map fun e=>(e.1,e.2+7)
def z4q(n:Nat)(xs:List X)(dep:List Nat)(k:Nat):List (Ty×Bool)→Nat→List AV
 |[],_=>[]
 |(t,own)::l,j=>.v (.call n j xs) t (if own then shO j (zw k t) else[]) (z8c t own dep)::z4q n xs dep k l (j+1)
def zka:List AV→AV
 |[a]=>a
 |l=>.tup l
def qg4(n k:Nat)(rs:List (Ty×Bool))(j:Nat:=0):List (Nat×Nat):=match rs with
 |[]=>[]
 |(t,own)::l=>(if own then(zw n t).zip (shO j (zw k t))|>.map fun e=>(e.1.2,e.2.2) else[])++qg4 (n+1) k l (j+1)
def q5k(n:Nat)(xs:List X)(dep:List Nat):List (Nat×Nat×Ty×List (Nat×Nat))→Nat→List (Nat×Ent)→List (Nat×Ent)
 |[],_,m=>m
 |(k,_,t,own)::l,j,m=>q5k n xs dep l (j+1) (if kY MB k then m else q0a m k ⟨.call n j xs,t,own,z8c t (qpx t own) dep⟩)
def zbf(n j:Nat)(xs:List X)(pin:Nat)(t:Ty):AV→Option AV
 |.v _ t' [(0,q)] _=>if uB q pin&&Ty.beq t' t then some (.v (.call n j xs) t [(0,pin)] []) else none
 |.sn s (.v _ t' [(0,q)] _)=>if uB q pin&&Ty.beq t' t then some (.sn s (.v (.call n j xs) t [(0,pin)] [])) else none
 |_=>none
def z6x(f:AV→Option AV)(o:List (Nat×AV)):List (Nat×AV)→List (Nat×AV)→List (Nat×AV)
 |[],acc=>acc
 |e::l,acc=>match(lkA o e.1).bind f with
  |some y=>q0a (z6x f o l acc) e.1 y
  |none=>z6x f o l acc
def ziw(n j:Nat)(xs:List X)(pin:Nat)(t:Ty)(q:Nat):AV→Option AV
 |.sn q' a=>if uB q' q then zbf n j xs pin t (.sn q' a) else none
 |_=>none
def zk0(n j:Nat)(xs:List X)(pin i:Nat)(t:Ty)(args:List Operand)(o acc:List (Nat×AV)):List (Nat×AV):=match args[i]? with
 | some (.tmp s) => (match lkA o s with
  |some (.sn q _)=>z6x (ziw n j xs pin t q) o o acc
  |some x=>(match zbf n j xs pin t x with
   |some y=>q0a acc s y
   |none=>acc)
  |none=>acc)
 |_=>acc
def z09(n:Nat)(xs:List X)(args:List Operand)(o:List (Nat×AV)):List (Nat×Nat×Ty×List (Nat×Nat))→Nat→List (Nat×AV)→List (Nat×AV)
 |[],_,acc=>acc
 |(k,i,t,_)::l,j,acc=>z09 n xs args o l (j+1) (if kY MB k then(if qpi t then zk0 n j xs (k - MB) i t args o acc else z6x (zbf n j xs (k - MB) t) o o acc) else acc)
def qu7(l:List (Nat×Nat×Ty×List (Nat×Nat))):List Nat:=(l.filter fun y=> !(kY MB y.1&&qpi y.2.2.1)).map fun y=>qic y.1
def inL(l:List Nat):Nat→Bool:=yk l
def z33(σ:St)(cs:List (X×Bool))(y:Operand)(args:List Operand):Option (FuncId×List AV):=match opd σ cs y,opds σ cs args with
 |some (.fn f l),some r=>some (f,r++l)
 |some (.v x .fnv _ _),some r=>(match zae x with
  |some (.i n)=>if decide (0≤n) then some (n.toNat,r) else none
  |_=>none)
 |_,_=>none
def zdg(tbl:Tbl)(xs:List X)(fl:List (Nat×Nat×Ty))(t:Ty):Option X:=match fl with
  |[]=>none
  | (k, j, t') :: l => if Ty.beq t' t then (if uB k 999 then some (.lit (.b true)) else match xs[k]?, flX tbl t with
    |some x,some b=>some (leX b (q9p (.fld x j)))
    |_,_=>none) else zdg tbl xs l t
def zee(tbl:Tbl)(xs:List X)(fl:List (Nat×Nat×Ty)):List Ty→Option (List X)
 |[]=>some []
 |t::l=>match zdg tbl xs fl t,zee tbl xs fl l with
  |some x,some r=>some (x::r)
  |_,_=>none
def flC(tbl:Tbl)(ct:Ct)(xs:List X)(pass:List (Nat×Nat)):Option (List X):=match z1t tbl with
 |[]=>some []
 |l=>if pass.isEmpty then some [] else zee tbl xs ct.fl l
def qe5(ct:Ct)(pass:List (Nat×Nat)):List Nat:=(pass.filter fun y=> !yk ct.kp y.1).map (·.2)
def qs8(tbl:Tbl)(σ0:St)(cs:List (X×Bool))(k:Nat)(y:Operand)(args:List Operand):Option (List X×St):=
 let σ:=σ0.un (zh k)
 match z33 σ cs y args with
 | some (f, avs) => match qkz σ f avs tbl 0 with
  | some (n, ct, V) => match give σ V ct.all V with
   | some g =>
    let Z:=inL (qe5 ct g.pass)
    let L:=inL ((qe5 ct g.pass).filter fun x=> !yk (qu7 g.vars) x)
    let ren:=g.pass++qg4 ct.ar.length k ct.rs
    if q1s (ren.map (·.1))&&(q1s (ren.map (·.2))&&(g.dep.all (fun x=> !inL (g.pass.map (·.2)) x)&&(g.pass.all (fun y=> !Nat.beq (y.2 / 16) k&&(jG (y.1 / 16) ct.ar.length||kY VB (y.1 / 16)))&&(qg4 ct.ar.length k ct.rs).all fun y=>uB (y.2 / 16) k))) then
     (flC tbl ct g.xs g.pass).map fun fs=>(.ok n g.xs::fs,⟨q0a (z09 n g.xs args σ.t g.vars ct.rs.length (q9i Z L σ.t)) k (zka (z4q n g.xs g.dep k ct.rs 0)),q5k n g.xs g.dep g.vars ct.rs.length (qbp Z L σ.m)⟩)
    else none
   |none=>none
  |none=>none
 |none=>none
end Go.Proofs.Ytbmaffphliignaa
