/-
 Lemmas of the walk and plain laws, put together. No condition.
-/
import Derived.Test.YtdaadonfbnedaaaLa
namespace Go.Proofs.Ytdaadonfbnedaaa
open Go.RowKit
set_option linter.unusedVariables false
set_option linter.unusedSimpArgs false
set_option maxRecDepth 100000
open _root_.Go.Proofs.Try renaming prog→uA
open _root_.Nat renaming beq→uB,mul_le_mul_right→uC,add_mul→uN,zero_add→uO,add_sub_cancel_left→kJ,ble→kV,le_trans→vA,add_zero→vB,le_refl→vC,zero_mul→vJ,one_mul→vK,div_mul_le_self→vL,eq_zero_or_pos→vM,beq_eq→vN,mod_eq_of_lt→vS,mul_le_mul→vY,mul_comm→jA,blt→jB,mul_pos→jC,mod_lt→jD
open _root_.List renaming getElem?_append_right→uD,getElem?_take_of_lt→uE,getElem?_append_left→uG,mem_cons_of_mem→uK,mem_append_right→uM,size_toArray→uP,mem_append_left→uQ,eq_nil_of_length_eq_zero→uR,mem_cons_self→uV,map_cons→uW,getElem?_toArray→kA,getElem?_eq_none→kC,length_take→kE,mem_map→kF,getElem?_drop→kG,mem_filter→kH,all_eq_true→kK,replicate→kN,length_cons→kP,drop_eq_nil_of_le→kR,take_append_drop→kS,mem_cons→kW,length_append→kY,ext_getElem?→kZ,nil_append→vD,getElem_replicate→vH,append_assoc→vO,drop_append→vQ,mem_append→vT,take_left→vU,mem_range→vV,drop_zero→vW
open _root_.Option renaming bind_eq_some_iff→uF,isSome_iff_exists→kB,map_eq_some_iff→vF
open _root_.Array renaming getElem?_toList→uH,size_setIfInBounds→uT,length_toList→uY,getElem?_append_left→kI,size_append→kO,ext'→kQ,range→kT
open Builtin renaming zeroCells→uI,append_→uL,firstCells→kU,lenOf→vE,nextslicecap→vG
open Result renaming andThen_ok→uJ
open _root_.Bool renaming not_eq_true'→uU,or_eq_false_iff→uX,or_eq_true→kL,not_eq_false→vP,not_eq_true→vR,false_or→vZ
open Sem renaming run_bind→uZ,run_pure→kD,run→kM
open _root_.Option.some renaming injEq→kX
variable{d:D}{cs vs:List Value}{E T:TypeId}{c:Cx}{p:qj}{x y:AV}{dep path:List Nat}{m:Nat}{A:Nat→Prop}{Q:Exit→Act→World→Prop}
section
def qs(k:Nat):Nat→Bool:=fun x=>uB (x / 16) k
def q20(x:Nat):Nat→Bool:=fun y=>uB y x
def zs(l:List Nat)(x:Nat):Bool:=l.any fun y=>uB y x
def uni(l m:List Nat):List Nat:=l++m.filter fun y=> !zs l y
theorem yo{l:List Nat}{x:Nat}:zs l x=true↔x∈l:=by
 simp[zs]
theorem q44{l m:List Nat}{x:Nat}(h:x∈l):x∈uni l m:=uQ _ h
theorem qa1{l m:List Nat}{x:Nat}(h:x∈m):x∈uni l m:=by
 unfold uni;cases hl:zs l x with
 |true=>exact uQ _ (yo.1 hl)
 |false=>exact uM _ (kH.2 ⟨h,by simp[hl]⟩)
theorem ztr{l m:List Nat}{x:Nat}(h:x∈uni l m):x∈l∨x∈m:=by
 rcases vT.1 h with h|h
 ·exact .inl h
 ·exact .inr (kH.1 h).1
def q6e(t:Ty):AV→Option (X×List (Nat×Nat)×List Nat)
 |.v x t' own dep=>if Ty.beq t' t then some (x,own,dep) else none
 |.pt _ _ _ (.v x t' own dep)=>if Ty.beq t' t then some (x,own,dep) else none
 |.nilS=>match t with
  |.row E=>if(qm E).isSome then some (.lit (.r []),[],[]) else none
  |_=>none
 |_=>none
def z82(k:Nat)(path:List Nat)(t:Ty)(x:AV):Option (X×List (Nat×Nat)×List Nat):=match x,path,t with
 |.nilS,[],.row E=>if(qm E).isSome then some (.lit (.r []),[(0,k * 16+1)],[]) else none
 |.nilS,[j],.row E=>if(qm E).isSome then some (.lit (.r []),[(0,k * 16+1+j)],[]) else none
 |x,_,t=>q6e t x
def qfh(t:Ty):X:=.lit (q6c 8 t)
def rowsOf(k:Nat):List Ty→Nat→List (Nat×Nat)
 |[],_=>[]
 |.row _::l,j=>(j,k * 16+1+j)::rowsOf k l (j+1)
 |_::l,j=>rowsOf k l (j+1)
def qp(k:Nat)(t:Ty):List (Nat×Nat):=match t with
 |.row _=>[(0,k * 16+1)]
 |.map _ _=>[(0,k * 16+1)]
 |.st S=>match flds S with
  |some fs=>rowsOf k fs 0
  |none=>[]
 |_=>[]
def qhn(t:Ty):Bool:=match t with
 |.row E=>(match qm E with|some te=>zt 8 te|none=>false)
 |.st S=>(match flds S with
  |some fs=>fs.all fun u=>zt 8 u||(match u with|.row E=>(match qm E with|some te=>zt 8 te|none=>false)|_=>false)
  |none=>false)
 |_=>true
def qr6(t:Ty)(own:List (Nat×Nat)):Bool:=(qp 0 t).all fun e=>(lkA own e.1).isSome
def depC(t:Ty)(own:List (Nat×Nat))(l:List Nat):List Nat:=if zt 8 t||(qr6 t own&&qhn t) then[] else l
theorem qre{t:Ty}(h:(qbm t||qpx t)=true):qhn t=true∧∀k,qp k t=[(0,k * 16+1)]:=by
 cases t with
 |map K V=>exact⟨rfl,fun k=>rfl⟩
 |row E=>exact⟨h,fun k=>rfl⟩
 |_=>cases h
section
variable{A:Nat→Prop}{F:Flr}{p:qj}{w:World}{dep:List Nat}
theorem qy0:∀{fs:List Ty}{k n j:Nat}{E:TypeId},fs[j]? =some (.row E)→lkA (rowsOf k fs n) (n+j)=some (k * 16+1+(n+j))
 |[],k,n,j,E,h=>by simp at h
 |t::ts,k,n,0,E,h=>by
  simp at h;subst h;simp only[rowsOf,vB];exact qa
 |t::ts,k,n,j+1,E,h=>by
  have:=qy0 (k:=k) (n:=n+1) (j:=j) (fs:=ts) (E:=E) (by simpa using h);rw[show n+1+j=n+(j+1) by omega] at this;cases t<;>first|exact this|(simp only[rowsOf];rw[qd (by omega)];exact this)
theorem Con.flat1{t:Ty}{k:Nat}{own:List (Nat×Nat)}(hown:∀j,lkA (qp k t) j≠none→lkA own j≠none)(h:Con A p w d t own dep cs)(hf:qhn t=true):Con A p w d t own [] cs:=by
  cases t with
  | st S =>
    obtain⟨fs,ds,hfs,e,h⟩:=h;refine⟨fs,ds,hfs,e,?_⟩;simp only[qhn,hfs] at hf;have hrow:∀j E,fs[j]? =some (.row E)→lkA own j≠none:=fun j E hj=>hown j (by
      simp only[qp,hfs];have:=qy0 (k:=k) (n:=0) hj;rw[uO] at this;rw[this];simp)
    have key:∀{ds:List D}{n:Nat}{fs:List Ty}{cs:List Value},(fs.all fun u=>zt 8 u||(match u with|.row E=>(match qm E with|some te=>zt 8 te|none=>false)|_=>false))=true→(∀j E,fs[j]? =some (.row E)→lkA own (n+j)≠none)→Fls A p w dep own n ds fs cs→Fls A p w [] own n ds fs cs:=by
      intro ds
      induction ds with
      |nil=>intro n fs cs _ _ h;exact h
      | cons d ds ih =>
        rintro n fs cs hall hr⟨t,ts,c1,c2,rfl,rfl,h1,h2⟩;simp only[List.all_cons,gnB] at hall;refine⟨t,ts,c1,c2,rfl,rfl,h1.flat1 ?_,ih hall.2 (fun j E hj=>by have:=hr (j+1) E (by simpa using hj);rwa [show n+(j+1)=n+1+j by omega] at this) h2⟩;rcases Bool.or_eq_true_iff.1 hall.1 with h|h
        · exact .inl h
        · right;cases t with
          | row E =>
            simp only at h;split at h
            · rename_i te hte;exact⟨by have:=hr 0 E rfl;simpa using this,E,te,rfl,hte,h⟩
            · cases h
          |_=>cases h
    exact key hf (fun j E hj=>by rw[uO];exact hrow j E hj) h
  | row E =>
    simp only[qhn] at hf;split at hf
    · rename_i te hte;have h':Fl A p w dep (lkA own 0) d (.row E) cs:=h;exact h'.flat1 (.inr ⟨hown 0 (by simp[qp,lkA]),E,te,rfl,hte,hf⟩)
    · cases hf
  |int m=>exact h.flatT rfl
  |bool=>exact h.flatT rfl
  |str=>exact h.flatT rfl
  | map K V =>
    have h':Fl A p w dep (lkA own 0) d (.map K V) cs:=h
    show Fl A p w [] (lkA own 0) d (.map K V) cs
    cases ho:lkA own 0 with
    |none=>exact absurd ho (hown 0 (by simp[qp,lkA]))
    | some x =>
      rw[ho] at h';rcases h' with⟨E,te,l,v,e,-⟩|h'
      · cases e
      · exact .inr h'
theorem Con.depC{t:Ty}{own:List (Nat×Nat)}(h:Con A p w d t own dep cs):Con A p w d t own (depC t own dep) cs:=by
 unfold Proofs.Ytdaadonfbnedaaa.depC;split
 ·rename_i hok;cases hf:zt 8 t with
  |true=>exact h.flatT hf
  |false=>
   rw[hf] at hok;simp only[vZ,gnB] at hok;refine h.flat1 (k:=0) (fun j hj=>?_) hok.2;obtain⟨x,hx⟩:=Option.ne_none_iff_exists'.1 hj;have:=kK.1 hok.1 _ (qx hx);obtain⟨y,hy⟩:=kB.1 this;have hy':lkA own j=some y:=hy;rw[hy'];exact fun e=>by cases e
 ·exact h
end
def z6l(P:Program)(T:TypeId):Bool:=match P.info? T with
 |some i=>(match i.zero with
  |some .nilFunc=>true
  |some (.pointer none)=>true
  |some (.map none)=>true
  |_=>false)
 |none=>false
theorem zi7(h:z6l uA T=true)(w:World):∃v,(zeroValue T).run uA w=.ok v w∧v.cells= #[v]:=by
 unfold z6l at h;split at h
 ·rename_i i hi;split at h
  ·rename_i hz;exact⟨.nilFunc,by simp[zeroValue,typeInfo,hi,hz],rfl⟩
  ·rename_i hz;exact⟨.pointer none,by simp[zeroValue,typeInfo,hi,hz],rfl⟩
  ·rename_i hz;exact⟨.map none,by simp[zeroValue,typeInfo,hi,hz],rfl⟩
  ·cases h
 ·cases h
def zgi(P:Program)(T:TypeId):Option Nat:=match P.info? T with
 |some i=>(match i.zero with
  |some (.agg zc)=>if uB zc.size i.size then some i.size else none
  |_=>none)
 |none=>none
theorem zjc{n:Nat}(h:zgi uA T=some n)(w:World):∃zc,(zeroValue T).run uA w=.ok (.agg zc) w∧zc.size=n∧∃i,uA.info? T=some i∧i.size=n:=by
 unfold zgi at h;split at h
 ·rename_i i hi;split at h
  ·rename_i zc hz;split at h
   ·rename_i hs;injection h with h;subst h;exact⟨zc,by simp[zeroValue,typeInfo,hi,hz],gnN hs,i,hi,rfl⟩
   ·cases h
  ·cases h
 ·cases h
def z3b(P:Program)(σ:St)(k:Nat)(T:TypeId):Option St:=match qm T with
 |some t=>if qbm t then(if z6l P T then some ⟨q08 (σ.un (qs k)).t k (.bx k T .any),(σ.un (qs k)).m⟩ else none) else some ⟨q08 (σ.un (qs k)).t k (.ref k [] 0 t),q08 (σ.un (qs k)).m k ⟨qfh t,t,qp k t,[]⟩⟩
 |none=>if z6l P T then some ⟨q08 (σ.un (qs k)).t k (.bx k T .any),(σ.un (qs k)).m⟩ else match zgi P T with
  |some n=>some ⟨q08 (σ.un (qs k)).t k (.ax k T n .any),(σ.un (qs k)).m⟩
  |none=>none
def ze4:AV→Bool
 |.ref _ _ _ _=>true
 |.rd _ _ _ _=>true
 |.nilP=>true
 |.fn _ _=>true
 |.bx _ _ _=>true
 |.sn _ a=>ze4 a
 |_=>false
theorem qnh{w:World}:∀(y:AV){v:Value},ze4 y=true→y.pd c p w v→v.cells= #[v]∧v.oneCell'=true
 |.ref _ _ _ _,v,_,hy=>by obtain⟨g,-,rfl,-⟩:=hy;exact⟨rfl,rfl⟩
 |.rd _ _ _ _,v,_,hy=>by obtain⟨b,o,cs,rfl,-⟩:=hy;exact⟨rfl,rfl⟩
 |.nilP,v,_,hy=>by obtain rfl:v=.pointer none:=hy;exact⟨rfl,rfl⟩
 |.fn _ _,v,_,hy=>by obtain⟨vs,rfl,-⟩:=hy;exact⟨rfl,rfl⟩
 |.bx _ _ _,v,_,hy=>by obtain⟨g,u,-,rfl,-⟩:=hy;exact⟨rfl,rfl⟩
 |.sn _ a,v,h,hy=>qnh a h hy.2
 |.any,_,h,_=>by cases h
 |.undef,_,h,_=>by cases h
 |.v _ _ _ _,_,h,_=>by cases h
 |.nilS,_,h,_=>by cases h
 |.tup _,_,h,_=>by cases h
 |.gd _ _,_,h,_=>by cases h
 |.nb _ _,_,h,_=>by cases h
 |.fr _ _,_,h,_=>by cases h
 |.ff _ _ _ _ _ _ _ _,_,h,_=>by cases h
 |.pt _ _ _ _,_,h,_=>by cases h
 |.ar _ _ _,_,h,_=>by cases h
 |.lv _ _,_,h,_=>by cases h
 |.ax _ _ _ _,_,h,_=>by cases h
theorem quv{w:World}{v:Value}(h:ze4 y=true)(hy:y.pd c p w v):v.cells= #[v]:=(qnh y h hy).1
theorem zgl{w:World}{v:Value}(h:ze4 y=true)(hy:y.pd c p w v):v.oneCell'=true:=(qnh y h hy).2
def zt6(σ:St)(cs:List (X×Bool))(y:Operand):Option AV:=match y with
 |.tmp t=>(match lkA σ.t t with
  |some (.sn q a)=>some (.sn q a)
  |_=>opd σ cs y)
 |_=>opd σ cs y
theorem znz{w:World}{a:Act}{σ:St}{cs:List (X×Bool)}(hf:SF c σ p w a)(hc:hold c.v cs=true){y:Operand}(h:zt6 σ cs y=some x):x.pd c p w (a.eval y):=by
 unfold zt6 at h;split at h
 ·rename_i t;split at h
  ·rename_i q b hq;injection h with h;subst h;obtain⟨v,h1,h2⟩:=hf.t t _ hq;have:a.eval (.tmp t)=v:=by
    show a.tmps.getD t undef=v
    rw[Array.getD_eq_getD_getElem?,h1];rfl
   rw[this];exact h2
  ·exact qo hf hc h
 ·exact qo hf hc h
def zhh(σ:St)(cs:List (X×Bool))(k:Nat)(T:TypeId)(y:Operand):Option St:=match qm T with
 |some t=>match(opd (σ.un (qs k)) cs y).bind (q6e t) with
  |some (x,own,dep)=>some ⟨q08 (σ.un (qs k)).t k (.ref k [] 0 t),q08 (σ.un (qs k)).m k ⟨x,t,own,dep⟩⟩
  |none=>none
 |none=>match zt6 (σ.un (qs k)) cs y with
  |some a=>if ze4 a then some ⟨q08 (σ.un (qs k)).t k (.bx k T a),(σ.un (qs k)).m⟩ else none
  |none=>none
def z66(t:Ty)(path:List Nat):Bool:=match t,path with
  | .st S, [j] => (match flds S with
    | some fs => (List.range fs.length).all fun i => uB i j || (match fs[i]? with
      |some t=>zt 8 t
      |none=>true)
    |none=>false)
  |_,_=>false
def qgi(σ:St)(k:Nat)(path:List Nat)(o:Nat)(t:Ty)(xv:X)(ownv:List (Nat×Nat))(depv:List Nat):Option St:=match lkA σ.m k with
 |some e=>match q53 e.x e.t e.own path,qgc e.x e.t e.own xv ownv path with
  | some (_, t', _, o'), some (x', own') => if Ty.beq t' t && (uB o' o && !zs (own'.map (·.2) ++ uni e.dep depv) (k * 16)) then
    some ⟨q9w (q20 (k * 16)) no σ.t,q08 (q9x (q20 (k * 16)) no σ.m) k ⟨x',e.t,own',depC e.t own' (if z66 e.t path then depv else uni e.dep depv)⟩⟩ else none
  |_,_=>none
 |none=>none
def qtm(σ:St)(k:Nat)(path:List Nat)(o:Nat)(t:Ty)(xv:X)(ownv:List (Nat×Nat))(depv:List Nat):Option St:=qgi σ k path o t xv ownv (depC t ownv depv)
def zg0(i:X)(te:Ty)(path:List Nat)(xv xr:X):Option X:=match qgc (.get xr i) te [] xv [] path with
 |some (xe,[])=>some (.put xr i xe)
 |_=>none
def rowIs(E:TypeId)(te:Ty):Bool:=match qm E with
 |some t=>Ty.beq t te
 |none=>false
def qng(pin:Nat)(i:X)(te:Ty)(path:List Nat)(xv:X)(depv:List Nat)(x:X)(t:Ty)(own:List (Nat×Nat))(dep:List Nat):Option (X×List Nat):=
 if zs dep pin|| !q5u own then none else match own.filter fun e=>uB e.2 pin with
  |[]=>some (x,dep)
  | [(j, _)] => match t with
   |.row E=>if rowIs E te&&uB j 0 then(zg0 i te path xv x).map fun x'=>(x',uni dep depv) else none
   | .st S => match flds S with
    |some fs=>match fs[j]? with
     |some (.row E)=>if rowIs E te then(zg0 i te path xv (.fld x j)).map fun x'=>(.set x j x',uni dep depv) else none
     |_=>none
    |none=>none
   |_=>none
  |_=>none
def zj2(pin:Nat)(i:X)(te:Ty)(path:List Nat)(xv:X)(depv:List Nat):AV→AV
 |.v x t own dep=>match qng pin i te path xv depv x t own dep with
  |some (x',dep')=>.v x' t own dep'
  |none=>.any
 |.sn q (.v x t own dep)=>match qng pin i te path xv depv x t own dep with
  |some (x',dep')=>.sn q (.v x' t own dep')
  |none=>.any
 |a=>if okA (q20 pin) no a then a else .any
def z97(pin:Nat)(i:X)(te:Ty)(path:List Nat)(xv:X)(depv:List Nat):List (Nat×Ent)→List (Nat×Ent)
  |[]=>[]
  | (k, e) :: l => match qng pin i te path xv depv e.x e.t e.own e.dep with
    |some (x',dep')=>if uB (k * 16) pin then(z97 pin i te path xv depv l).filter (fun y=>y.1 !=k) else(k,⟨x',e.t,e.own,dep'⟩)::z97 pin i te path xv depv l
    |none=>(z97 pin i te path xv depv l).filter fun y=>y.1 !=k
def qo6(σ:St)(pin:Nat)(i:X)(path:List Nat)(q:Nat)(te t:Ty)(xv:X)(ownv:List (Nat×Nat))(depv:List Nat):Option St:=
 match q53 (.lit .u) te [] path with
 |some (_,t',_,q')=>if Ty.beq t' t&&(uB q' q&&(ownv.isEmpty&& !zs depv pin)) then some ⟨σ.t.map fun e=>(e.1,zj2 pin i te path xv depv e.2),z97 pin i te path xv depv σ.m⟩ else none
 |none=>none
mutual
/-- A value that holds a pointer to the variable k itself: known by its number alone. -/
def keyed(k:Nat):AV→AV
 |.bx k' T a=>if uB k' k then .ref k [] 0 (.int .i64) else .bx k' T a
 |.fn f l=>.fn f (keyeds k l)
 |a=>a
def keyeds(k:Nat):List AV→List AV
 |[]=>[]
 |a::l=>keyed k a::keyeds k l
end
mutual
theorem z4e{w:World}{k:Nat}:∀(a:AV){v:Value},a.pd c p w v→(keyed k a).pd c p w v
 | .bx k' T a, v, h => by
  unfold keyed;split
  ·rename_i hk;have hk:=gnN hk;subst hk;obtain⟨g,u,⟨hg,hat⟩,e,-⟩:=h;exact⟨g,hg,e,hat⟩
  ·exact h
 |.fn f l,v,⟨vs,e,h⟩=>⟨vs,e,qyu l h⟩
 |.any,v,h=>h
 |.undef,v,h=>h
 |.v _ _ _ _,v,h=>h
 |.nilS,v,h=>h
 |.nilP,v,h=>h
 |.ref _ _ _ _,v,h=>h
 |.rd _ _ _ _,v,h=>h
 |.tup _,v,h=>h
 |.gd _ _,v,h=>h
 |.nb _ _,v,h=>h
 |.fr _ _,v,h=>h
 |.ff _ _ _ _ _ _ _ _,v,h=>h
 |.sn _ _,v,h=>h
 |.pt _ _ _ _,v,h=>h
 |.ar _ _ _,v,h=>h
 |.lv _ _,v,h=>h
 |.ax _ _ _ _,v,h=>h
theorem qyu{w:World}{k:Nat}:∀(l:List AV){vs:List Value},pds c p w l vs→pds c p w (keyeds k l) vs
 |[],vs,h=>h
 |a::l,vs,⟨v,r,e,h1,h2⟩=>⟨v,r,e,z4e a h1,qyu l h2⟩
end
def zpa(P:Program)(T:TypeId):Bool:=match P.info? T with
 |some i=>uB i.size 1
 |none=>false
def qnc(P:Program)(σ:St)(k:Nat)(T:TypeId)(x:AV):Option St:=
 if ze4 x&&(zpa P T&&okA (q20 (k * 16)) no (keyed k x)) then(match lkA σ.t k with
  |some (.bx k' T' _)=>if uB k' k&&uB T' T then some ⟨q08 (q9w (q20 (k * 16)) no σ.t) k (.bx k T (keyed k x)),q9x (q20 (k * 16)) no σ.m⟩ else none
  |_=>none) else none
def qmq(σ:St)(k:Nat)(T:TypeId)(t:Ty)(x:AV):Option St:=match lkA σ.t k,q6e t x with
 |some (.bx k' T' _),some (xv,own,dep)=>if uB k' k&&(uB T' T&& !zs (own.map (·.2)++dep) (k * 16)) then some ⟨q08 (q9w (q20 (k * 16)) no σ.t) k (.ref k [] 0 t),q08 (q9x (q20 (k * 16)) no σ.m) k ⟨xv,t,own,dep⟩⟩ else none
 |_,_=>none
def unlv(k:Nat)(t:Ty):AV→AV
 |.lv k' t'=>if uB k' k then .ref k [] 0 t else .lv k' t'
 |a=>a
def qnd(σ:St)(k:Nat)(t:Ty)(xv:X)(own:List (Nat×Nat))(dep:List Nat):Option St:=if nvB t then none else
 if zs (own.map (·.2)++dep) (k * 16) then none else some ⟨q9w (q20 (k * 16)) no (σ.t.map fun e=>(e.1,unlv k t e.2)),q08 (q9x (q20 (k * 16)) no σ.m) k ⟨xv,t,own,dep⟩⟩
def qn5(P:Program)(σ:St)(k:Nat)(T:TypeId)(n:Nat)(E:TypeId)(xs:List X)(dep:List Nat):Option St:=
 match P.info? T,qm E,lkA σ.t k with
 | some i, some te, some (.ax k' T' n' _) => if uB i.size n && (uB (xs.length * te.w) n && (uB k' k && (uB T' T && (uB n' n && (!zs dep (k * 16) && (qm T).isNone))))) then
   some ⟨q08 (q9w (q20 (k * 16)) no σ.t) k (.ax k T n (.ar E xs dep)),q9x (q20 (k * 16)) no σ.m⟩ else none
 |_,_,_=>none
def z0m(P:Program)(σ:St)(cs:List (X×Bool))(T:TypeId)(y z:Operand):Option St:=match opd σ cs y with
 |some (.ref k path o t)=>if qia T t then(match(opd σ cs z).bind (z82 k path t) with
  |some (xv,ownv,depv)=>qtm σ k path o t xv ownv depv
  |none=>none) else none
 |some (.rd _ t dep (some (pin,i,path,q,te)))=>if qia T t then(match(opd σ cs z).bind (q6e t) with
  |some (xv,ownv,depv)=>qo6 σ pin i path q te t xv ownv depv
  |none=>none) else none
 |some (.lv k t)=>if qia T t then(match(opd σ cs z).bind (q6e t) with
  |some (xv,own,dep)=>qnd σ k t xv own dep
  |none=>none) else none
 | some (.bx k T' _) => if uB T' T then (match opd σ cs z with
  |some x=>(match qm T with
   |some (.map K V)=>qmq σ k T (.map K V) x
   |_=>qnc P σ k T' x)
  |none=>none) else none
 |some (.ax k T' n _)=>if uB T' T then(match opd σ cs z with
  |some (.ar E xs dep)=>qn5 P σ k T' n E xs dep
  |_=>none) else none
 |_=>none
section
variable{c:Cx}{p:qj}{w w0:World}{S0:Nat→Prop}{a:Act}{σ σ':St}{cs:List (X×Bool)}{o:Oper}{d:List Deferred}{z:Nat}
def q0f(c:Cx)(w0:World)(S0:Nat→Prop)(d:List Deferred)(z:Nat)(σ':St)(a':Act)(w':World):Prop:=∃p',Bs c.A c.F w0 S0 p' w'∧SF c σ' p' w' a'∧a'.defers=d∧a'.tmps.size=z
theorem q2u{t:Ty}{x:X}{own:List (Nat×Nat)}{v:Value}(h:q6e t y=some (x,own,dep))(hy:y.pd c p w v):∃vs,jj t vs v∧Con c.A p w (x.ev c.v) t own dep vs:=by
 unfold q6e at h;split at h
 ·split at h
  ·rename_i ht;rw[Ty.beq_iff] at ht;subst ht;simp only[gnS] at h;obtain⟨rfl,rfl,rfl⟩:=h;exact hy
  ·cases h
 ·split at h
  ·rename_i ht;rw[Ty.beq_iff] at ht;subst ht;simp only[gnS] at h;obtain⟨rfl,rfl,rfl⟩:=h;exact hy.2
  ·cases h
 ·split at h
  ·split at h
   ·rename_i E hE;obtain⟨te,hte⟩:=kB.1 hE;simp only[gnS] at h;obtain⟨rfl,rfl,rfl⟩:=h;obtain rfl:v=.slice none 0 0:=hy;exact⟨[_],rfl,E,te,none,0,rfl,hte,rfl,by simp,by simp,by simp[maxLen],by simp[RdE]⟩
   ·cases h
  ·cases h
 ·cases h
theorem ze6{k:Nat}{t:Ty}{x:X}{own:List (Nat×Nat)}{v:Value}(h:z82 k path t y=some (x,own,dep))(hy:y.pd c p w v):∃vs,jj t vs v∧Con c.A p w (x.ev c.v) t own dep vs:=by
 unfold z82 at h;split at h
 ·split at h
  ·rename_i E hE;obtain⟨te,hte⟩:=kB.1 hE;simp only[gnS] at h;obtain⟨rfl,rfl,rfl⟩:=h;obtain rfl:v=.slice none 0 0:=hy;exact⟨[_],rfl,.inl ⟨E,te,[],_,rfl,hte,rfl,rfl,.inl ⟨rfl,rfl⟩⟩⟩
  ·cases h
 ·split at h
  ·rename_i E hE;obtain⟨te,hte⟩:=kB.1 hE;simp only[gnS] at h;obtain⟨rfl,rfl,rfl⟩:=h;obtain rfl:v=.slice none 0 0:=hy;exact⟨[_],rfl,.inl ⟨E,te,[],_,rfl,hte,rfl,rfl,.inl ⟨rfl,rfl⟩⟩⟩
  ·cases h
 ·exact q2u h hy
theorem qwa:∀{fs:List Ty}{k n j q:Nat},lkA (rowsOf k fs n) (n+j)=some q→∃E,fs[j]? =some (.row E)
 |[],k,n,j,q,h=>by cases h
 | t :: ts, k, n, 0, q, h => by
  have lt:∀{fs:List Ty}{n m q:Nat},lkA (rowsOf k fs n) m=some q→n≤m:=by
   intro fs
   induction fs with
   |nil=>intro n m q h;cases h
   | cons t ts ih =>
    intro n m q h;cases t with
    | row E =>
     simp only[rowsOf] at h;by_cases hm:n=m
     ·omega
     ·rw[qd hm] at h;have:=ih h;omega
    |_=>have:=ih (n:=n+1) h;omega
  cases t with
  |row E=>exact⟨E,rfl⟩
  |_=>have:=lt (n:=n+1) h;omega
 | t :: ts, k, n, j + 1, q, h => by
  have:lkA (rowsOf k ts (n+1)) (n+1+j)=some q:=by
   rw[show n+1+j=n+(j+1) by omega];cases t with
   |row E=>
    simp only[rowsOf] at h;rw[qd (by omega)] at h;exact h
   |_=>exact h
  obtain⟨E,hE⟩:=qwa this;exact⟨E,by simpa using hE⟩
theorem zdd{cs r:List Value}{d:D}(h:q4c m (.row E) cs=some (d,r)):(qm E).isSome=true∧d=.r []∧cs=.slice none 0 0::r:=by
 cases m with
 |zero=>simp[q4c] at h
 | succ m =>
  cases cs with
  |nil=>simp[q4c] at h
  | cons v cs =>
   cases v with
   | slice a l c =>
    cases a with
    |some a=>simp[q4c] at h
    | none =>
     cases l with
     |succ l=>simp[q4c] at h
     | zero =>
      cases c with
      |succ c=>simp[q4c] at h
      | zero =>
       simp only[q4c] at h;split at h
       ·rename_i hs;simp only[gnS] at h;exact⟨hs,h.1.symm,by rw[h.2]⟩
       ·cases h
   |_=>simp[q4c] at h
theorem qzc(w:World){own:List (Nat×Nat)}:∀{fs:List Ty}{j:Nat}{cs r:List Value}{l:List D},qbn (q4c m) fs cs=some (l,r)→(∀i q,lkA own (j+i)=some q→∃E,fs[i]? =some (.row E))→∃c1,cs=c1++r∧Fls A p w [] own j l fs c1
 |[],j,cs,r,l,h,ho=>by
  simp only[qbn,gnS] at h;obtain⟨rfl,rfl⟩:=h;exact⟨[],rfl,rfl,rfl⟩
 | t :: ts, j, cs, r, l, h, ho => by
  unfold qbn at h;split at h
  ·rename_i d cs' hd;split at h
   ·rename_i l' r' hl;simp only[gnS] at h;obtain⟨rfl,rfl⟩:=h;obtain⟨c2,e2,h2⟩:=qzc w (j:=j+1) hl fun i q hq=>by
     obtain⟨E,hE⟩:=ho (i+1) q (by rw[show j+(i+1)=j+1+i by omega];exact hq);exact⟨E,by simpa using hE⟩
    have h1:∃c1,cs=c1++cs'∧Fl A p w [] (lkA own j) d t c1:=by
     cases hj:lkA own j with
     |none=>exact z65 w (FFD A p []) m hd
     |some pin=>
      obtain⟨E,hE⟩:=ho 0 pin hj;simp at hE;subst hE;obtain⟨hs,rfl,rfl⟩:=zdd hd;obtain⟨te,hte⟩:=kB.1 hs;exact⟨[.slice none 0 0],rfl,.inl ⟨E,te,[],_,rfl,hte,rfl,rfl,.inl ⟨rfl,rfl⟩⟩⟩
    obtain⟨c1,e1,h1⟩:=h1;exact⟨c1++c2,by rw[e1,e2];simp,t,ts,c1,c2,rfl,rfl,h1,h2⟩
   ·cases h
  ·cases h
theorem z6w{t:Ty}(h:qm T=some t)(hm:qbm t=false)(w:World)(A:Nat→Prop)(p:qj)(k:Nat):∃v vs,(zeroValue T).run uA w=.ok v w∧jj t vs v∧Con A p w (q6c 8 t) t (qp k t) [] vs∧v.cells=vs.toArray:=by
 obtain⟨v,vs,h1,h2,h3,-,h4⟩:=qh6 h w (FFD A p []);have h3:=h3 hm;cases t with
 |map K V=>cases hm
 |row E=>
  obtain⟨-,⟨te,hte⟩,i,hi,-,hz⟩:=q23 h;exact⟨.slice none 0 0,[.slice none 0 0],by simp[zeroValue,typeInfo,hi,hz],rfl,.inl ⟨E,te,[],_,rfl,hte,rfl,rfl,.inl ⟨rfl,rfl⟩⟩,rfl⟩
 | st S =>
  obtain⟨fields,fs,zc,i,hu,hf,hfb,hi,hs,hz,hpz,-⟩:=q5z h;unfold q4c at hpz;simp only[hf] at hpz;split at hpz
  ·rename_i l r hl;simp only[gnS] at hpz;obtain⟨hd,rfl⟩:=hpz;obtain⟨c1,e1,hcon⟩:=qzc (A:=A) (p:=p) w (own:=qp k (.st S)) (j:=0) hl fun i q hq=>by
    have:lkA (rowsOf k fs 0) (0+i)=some q:=by simpa[qp,hf] using hq
    exact qwa this
   have e2:c1=zc.toList:=by simpa using e1.symm
   subst e2;exact⟨.agg zc,zc.toList,by simp[zeroValue,typeInfo,hi,hz],by simp[jj],⟨fs,l,hf,hd.symm,hcon⟩,by simp[Value.cells]⟩
  ·cases hpz
 |int k'=>exact⟨v,vs,h1,h2,Con.of_rd h3,h4⟩
 |bool=>exact⟨v,vs,h1,h2,Con.of_rd h3,h4⟩
 |str=>exact⟨v,vs,h1,h2,Con.of_rd h3,h4⟩
theorem zb3(hb:Bs c.A c.F w0 S0 p w)(hf:SF c σ p w a)(hd:a.defers=d)(hz:a.tmps.size=z){k:Nat}(hk:k<z)(hlo:c.lo≤k∧k<VB){t:Ty}{x:X}{own:List (Nat×Nat)}
  (hT:qm T=some t)(hc:Con c.A (unP (qs k) p) w (x.ev c.v) t own dep vs):q0f c w0 S0 d z ⟨q08 (σ.un (qs k)).t k (.ref k [] 0 t),q08 (σ.un (qs k)).m k ⟨x,t,own,dep⟩⟩ (a.put (some k) (.pointer (some ⟨w.heap.size,0,none⟩))) (w.alloc (.cells vs.toArray T)):=by
 have hb1:=hb.un (qs k);have hf1:=SF.un (q:=qs k) hb.inj hb.pa hf;have hkq:qs k (k * 16)=true:=by simp[qs]
 have hpx:unP (qs k) p (k * 16)=none:=by unfold unP;rw[if_pos hkq]
 have hst:=q7v (A:=c.A) hpx hb1.bd (.cells vs.toArray T);refine⟨qft (unP (qs k) p) (k * 16) w.heap.size,qfi hb1 _ _,?_,hd,by simp only[Act.put,uT];exact hz⟩;have hkeep:SF c (σ.un (qs k)) (qft (unP (qs k) p) (k * 16) w.heap.size) (w.alloc (.cells vs.toArray T)) a:=by
  refine⟨fun t' y hy=>?_,fun k' e he=>?_⟩
  ·obtain⟨v,h1,h2⟩:=hf1.t t' y hy;exact⟨v,h1,AV.kept hst y v (fun _ _=>⟨rfl,rfl⟩) (fun _ _=>rfl) h2⟩
  ·exact(hf1.m k' e he).kept hst (fun _ _=>⟨rfl,rfl⟩) ⟨rfl,rfl⟩
 have h2:=(hkeep.var (k:=k) (e:=⟨x,t,own,dep⟩) ⟨w.heap.size,vs.toArray,T,q1u,q0h rfl,hT,by simpa using hc.kept hst (fun _ _=>⟨rfl,rfl⟩) (fun _ _=>⟨rfl,rfl⟩)⟩);exact h2.put (t:=k) (by rw[hz];exact hk) ⟨w.heap.size,q1u,rfl,c.new k _ hlo.1 hlo.2⟩
theorem zs7(hb:Bs c.A c.F w0 S0 p w)(hf:SF c σ p w a)(hd:a.defers=d)(hz:a.tmps.size=z){k:Nat}(hk:k<z)(hlo:c.lo≤k∧k<VB){v:Value}(hx:x.pd c (unP (qs k) p) w v):
  q0f c w0 S0 d z ⟨q08 (σ.un (qs k)).t k (.bx k T x),(σ.un (qs k)).m⟩ (a.put (some k) (.pointer (some ⟨w.heap.size,0,none⟩))) (w.alloc (.cells #[v] T)):=by
 have hb1:=hb.un (qs k);have hf1:=SF.un (q:=qs k) hb.inj hb.pa hf;have hkq:qs k (k * 16)=true:=by simp[qs]
 have hpx:unP (qs k) p (k * 16)=none:=by unfold unP;rw[if_pos hkq]
 have hst:=q7v (A:=c.A) hpx hb1.bd (.cells #[v] T);refine⟨qft (unP (qs k) p) (k * 16) w.heap.size,qfi hb1 _ _,?_,hd,by simp only[Act.put,uT];exact hz⟩;have hkeep:SF c (σ.un (qs k)) (qft (unP (qs k) p) (k * 16) w.heap.size) (w.alloc (.cells #[v] T)) a:=by
  refine⟨fun t' y hy=>?_,fun k' e he=>?_⟩
  ·obtain⟨v,h1,h2⟩:=hf1.t t' y hy;exact⟨v,h1,AV.kept hst y v (fun _ _=>⟨rfl,rfl⟩) (fun _ _=>rfl) h2⟩
  ·exact(hf1.m k' e he).kept hst (fun _ _=>⟨rfl,rfl⟩) ⟨rfl,rfl⟩
 exact hkeep.put (t:=k) (by rw[hz];exact hk) ⟨w.heap.size,v,⟨q1u,c.new k _ hlo.1 hlo.2⟩,rfl,q0h rfl,AV.kept hst x _ (fun _ _=>⟨rfl,rfl⟩) (fun _ _=>rfl) hx⟩
theorem ztc(hb:Bs c.A c.F w0 S0 p w)(hf:SF c σ p w a)(hd:a.defers=d)(hz:a.tmps.size=z){k:Nat}(hk:k<z)(hlo:c.lo≤k∧k<VB)(cs:Array Value):
  q0f c w0 S0 d z ⟨q08 (σ.un (qs k)).t k (.ax k T cs.size .any),(σ.un (qs k)).m⟩ (a.put (some k) (.pointer (some ⟨w.heap.size,0,none⟩))) (w.alloc (.cells cs T)):=by
 have hb1:=hb.un (qs k);have hf1:=SF.un (q:=qs k) hb.inj hb.pa hf;have hkq:qs k (k * 16)=true:=by simp[qs]
 have hpx:unP (qs k) p (k * 16)=none:=by unfold unP;rw[if_pos hkq]
 have hst:=q7v (A:=c.A) hpx hb1.bd (.cells cs T);refine⟨qft (unP (qs k) p) (k * 16) w.heap.size,qfi hb1 _ _,?_,hd,by simp only[Act.put,uT];exact hz⟩;have hkeep:SF c (σ.un (qs k)) (qft (unP (qs k) p) (k * 16) w.heap.size) (w.alloc (.cells cs T)) a:=by
  refine⟨fun t' y hy=>?_,fun k' e he=>?_⟩
  ·obtain⟨v,h1,h2⟩:=hf1.t t' y hy;exact⟨v,h1,AV.kept hst y v (fun _ _=>⟨rfl,rfl⟩) (fun _ _=>rfl) h2⟩
  ·exact(hf1.m k' e he).kept hst (fun _ _=>⟨rfl,rfl⟩) ⟨rfl,rfl⟩
 exact hkeep.put (t:=k) (by rw[hz];exact hk) ⟨w.heap.size,cs,⟨q1u,c.new k _ hlo.1 hlo.2⟩,rfl,q0h rfl,rfl,trivial⟩
theorem zf5(hb:Bs c.A c.F w0 S0 p w)(hf:SF c σ p w a)(hd:a.defers=d)(hz:a.tmps.size=z){k:Nat}(hk:k<z)(hlo:c.lo≤k∧k<VB)(hdst:o.dst=some k)(heq:o.op=.alloc T)(h:z3b uA σ k T=some σ'):
  o.wp uA a w (q0f c w0 S0 d z σ') Q:=by
 have one:z6l uA T=true→∀σ'',some σ''=some σ'→σ''=⟨q08 (σ.un (qs k)).t k (.bx k T .any),(σ.un (qs k)).m⟩→o.wp uA a w (q0f c w0 S0 d z σ') Q:=fun hz1 σ'' h e=>by
  injection h with h;subst h;subst e;obtain⟨v,hzv,hcells⟩:=zi7 hz1 w;have hrun:(execOp a.eval o).run uA w=.ok (.value (.pointer (some ⟨w.heap.size,0,none⟩))) (w.alloc (.cells #[v] T)):=by
   simp[execOp,heq,Instr.alloc,hzv,newVar,newRow,newObj,hcells,kM]
  unfold Oper.wp;rw[hrun]
  show q0f c w0 S0 d z _ (a.put o.dst _) _
  rw[hdst];exact zs7 hb hf hd hz hk hlo (x:=.any) trivial
 unfold z3b at h;split at h
 ·rename_i t hT;cases hm:qbm t with
  | true =>
   rw[hm] at h;simp only[if_true] at h;split at h
   ·rename_i hz1;exact one hz1 _ h rfl
   ·cases h
  |false=>
  rw[hm] at h;simp only[gnF,if_false] at h;injection h with h;subst h;obtain⟨v,vs,hzv,hp,hrd,hcells⟩:=z6w hT hm w c.A (unP (qs k) p) k;have hrun:(execOp a.eval o).run uA w=.ok (.value (.pointer (some ⟨w.heap.size,0,none⟩))) (w.alloc (.cells vs.toArray T)):=by
   simp[execOp,heq,Instr.alloc,hzv,newVar,newRow,newObj,hcells,kM]
  unfold Oper.wp;rw[hrun]
  show q0f c w0 S0 d z _ (a.put o.dst _) _
  rw[hdst];exact zb3 hb hf hd hz hk hlo (by assumption) hrd
 ·split at h
  ·rename_i hz1;exact one hz1 _ h rfl
  ·split at h
   ·rename_i n hn;injection h with h;subst h;obtain⟨zc,hzv,rfl,-⟩:=zjc hn w;have hrun:(execOp a.eval o).run uA w=.ok (.value (.pointer (some ⟨w.heap.size,0,none⟩))) (w.alloc (.cells zc T)):=by
     simp[execOp,heq,Instr.alloc,hzv,newVar,newRow,newObj,Value.cells,kM]
    unfold Oper.wp;rw[hrun]
    show q0f c w0 S0 d z _ (a.put o.dst _) _
    rw[hdst];exact ztc hb hf hd hz hk hlo zc
   ·cases h
theorem zqj(hb:Bs c.A c.F w0 S0 p w)(hf:SF c σ p w a)(hc:hold c.v cs=true)(hd:a.defers=d)(hz:a.tmps.size=z){k:Nat}(hk:k<z)(hlo:c.lo≤k∧k<VB)(hdst:o.dst=some k){y:Operand}(heq:o.op=.box T y)(h:zhh σ cs k T y=some σ'):
  o.wp uA a w (q0f c w0 S0 d z σ') Q:=by
 unfold zhh at h;split at h
 ·rename_i t hT;split at h
  ·rename_i x own dep hy;injection h with h;subst h;obtain⟨y',hy1,hy2⟩:=uF.1 hy;have hf1:=SF.un (q:=qs k) hb.inj hb.pa hf;obtain⟨vs,hp,hcon⟩:=q2u hy2 (qo hf1 hc hy1);have hcells:=hp.cells hcon.len.2;have hrun:(execOp a.eval o).run uA w=.ok (.value (.pointer (some ⟨w.heap.size,0,none⟩))) (w.alloc (.cells vs.toArray T)):=by
    generalize a.eval=r at *;simp[execOp,heq,Instr.box,newVar,newRow,newObj,hcells,kM]
   unfold Oper.wp;rw[hrun]
   show q0f c w0 S0 d z _ (a.put o.dst _) _
   rw[hdst];exact zb3 hb hf hd hz hk hlo (by assumption) hcon
  ·cases h
 ·split at h
  ·rename_i y' hy;split at h
   ·rename_i hpv;injection h with h;subst h;have hb1:=hb.un (qs k);have hf1:=SF.un (q:=qs k) hb.inj hb.pa hf;have hy1:=znz hf1 hc hy;have hcells:=quv hpv hy1;have hrun:(execOp a.eval o).run uA w=.ok (.value (.pointer (some ⟨w.heap.size,0,none⟩))) (w.alloc (.cells #[a.eval y] T)):=by
     generalize a.eval=r at *;simp[execOp,heq,Instr.box,newVar,newRow,newObj,hcells,kM]
    unfold Oper.wp;rw[hrun]
    show q0f c w0 S0 d z _ (a.put o.dst _) _
    rw[hdst];have hkq:qs k (k * 16)=true:=by simp[qs]
    have hpx:unP (qs k) p (k * 16)=none:=by unfold unP;rw[if_pos hkq]
    have hst:=q7v (A:=c.A) hpx hb1.bd (.cells #[a.eval y] T);refine⟨qft (unP (qs k) p) (k * 16) w.heap.size,qfi hb1 _ _,?_,hd,by simp only[Act.put,uT];exact hz⟩;have hkeep:SF c (σ.un (qs k)) (qft (unP (qs k) p) (k * 16) w.heap.size) (w.alloc (.cells #[a.eval y] T)) a:=by
     refine⟨fun t' y hy=>?_,fun k' e he=>?_⟩
     ·obtain⟨v,h1,h2⟩:=hf1.t t' y hy;exact⟨v,h1,AV.kept hst y v (fun _ _=>⟨rfl,rfl⟩) (fun _ _=>rfl) h2⟩
     ·exact(hf1.m k' e he).kept hst (fun _ _=>⟨rfl,rfl⟩) ⟨rfl,rfl⟩
    exact hkeep.put (t:=k) (by rw[hz];exact hk) ⟨w.heap.size,a.eval y,⟨q1u,c.new k _ hlo.1 hlo.2⟩,rfl,q0h rfl,AV.kept hst y' _ (fun _ _=>⟨rfl,rfl⟩) (fun _ _=>rfl) hy1⟩
   ·cases h
  ·cases h
end
end
variable{i xv:X}{ownv:List (Nat×Nat)}{depv:List Nat}{cur:Array Value}{te:Ty}{w':World}{j:Nat}
section
section
variable{c:Cx}{p:qj}{w w0:World}{S0:Nat→Prop}{a:Act}{σ σ':St}{cs:List (X×Bool)}{o:Oper}{d:List Deferred}{z:Nat}
theorem q43{l:List Nat}{pin:Nat}(h:zs l pin=false):∀x∈l,q20 pin x=false∧no x=false:=fun y hy=>by
 refine⟨?_,rfl⟩;cases hq:q20 pin y with
 |false=>rfl
 |true=>
  have:=gnN hq;subst this;rw[yo.2 hy] at h;cases h
theorem z4l{l m:List Nat}{x:Nat}(h1:zs l x=false)(h2:zs m x=false):zs (uni l m) x=false:=by
 cases h:zs (uni l m) x with
 |false=>rfl
 |true=>
  rcases ztr (yo.1 h) with h|h
  ·rw[yo.2 h] at h1;cases h1
  ·rw[yo.2 h] at h2;cases h2
theorem z11(hb:Bs c.A c.F w0 S0 p w)(hf:SF c σ p w a)(hd:a.defers=d)(hz:a.tmps.size=z){t:Ty}(hT:qm T=some t){k q g:Nat}(hg:p (k * 16)=some g)(hnv:∀e,lkA σ.m k=some e→nvB e.t=true→c.F.mx e.t=0){v:Value}
  (hp:jj t vs v)(hv:Con c.A p w (xv.ev c.v) t ownv depv vs)(h:qgi σ k path q t xv ownv depv=some σ'):
  ∃w',(Instr.storeAt T (.pointer (some ⟨g,q,none⟩)) v).run uA w=.ok () w'∧q0f c w0 S0 d z σ' a w':=by
 unfold qgi at h;split at h
 ·rename_i e he;split at h
  ·rename_i xo t' ov q' x' own' hat hset;split at h
   ·rename_i hok;simp only[gnB,uU] at hok;obtain⟨h1,h2,h3⟩:=hok;rw[Ty.beq_iff] at h1;have h2':=gnN h2;subst h1 h2';injection h with h;subst h;obtain⟨g',cur,T',hg',hh,hty,hcon⟩:=hf.m k e he;obtain rfl:g=g':=gnI (hg.symm.trans hg');have hcon2:Con c.A p w (e.x.ev c.v) e.t e.own (uni e.dep depv) cur.toList:=hcon.mono fun x hx=>q44 hx;have hv2:Con c.A p w (xv.ev c.v) t' ownv (uni e.dep depv) vs:=hv.mono fun x hx=>qa1 hx;obtain⟨c0,c1,c2,e1,e2,e3,e4⟩:∃c0 c1 c2,cur.toList=c0++(c1++c2)∧c0.length=q'∧c1.length=vs.length∧Con c.A p w (x'.ev c.v) e.t own' (if z66 e.t path then depv else uni e.dep depv) (c0++(vs++c2)):=by
     cases hth:z66 e.t path with
     |false=>
      simp only[gnF,if_false];exact qoh path hset hat hcon2 hv2
     | true =>
      simp only[if_true];unfold z66 at hth;split at hth
      ·rename_i S j het;split at hth
       ·rename_i fs hfs;have hflat:∀i t,i≠j→fs[i]? =some t→zt 8 t=true:=fun i t hi ht=>by
         have hlt:=(gnH.1 ht).1;have:=kK.1 hth i (vV.2 hlt);simp only[kL,ht] at this;rcases this with h|h
         ·exact absurd (gnN h) hi
         ·exact h
        rw[het] at hset hat hcon;unfold qgc at hset;unfold q53 at hat;simp only[hfs] at hset hat;split at hset
        ·rename_i tj hj;simp only[hj,q53,qgc] at hset hat;split at hset
         ·rename_i oj hoj;simp only[gnS] at hset hat;obtain⟨rfl,rfl⟩:=hset;obtain⟨-,rfl,-,rfl⟩:=hat;obtain⟨fs',ds,hf',hds,hfls⟩:=hcon;obtain rfl:=gnI (hf'.symm.trans hfs);obtain⟨c0,c1,c2,q1,q2,q3,q4⟩:=Fls.set2 (own':=qjk e.own j oj) (d:=xv.ev c.v) (c:=vs) hflat hfls hj (by rw[uO,qah,if_pos rfl];exact Con.sup hoj hv) (fun i hi=>by rw[uO] at hi;rw[qah,if_neg hi]);refine⟨c0,c1,c2,q1,by rw[q2];simp,by rw[q3,hv.len.1],?_⟩;rw[het];exact⟨fs',ds.set j (xv.ev c.v),hfs,by show D.a ((e.x.ev c.v).fs.set j _)=_;rw[hds];rfl,q4⟩
         ·cases hset
        ·cases hset
       ·cases hth
      ·cases hth
    have hrun:=qa5 hT hh e1 e2 e3 (hv.rd (dep':=depv++ownv.map (·.2)) (fun x hx=>uQ _ hx) (fun x hx=>uM _ hx)) hp;refine⟨_,hrun,p,q8c hb hg (FlW.var hb.flo hh hty (by simpa using hcon.len.1) (hnv _ he) _),?_,hd,hz⟩;have hst:Stab c.A (q20 (k * 16)) no p w p (w.setRow g (c0++(vs++c2)).toArray):=q68 hb.inj hg _;have hno:=q43 h3;have hk:=hf.keep hst;refine hk.var ⟨g,(c0++(vs++c2)).toArray,T',hg,setRow_heap w g cur _ T' _ hh,hty,?_⟩;have hno2:∀x∈(if z66 e.t path then depv else uni e.dep depv),q20 (k * 16) x=false∧no x=false:=fun x hx=>by
     split at hx
     ·exact hno x (uM _ (qa1 hx))
     ·exact hno x (uM _ hx)
    exact(e4.kept hst hno2 (fun x hx=>hno x (uQ _ hx))).depC
   ·cases h
  ·cases h
 ·cases h
theorem z6n(hb:Bs c.A c.F w0 S0 p w)(hf:SF c σ p w a)(hd:a.defers=d)(hz:a.tmps.size=z){t:Ty}(hT:qm T=some t){k q g:Nat}(hg:p (k * 16)=some g)(hnv:∀e,lkA σ.m k=some e→nvB e.t=true→c.F.mx e.t=0){v:Value}
  (hp:jj t vs v)(hv:Con c.A p w (xv.ev c.v) t ownv depv vs)(h:qtm σ k path q t xv ownv depv=some σ'):
  ∃w',(Instr.storeAt T (.pointer (some ⟨g,q,none⟩)) v).run uA w=.ok () w'∧q0f c w0 S0 d z σ' a w':=
 z11 hb hf hd hz hT hg hnv hp hv.depC h
theorem z5j{g oo:Nat}{c0 c1 c2 cl:List Value}(hg:w.heap[g]? =some (.cells cur T (0,0)))(hc:cur.toList=c0++(c1++c2))(h1:c1.length=cl.length)(hr:w.rangeAt g oo vs)(hap:oo+vs.length≤c0.length∨c0.length+cl.length≤oo):
  (w.setRow g (c0++(cl++c2)).toArray).rangeAt g oo vs:=fun j v hj=>by
 have h:=hr j v hj;rw[cell_of_row w g _ cur T (0,0) hg,←uH,hc] at h;rw[cell_of_row _ g _ _ T (0,0) (setRow_heap w g cur _ T _ hg)];have hjl:=(gnH.1 hj).1;simp only[kA];rcases hap with hap|hap
 ·rw[uG (by omega)] at h⊢;exact h
 ·rw[uD (by omega),uD (by omega)] at h⊢;rw[h1] at h;exact h
theorem zin{g oo:Nat}{c0 c1 c2 b0 b1 b2 cl:List Value}(hg:w.heap[g]? =some (.cells cur T (0,0)))(hc:cur.toList=c0++(c1++c2))(h1:c1.length=cl.length)(hr:w.rangeAt g oo (b0++(b1++b2)))(hb:oo+b0.length=c0.length)(hb1:b1.length=cl.length):
  (w.setRow g (c0++(cl++c2)).toArray).rangeAt g oo (b0++(cl++b2)):=fun j v hj=>by
 rw[cell_of_row _ g _ _ T (0,0) (setRow_heap w g cur _ T _ hg)];simp only[kA];by_cases hj0:j<b0.length
 ·rw[uG hj0] at hj;have h:=hr j v (by rw[uG hj0];exact hj);rw[cell_of_row w g _ cur T (0,0) hg,←uH,hc,uG (by omega)] at h;rw[uG (by omega)];exact h
 ·rw[uD (by omega)] at hj;rw[uD (by omega)];by_cases hj1:j<b0.length+cl.length
  ·rw[uG (by omega)] at hj⊢;rw[show oo+j - c0.length=j - b0.length by omega];exact hj
  ·rw[uD (by omega)] at hj⊢;have h:=hr j v (by rw[uD (by omega),uD (by omega),hb1];exact hj);rw[cell_of_row w g _ cur T (0,0) hg,←uH,hc,uD (by omega),uD (by omega)] at h;rw[show oo+j - c0.length - cl.length=oo+j - c0.length - c1.length by omega];exact h
structure ElSt(c:Cx)(p:qj)(w:World)(pin g:Nat)(i:X)(path:List Nat)(te:Ty)(xv:X)(depv:List Nat)(c0 c1 c2 cl:List Value)(w':World):Prop where
 hp:p pin=some g
 inj:∀x y b,p x=some b→p y=some b→x=y
 cur:∃cur T,w.heap[g]? =some (.cells cur T (0,0))∧cur.toList=c0++(c1++c2)
 len:c1.length=cl.length
 out:w'=w.setRow g (c0++(cl++c2)).toArray
 off:∃t q,(∃xo ov,q53 (.lit .u) te [] path=some (xo,t,ov,q))∧c0.length=(i.ev c.v).int.toNat * te.w+q∧q+cl.length≤te.w∧Con c.A p w (xv.ev c.v) t [] depv cl
 dv:zs depv pin=false
theorem qon:∀(path:List Nat){x y x':X}{t t':Ty}{ov:List (Nat×Nat)}{q:Nat},q53 x t [] path=some (x',t',ov,q)→∃y',q53 y t [] path=some (y',t',[],q)∧ov=[]
 |[],x,y,x',t,t',ov,q,h=>by
  simp only[q53,gnS] at h;obtain⟨rfl,rfl,rfl,rfl⟩:=h;exact⟨y,rfl,rfl⟩
 | j :: path, x, y, x', t, t', ov, q, h => by
  unfold q53 at h;split at h
  ·rename_i S;split at h
   ·rename_i fs hfs;split at h
    ·rename_i tj hj;split at h
     ·rename_i x1 t1 own1 o1 hr;simp only[gnS] at h;obtain⟨rfl,rfl,rfl,rfl⟩:=h;have hr':q53 (.fld x j) tj [] path=some (x1,t1,own1,o1):=hr;obtain⟨y',hy,rfl⟩:=qon path (y:=.fld y j) hr';refine⟨y',?_,rfl⟩;unfold q53;simp only[hfs,hj,show qsi (lkA ([]:List (Nat×Nat)) j)=[] from rfl,hy]
     ·cases h
    ·cases h
   ·cases h
  ·cases h
theorem ElSt.stab{pin g:Nat}{c0 c1 c2 cl:List Value}(h:ElSt c p w pin g i path te xv depv c0 c1 c2 cl w'):Stab c.A (q20 pin) no p w p w':=by
 rw[h.out];exact q68 h.inj h.hp _
theorem ElSt.row{pin g:Nat}{x x':X}{c0 c1 c2 cl:List Value}(h:ElSt c p w pin g i path te xv depv c0 c1 c2 cl w')(hu:zg0 i te path xv x=some x')(hn:zs dep pin=false)
  {l:List D}(hl:x.ev c.v=.r l){v:Value}(hte:qm E=some te)(hv:q32 c.A p w dep pin E te l v):∃l',x'.ev c.v=.r l'∧q32 c.A p w' (uni dep depv) pin E te l' v:=by
 unfold zg0 at hu;split at hu
 ·rename_i xe hxe;injection hu with hu;subst hu;obtain⟨t,q,⟨xo,ov,hat⟩,hoff,hfit,hcv⟩:=h.off;obtain⟨cur,T,hcur,hcl⟩:=h.cur;have hst:=h.stab;have hnd:=q43 (z4l hn h.dv);refine⟨l.set (i.ev c.v).int.toNat (xe.ev c.v),by show D.r _=_;rw[hl];rfl,?_⟩;rcases hv with⟨rfl,rfl⟩|⟨g',cap,cur',rfl,hg',hh,h1,h2,h3,h4,h5⟩
  ·exact .inl ⟨rfl,by simp⟩
  ·obtain rfl:g=g':=gnI (h.hp.symm.trans hg');rw[hcur] at hh;injection hh with hh;injection hh with hh1 hh2;subst hh1 hh2;have hsz:(c0++(cl++c2)).toArray.size=cur.size:=by
    rw[←uY (xs:=cur),hcl];simp[h.len]
   refine .inr ⟨g,cap,(c0++(cl++c2)).toArray,by simp,h.hp,by rw[h.out];exact setRow_heap w g cur _ _ _ hcur,by simpa using h1,h2,by rw[hsz];exact h3,by simpa using h4,fun j hj=>?_⟩;have hj':j<l.length:=by simpa using hj
   obtain⟨vs,hr,hd⟩:=h5 j hj';have hvl:=(Rd.len _ hd).1;by_cases hji:j=(i.ev c.v).int.toNat
   ·subst hji;have hget:(X.get x i).ev c.v=l[(i.ev c.v).int.toNat]:=by
     show(x.ev c.v).rs.getD (i.ev c.v).int.toNat .u=_
     rw[hl];simp[D.rs,gnG,gnK hj']
    obtain⟨y',hat',-⟩:=qon path (y:=.get x i) hat;have hcon:Con c.A p w ((X.get x i).ev c.v) te [] (uni dep depv) vs:=by rw[hget];exact Con.of_rd (hd.mono fun b _ hb=>hb.mono fun y hy=>q44 hy)
    obtain⟨b0,b1,b2,e1,e2,e3,e4⟩:=qoh path hxe hat' hcon (hcv.mono fun y hy=>qa1 hy);subst e1;refine⟨b0++(cl++b2),?_,?_⟩
    ·rw[h.out];exact zin hcur hcl h.len hr (by rw[e2,hoff]) e3
    ·have hrd:=(e4.kept hst hnd (fun x hx=>by cases hx)).rd (dep':=uni dep depv) (fun x hx=>hx) (fun x hx=>by cases hx);rw[List.getElem_set_self];exact hrd
   ·refine⟨vs,?_,?_⟩
    ·rw[h.out];refine z5j hcur hcl h.len hr ?_;rcases Nat.lt_or_gt_of_ne hji with hlt|hgt
     ·left;have:=uC te.w (show j+1≤(i.ev c.v).int.toNat by omega);rw[uN] at this;omega
     ·right;have:=uC te.w (show(i.ev c.v).int.toNat+1≤j by omega);rw[uN] at this;omega
    ·rw[List.getElem_set_ne (Ne.symm hji)];exact Rd.keeps (hst.kp hnd) _ (hd.mono fun b _ hb=>hb.mono fun y hy=>q44 hy)
 ·cases hu
theorem filter_one{own:List (Nat×Nat)}(hn:q5u own=true){pin pin':Nat}(h:own.filter (fun e=>uB e.2 pin)=[(j,pin')]):lkA own j=some pin∧∀i,i≠j→lkA own i≠some pin:=by
 have hm:(j,pin')∈own.filter (fun e=>uB e.2 pin):=by rw[h];exact uV
 obtain⟨h1,h2⟩:=kH.1 hm;have h3:=gnN h2;simp only at h3;subst h3;refine⟨?_,fun i hi he=>?_⟩
 ·clear h hm
  induction own with
  |nil=>cases h1
  | cons e l ih =>
   obtain⟨k,x⟩:=e;simp only[q5u,gnB,Option.isNone_iff_eq_none] at hn;rcases kW.1 h1 with he|he
   ·injection he with e1 e2;subst e1 e2;exact qa
   ·by_cases hk:k=j
    ·subst hk;have:=z15 hn.1 _ he;exact absurd rfl this
    ·rw[qd hk];exact ih hn.2 he
 ·have:(i,pin')∈own.filter (fun e=>uB e.2 pin'):=kH.2 ⟨qx he,by simp⟩;rw[h] at this;simp at this;exact hi this
theorem Fls.kept'{p':qj}{w:World}{Z L:Nat→Bool}{own:List (Nat×Nat)}(hs:Stab A Z L p w p' w')(hz:∀x∈dep,Z x=false∧L x=false):∀{ds:List D}{n:Nat}{fs:List Ty}{cs:List Value},(∀i x,n≤i→lkA own i=some x→Z x=false∧L x=false)→Fls A p w dep own n ds fs cs→Fls A p' w' dep own n ds fs cs
 |[],_,_,_,_,h=>h
 |d::ds,j,fs,cs,hp,⟨t,ts,c1,c2,e1,e2,h1,h2⟩=>⟨t,ts,c1,c2,e1,e2,h1.kept hs hz fun x hx=>hp j x (vC _) hx,Fls.kept' hs hz (fun i x hi hx=>hp i x (by omega) hx) h2⟩
theorem ElSt.flds{pin g:Nat}{x x':X}{c0 c1 c2 cl:List Value}(h:ElSt c p w pin g i path te xv depv c0 c1 c2 cl w')(hn:zs dep pin=false){own:List (Nat×Nat)}(hte:qm E=some te):
  ∀{ds:List D}{n j:Nat}{fs:List Ty}{vs:List Value},Fls c.A p w dep own n ds fs vs→fs[j]? =some (.row E)→lkA own (n+j)=some pin→(∀k,k≠n+j→lkA own k≠some pin)→x.ev c.v=ds.getD j .u→zg0 i te path xv x=some x'→Fls c.A p w' (uni dep depv) own n (ds.set j (x'.ev c.v)) fs vs
 |[],n,j,fs,vs,⟨h1,h2⟩,hj,_,_,_,_=>by subst h1;simp at hj
 | d :: ds, n, j, fs, vs, ⟨t, ts, a1, a2, e1, e2, h1, h2⟩, hj, ho, hne, hx, hu => by
  subst e1 e2;have hst:=h.stab;have hnd:=q43 (z4l hn h.dv);have hpin:∀k y,k≠n+j→lkA own k=some y→q20 pin y=false∧no y=false:=fun k y hk hy=>by
   refine⟨?_,rfl⟩;cases hq:q20 pin y with
   |false=>rfl
   |true=>
    have:=gnN hq;subst this;exact absurd hy (hne k hk)
  cases j with
  |zero=>
   simp at hj;subst hj;rw[vB] at ho;rw[ho] at h1;rcases h1.symm with⟨K,V,kt,vt,lm,gm,es,clock,em,-⟩|⟨E1,te1,l,v,q1,q2,q3,q4,q5⟩
   ·cases em
   injection q1 with q1;subst q1;obtain rfl:=gnI (q2.symm.trans hte);subst q3 q4;obtain⟨l',hl',hown⟩:=h.row hu hn (l:=l) (by rw[hx];rfl) hte q5;refine⟨_,ts,_,a2,rfl,rfl,?_,Fls.kept' hst hnd (fun k y hk hy=>hpin k y (by omega) hy) (Fls.mono (fun y hy=>q44 hy) h2)⟩;rw[ho];exact .inl ⟨_,te1,l',v,rfl,hte,hl',rfl,hown⟩
  |succ j=>
   refine⟨t,ts,a1,a2,rfl,rfl,?_,ElSt.flds h hn hte h2 (by simpa using hj) (by rw[show n+1+j=n+(j+1) by omega];exact ho) (fun k hk=>hne k (by omega)) (by simpa using hx) hu⟩;exact(Fl.mono (fun y hy=>q44 hy) h1).kept hst hnd fun y hy=>hpin n y (by omega) hy
theorem z44(h:rowIs E te=true):qm E=some te:=by
 unfold rowIs at h;split at h
 ·rename_i t ht;rw[ht,(Ty.beq_iff _ _).1 h]
 ·cases h
theorem qmw{pin g:Nat}{c0 c1 c2 cl:List Value}(h:ElSt c p w pin g i path te xv depv c0 c1 c2 cl w'){x x':X}{t:Ty}{own:List (Nat×Nat)}{dep':List Nat}
  (hu:qng pin i te path xv depv x t own dep=some (x',dep'))(hc:Con c.A p w (x.ev c.v) t own dep vs):Con c.A p w' (x'.ev c.v) t own dep' vs:=by
 unfold qng at hu;split at hu
 ·cases hu
 ·rename_i hok;simp only[kL,uU,not_or,vR,vP] at hok;obtain⟨hn,hnd⟩:=hok;have hst:=h.stab;have hdep:=q43 hn;split at hu
  ·rename_i hfil;simp only[gnS] at hu;obtain⟨rfl,rfl⟩:=hu;refine hc.kept hst hdep fun y hy=>⟨?_,rfl⟩;cases hq:q20 pin y with
   |false=>rfl
   |true=>
    obtain⟨e,he,rfl⟩:=kF.1 hy;have:e∈own.filter (fun e=>uB e.2 pin):=kH.2 ⟨he,hq⟩;rw[hfil] at this;cases this
  ·rename_i j pin' hfil;obtain⟨ho,hne⟩:=filter_one hnd hfil;split at hu
   ·rename_i E;split at hu
    ·rename_i hE;simp only[gnB] at hE;have hte:=z44 hE.1;have hj:=gnN hE.2;subst hj;simp only[vF,Prod.mk.injEq] at hu;obtain⟨x1,hx1,rfl,rfl⟩:=hu;have hc':Fl c.A p w dep (lkA own 0) (x.ev c.v) (.row E) vs:=hc;rw[ho] at hc';rcases hc'.symm with⟨K,V,kt,vt,lm,gm,es,clock,em,-⟩|⟨E1,te1,l,v,q1,q2,q3,q4,q5⟩
     ·cases em
     injection q1 with q1;subst q1;obtain rfl:=gnI (q2.symm.trans hte);obtain⟨l',hl',hown⟩:=h.row hx1 hn q3 hte q5
     show Fl c.A p w' (uni dep depv) (lkA own 0) (x1.ev c.v) (.row E) vs
     rw[ho];exact .inl ⟨E,te1,l',v,rfl,hte,hl',q4,hown⟩
    ·cases hu
   ·rename_i S;split at hu
    ·rename_i fs hfs;split at hu
     ·rename_i E hj;split at hu
      ·rename_i hE;have hte:=z44 hE;simp only[vF,Prod.mk.injEq] at hu;obtain⟨x1,hx1,rfl,rfl⟩:=hu;obtain⟨fs',ds,hf',hds,hfl⟩:=hc;obtain rfl:=gnI (hf'.symm.trans hfs);have:=h.flds hn hte hfl hj (by rw[uO];exact ho) (fun k hk=>hne k (by omega)) (x:=.fld x j) (by show(x.ev c.v).fld j=_;rw[hds];rfl) hx1;refine⟨_,_,hf',?_,this⟩
       show D.a ((x.ev c.v).fs.set j (x1.ev c.v))=_
       rw[hds];rfl
      ·cases hu
     ·cases hu
    ·cases hu
   ·cases hu
  ·cases hu
end
end
variable{xs:List X}
section
theorem zc4:∀{fs:List Ty}{j:Nat}{t:Ty},fs[j]? =some t→offs fs j+t.w≤widths fs
 |[],j,t,h=>by simp at h
 |u::ts,0,t,h=>by
  simp at h;subst h;rw[qak,q9f];omega
 |u::ts,j+1,t,h=>by
  have:=zc4 (fs:=ts) (j:=j) (t:=t) (by simpa using h);rw[qaf,q9f];omega
theorem qub:∀(path:List Nat){x x':X}{t t':Ty}{own ov:List (Nat×Nat)}{q:Nat},q53 x t own path=some (x',t',ov,q)→q+t'.w≤t.w
 |[],x,x',t,t',own,ov,q,h=>by
  simp only[q53,gnS] at h;obtain⟨rfl,rfl,rfl,rfl⟩:=h;omega
 | j :: path, x, x', t, t', own, ov, q, h => by
  unfold q53 at h;split at h
  ·rename_i S;split at h
   ·rename_i fs hfs;split at h
    ·rename_i tj hj;split at h
     ·rename_i x1 t1 own1 o1 hr;simp only[gnS] at h;obtain⟨rfl,rfl,rfl,rfl⟩:=h;have h1:=qub path hr;have h2:=zc4 hj;rw[(qrq hfs).1];omega
     ·cases h
    ·cases h
   ·cases h
  ·cases h
section
variable{c:Cx}{p:qj}{w w0:World}{S0:Nat→Prop}{a:Act}{σ σ':St}{cs:List (X×Bool)}{o:Oper}{d:List Deferred}{z:Nat}
theorem zo4{pin g:Nat}{c0 c1 c2 cl:List Value}(h:ElSt c p w pin g i path te xv depv c0 c1 c2 cl w'){v:Value}(hx:x.pd c p w v):(zj2 pin i te path xv depv x).pd c p w' v:=by
 have gen:∀y:AV,y.pd c p w v→(if okA (q20 pin) no y then y else AV.any).pd c p w' v:=fun y hy=>by
  split
  ·rename_i hok;exact AV.kept h.stab y v (qdv hok).1 (qdv hok).2 hy
  ·trivial
 unfold zj2;split
 ·rename_i x t own dep;split
  ·rename_i x' dep' hu;obtain⟨vs,hp,hc⟩:=hx;exact⟨vs,hp,qmw h hu hc⟩
  ·trivial
 ·rename_i q x t own dep;split
  ·rename_i x' dep' hu;obtain⟨hs,vs,hp,hc⟩:=hx;exact⟨hs,vs,hp,qmw h hu hc⟩
  ·trivial
 ·exact gen _ hx
theorem znb{pin:Nat}{l:List (Nat×Ent)}{k:Nat}{e:Ent}(h:lkA (z97 pin i te path xv depv l) k=some e):
  ∃e0 x' dep',lkA l k=some e0∧qng pin i te path xv depv e0.x e0.t e0.own e0.dep=some (x',dep')∧e=⟨x',e0.t,e0.own,dep'⟩∧q20 pin (k * 16)=false:=by
 induction l with
 |nil=>cases h
 | cons y l ih =>
  obtain⟨m,y⟩:=y;unfold z97 at h;split at h
  ·rename_i x' dep' hu;split at h
   ·by_cases hm:m=k
    ·subst hm;rw[zb] at h;cases h
    ·rw[q35 hm] at h;rw[qd hm];exact ih h
   ·rename_i hpin;by_cases hm:m=k
    ·subst hm;rw[qa] at h;injection h with h;exact⟨y,x',dep',qa,hu,h.symm,by
      cases hq:q20 pin (m * 16) with
      |false=>rfl
      |true=>exact absurd hq hpin⟩
    ·rw[qd hm] at h⊢;exact ih h
  ·by_cases hm:m=k
   ·subst hm;rw[zb] at h;cases h
   ·rw[q35 hm] at h;rw[qd hm];exact ih h
theorem El.sf{pin g:Nat}{c0 c1 c2 cl:List Value}(h:ElSt c p w pin g i path te xv depv c0 c1 c2 cl w')(hf:SF c σ p w a):SF c ⟨σ.t.map fun e=>(e.1,zj2 pin i te path xv depv e.2),z97 pin i te path xv depv σ.m⟩ p w' a:=by
 refine⟨fun t x hx=>?_,fun k e he=>?_⟩
 ·obtain⟨y,hy,rfl⟩:=q8p (f:=zj2 pin i te path xv depv) hx;obtain⟨v,h1,h2⟩:=hf.t t y hy;exact⟨v,h1,zo4 h h2⟩
 ·obtain⟨e0,x',dep',h1,h2,rfl,h3⟩:=znb he;obtain⟨g',vs,T,hg',hh,hty,hc⟩:=hf.m k e0 h1;exact⟨g',vs,T,hg',(h.stab.con _ _ h3 hg').trans hh,hty,qmw h h2 hc⟩
theorem z8c(hb:Bs c.A c.F w0 S0 p w)(hf:SF c σ p w a)(hd:a.defers=d)(hz:a.tmps.size=z){t:Ty}(hT:qm T=some t){pin b ob q:Nat}{x:X}(hpin:p pin=some b)(hob:ob=(i.ev c.v).int.toNat * te.w+q)(hblk:∃cur E,w.heap[b]? =some (.cells cur E (0,0))∧qm E=some te)(hfl:c.F.mx te≤(i.ev c.v).int.toNat){F:Nat→Prop}{dx:D}{vo:List Value}
  (hr:w.rangeAt b ob vo)(hrd:Rd w F dx t vo){v:Value}
  (hp:jj t vs v)(hv:Con c.A p w (xv.ev c.v) t ownv depv vs)(h:qo6 σ pin i path q te t xv ownv depv=some σ'):
  ∃w',(Instr.storeAt T (.pointer (some ⟨b,ob,none⟩)) v).run uA w=.ok () w'∧q0f c w0 S0 d z σ' a w':=by
 unfold qo6 at h;split at h
 ·rename_i xo t' ov q' hat;split at h
  ·rename_i hok;simp only[gnB,uU] at hok;obtain⟨h1,h2,h3,h4⟩:=hok;rw[Ty.beq_iff] at h1;have h2':=gnN h2;subst h1 h2';have hown:ownv=[]:=by simpa using h3
   subst hown;injection h with h;subst h;have hl0:=(Rd.len _ hrd).1;have hpos0:=q3g hT;obtain⟨cur,T',hcur⟩:=(hb.obj pin b hpin).cells (hr 0 _ (gnK (by omega)));have hlv:=hv.len.1;have hpos:=q3g hT;have hsz:ob+vo.length≤cur.size:=by
    have:=hr (vo.length - 1) vo[vo.length - 1] (gnK (by omega));rw[cell_of_row w b _ cur T' (0,0) hcur] at this;have:=(Array.getElem?_eq_some_iff.1 this).1;omega
   have hspl:cur.toList=cur.toList.take ob++((cur.toList.drop ob).take vs.length++(cur.toList.drop ob).drop vs.length):=by
    rw[kS,kS]
   have hl1:(cur.toList.take ob).length=ob:=by simp;omega
   have hl2:((cur.toList.drop ob).take vs.length).length=vs.length:=by simp;omega
   have hrun:=qa5 hT hcur hspl hl1 hl2 (hv.rd (dep':=depv) (fun x hx=>hx) (fun x hx=>by cases hx)) hp;have hfit:=qub path hat
   have hel:ElSt c p w pin b i path te xv depv (cur.toList.take ob) ((cur.toList.drop ob).take vs.length) ((cur.toList.drop ob).drop vs.length) vs (w.setRow b (cur.toList.take ob++(vs++(cur.toList.drop ob).drop vs.length)).toArray):=
    ⟨hpin,hb.inj,⟨cur,T',hcur,hspl⟩,hl2,rfl,⟨t',q',⟨xo,ov,hat⟩,by rw[hl1,hob],by rw[hlv];exact hfit,hv⟩,h4⟩
   obtain⟨cur',E,hb1,hb2⟩:=hblk;rw[hcur] at hb1;injection hb1 with hb1;injection hb1 with hb3 hb4;subst hb3 hb4;refine⟨_,hrun,p,q8c hb hpin (FlW.above hb.flo hcur hb2 (ob:=ob) (by rw[hob];exact vA (uC _ hfl) (Nat.le_add_right _ _)) (by simp;omega) fun j hj=>?_),El.sf hel hf,hd,hz⟩;rw[kA,uG (by omega),uE hj,uH]
  ·cases h
 ·cases h
theorem z83(hb:Bs c.A c.F w0 S0 p w)(hf:SF c σ p w a)(hd:a.defers=d)(hz:a.tmps.size=z){k g:Nat}(hg:p (k * 16)=some g){u v:Value}(hh:w.heap[g]? =some (.cells #[u] T (0,0)))(hx:x.pd c p w v)
  (h:qnc uA σ k T x=some σ'):(Instr.storeAt T (.pointer (some ⟨g,0,none⟩)) v).run uA w=.ok () (w.setRow g #[v])∧q0f c w0 S0 d z σ' a (w.setRow g #[v]):=by
 unfold qnc at h;split at h
 ·rename_i hok;simp only[gnB] at hok;obtain⟨h1,h2,h3⟩:=hok;split at h
  ·rename_i k' T' y hl;split at h
   ·rename_i hkk;simp only[gnB] at hkk;obtain⟨e1,e2⟩:=hkk;have e1:=gnN e1;have e2:=gnN e2;subst e1 e2;injection h with h;subst h;have hcells:=quv h1 hx;have hone:=zgl h1 hx;refine⟨?_,p,q8c hb hg (FlW.one hb.flo hh _),?_,hd,hz⟩
    ·unfold zpa at h2;split at h2
     ·rename_i i hi;have hsz:=gnN h2;have hst:=run_storeCells_at uA g 0 T' [v] 0 #[u] w hh (by simp) (by simpa using hone);have e1:((#[u]:Array Value).toList.take (0+0)++[v]++(#[u]:Array Value).toList.drop (0+0+[v].length))=[v]:=by simp
      rw[e1] at hst;simp only[Instr.storeAt,Instr.sureAddr,uZ,kD,uJ,storeVar,sizeOf,typeInfo,run_program,hi,hcells];rw[if_neg (by simp[hsz])];exact hst
     ·cases h2
    ·have hst:=q68 (A:=c.A) (w:=w) hb.inj hg #[v];have hkeep:=hf.keep hst;obtain⟨q1,q2⟩:=qdv h3;obtain⟨v',hv',g',u',⟨hg',hat⟩,e,-,-⟩:=hf.t k' _ hl;obtain rfl:=gnI (hg.symm.trans hg');refine⟨fun t y hy=>?_,hkeep.m⟩;by_cases hkt:k'=t
     ·subst hkt;have hy':lkA (q08 (q9w (q20 (k' * 16)) no σ.t) k' (.bx k' T' (keyed k' x))) k'=some y:=hy;rw[q1w] at hy';injection hy' with hy';subst hy';exact⟨v',hv',g,v,⟨hg,hat⟩,e,setRow_heap w g _ _ _ _ hh,AV.kept hst _ _ q1 q2 (z4e x hx)⟩
     ·have hy':lkA (q08 (q9w (q20 (k' * 16)) no σ.t) k' (.bx k' T' (keyed k' x))) t=some y:=hy;rw[q3z hkt] at hy';exact hkeep.t t y hy'
   ·cases h
  ·cases h
 ·cases h
theorem z8d(hb:Bs c.A c.F w0 S0 p w)(hf:SF c σ p w a)(hd:a.defers=d)(hz:a.tmps.size=z){k g:Nat}{K V:TypeId}(hT:qm T=some (.map K V))(hg:p (k * 16)=some g){u v:Value}(hh:w.heap[g]? =some (.cells #[u] T (0,0)))(hx:x.pd c p w v)
  (h:qmq σ k T (.map K V) x=some σ'):∃w',(Instr.storeAt T (.pointer (some ⟨g,0,none⟩)) v).run uA w=.ok () w'∧q0f c w0 S0 d z σ' a w':=by
 unfold qmq at h;split at h
 ·rename_i k' T' y xv own dep hl hv;split at h
  ·rename_i hkk;simp only[gnB,uU] at hkk;obtain⟨e1,e2,h3⟩:=hkk;have e1:=gnN e1;have e2:=gnN e2;subst e1 e2;injection h with h;subst h;obtain⟨vs,hp,hcon⟩:=q2u hv hx;have hlen:vs.length=1:=hcon.len.1;have hrun:=qa5 hT hh (c0:=[]) (c1:=[u]) (c2:=[]) (by simp) rfl (by simp[hlen]) (hcon.rd (dep':=dep++own.map (·.2)) (fun x hx=>uQ _ hx) (fun x hx=>uM _ hx)) hp;refine⟨_,hrun,p,q8c hb hg (FlW.one hb.flo hh _),?_,hd,hz⟩;have hst:Stab c.A (q20 (k' * 16)) no p w p (w.setRow g ([]++(vs++[])).toArray):=q68 hb.inj hg _;have hno:=q43 h3;have hk:=hf.keep hst;obtain⟨v',hv',g',u',⟨hg',hat⟩,e,-,-⟩:=hf.t k' _ hl;obtain rfl:=gnI (hg.symm.trans hg');have h2:=hk.var (k:=k') (e:=⟨xv,.map K V,own,dep⟩) ⟨g,([]++(vs++[])).toArray,T',hg,setRow_heap w g _ _ T' _ hh,hT,by
    simpa using hcon.kept hst (fun x hx=>hno x (uM _ hx)) (fun x hx=>hno x (uQ _ hx))⟩
   refine⟨fun t y hy=>?_,h2.m⟩;by_cases hkt:k'=t
   ·subst hkt;have hy':lkA (q08 (q9w (q20 (k' * 16)) no σ.t) k' (.ref k' [] 0 (.map K V))) k'=some y:=hy;rw[q1w] at hy';injection hy' with hy';subst hy';exact⟨v',hv',g,hg,e,hat⟩
   ·have hy':lkA (q08 (q9w (q20 (k' * 16)) no σ.t) k' (.ref k' [] 0 (.map K V))) t=some y:=hy;rw[q3z hkt] at hy';exact h2.t t y hy'
  ·cases h
 ·cases h
theorem zn3{k:Nat}{t:Ty}:∀(x:AV){v:Value},x.pd c p w v→(unlv k t x).pd c p w v:=fun x v h=>by
 cases x with
 | lv k' t' =>
  show AV.pd c p w (if uB k' k then .ref k [] 0 t else .lv k' t') v
  split
  ·rename_i hk;have hk:=gnN hk;subst hk;obtain⟨g,cs,T,⟨hg,hat⟩,e,-⟩:=h;exact⟨g,hg,e,hat⟩
  ·exact h
 |_=>exact h
theorem z8x(hb:Bs c.A c.F w0 S0 p w)(hf:SF c σ p w a)(hd:a.defers=d)(hz:a.tmps.size=z){t:Ty}(hT:qm T=some t){k g:Nat}(hg:p (k * 16)=some g)(hat:c.At k g){T':TypeId}(hh:w.heap[g]? =some (.cells cur T' (0,0)))(hty:qm T'=some t)(hsz:cur.size=t.w){v:Value}{own:List (Nat×Nat)}
  (hp:jj t vs v)(hv:Con c.A p w (xv.ev c.v) t own dep vs)(h:qnd σ k t xv own dep=some σ'):∃w',(Instr.storeAt T (.pointer (some ⟨g,0,none⟩)) v).run uA w=.ok () w'∧q0f c w0 S0 d z σ' a w':=by
 unfold qnd at h;split at h
 ·cases h
 rename_i hnv;split at h
 ·cases h
 ·rename_i h3;injection h with h;subst h;have hlen:=hv.len.1;have hrun:=qa5 hT hh (c0:=[]) (c1:=cur.toList) (c2:=[]) (by simp) rfl (by simp[hlen,hsz]) (hv.rd (dep':=dep++own.map (·.2)) (fun x hx=>uQ _ hx) (fun x hx=>uM _ hx)) hp;refine⟨_,hrun,p,q8c hb hg (FlW.var hb.flo hh hty hsz (fun h=>absurd h (by simpa using hnv)) _),?_,hd,hz⟩;have hst:Stab c.A (q20 (k * 16)) no p w p (w.setRow g ([]++(vs++[])).toArray):=q68 hb.inj hg _;have hno:=q43 (by simpa using h3);have hf1:SF c ⟨σ.t.map fun e=>(e.1,unlv k t e.2),σ.m⟩ p w a:=by
   refine⟨fun t' x hx=>?_,hf.m⟩;obtain⟨y,hy,rfl⟩:=q8p (f:=unlv k t) hx;obtain⟨u,h1,h2⟩:=hf.t t' y hy;exact⟨u,h1,zn3 y h2⟩
  exact(hf1.keep hst).var (k:=k) (e:=⟨xv,t,own,dep⟩) ⟨g,([]++(vs++[])).toArray,T',hg,setRow_heap w g _ _ T' _ hh,hty,by
   simpa using hv.kept hst (fun x hx=>hno x (uM _ hx)) (fun x hx=>hno x (uQ _ hx))⟩
theorem zql(hte:qm E=some te){cs:Array Value}(h:z8p c p w E xs dep (.agg cs)):cs.size=xs.length * te.w∧One cs.toList:=by
 obtain⟨te',l,hte',e,hl,hr⟩:=h;obtain rfl:=gnI (hte'.symm.trans hte);injection e with e;subst e;have hw:=q3g hte;refine⟨by simpa using hl,fun v hv=>?_⟩;obtain⟨i,hi,rfl⟩:=List.getElem_of_mem (show v∈l from hv);have hl2:(X.evs c.v xs).length=xs.length:=q81 xs;have hq:i / te'.w<xs.length:=by
  rw[Nat.div_lt_iff_lt_mul hw];omega
 have h1:=(Rd.len _ (hr (i / te'.w) _ (gnK (by omega)))).2;refine h1 _ (List.mem_iff_getElem?.2 ⟨i % te'.w,?_⟩);rw[List.getElem?_take,if_pos (jD _ hw),kG,show i / te'.w * te'.w+i % te'.w=i from by rw[jA];exact Nat.div_add_mod i te'.w,gnK hi]
theorem z96(hb:Bs c.A c.F w0 S0 p w)(hf:SF c σ p w a)(hd:a.defers=d)(hz:a.tmps.size=z){k g n:Nat}(hg:p (k * 16)=some g){u:Array Value}{v:Value}(hh:w.heap[g]? =some (.cells u T (0,0)))(hun:u.size=n)(hx:(AV.ar E xs dep).pd c p w v)
  (h:qn5 uA σ k T n E xs dep=some σ'):∃w',(Instr.storeAt T (.pointer (some ⟨g,0,none⟩)) v).run uA w=.ok () w'∧q0f c w0 S0 d z σ' a w':=by
 unfold qn5 at h;split at h
 ·rename_i i te k' T' n' y hi hte hl;split at h
  ·rename_i hok;simp only[gnB,uU] at hok;obtain⟨h1,h2,e1,e2,e3,h3,hno0⟩:=hok;have h1:=gnN h1;have h2:=gnN h2;have e1:=gnN e1;have e2:=gnN e2;have e3:=gnN e3;subst e1 e2 e3;injection h with h;subst h;have hx0:z8p c p w E xs dep v:=hx;obtain⟨-,l,-,rfl,-⟩:=hx;obtain⟨hsz,hone⟩:=zql hte hx0;have hsz:l.length=n':=by
    have:l.toArray.size=l.length:=by simp
    omega
   have hone:One l:=hone;have hst0:=run_storeCells_at uA g 0 T' l 0 u w hh (by omega) hone;have e1:(u.toList.take (0+0)++l++u.toList.drop (0+0+l.length))=l:=by
    have:u.toList.length≤l.length:=by simp;omega
    simp[kR this]
   rw[e1] at hst0;refine⟨w.setRow g l.toArray,?_,p,q8c hb hg (FlW.noTy hb.flo hh (by simpa using hno0) _),?_,hd,hz⟩
   ·have hcells:(Value.agg l.toArray).cells=l.toArray:=rfl;simp only[Instr.storeAt,Instr.sureAddr,uZ,kD,uJ,storeVar,sizeOf,typeInfo,run_program,hi,hcells];rw[if_neg (by simp only[uP];omega)];exact hst0
   ·have hst:=q68 (A:=c.A) (w:=w) hb.inj hg l.toArray;have hkeep:=hf.keep hst;have hno:=q43 h3;obtain⟨v',hv',g',u',⟨hg',hat⟩,e,-,-⟩:=hf.t k' _ hl;obtain rfl:=gnI (hg.symm.trans hg');refine⟨fun t y hy=>?_,hkeep.m⟩;by_cases hkt:k'=t
    ·subst hkt;have hy':lkA (q08 (q9w (q20 (k' * 16)) no σ.t) k' (.ax k' T' n' (.ar E xs dep))) k'=some y:=hy;rw[q1w] at hy';injection hy' with hy';subst hy';refine⟨v',hv',g,l.toArray,⟨hg,hat⟩,e,setRow_heap w g _ _ _ _ hh,by simpa using hsz,?_⟩;exact AV.kept hst (.ar E xs dep) _ (fun x hx=>hno x hx) (fun x hx=>by cases hx) hx0
    ·have hy':lkA (q08 (q9w (q20 (k' * 16)) no σ.t) k' (.ax k' T' n' (.ar E xs dep))) t=some y:=hy;rw[q3z hkt] at hy';exact hkeep.t t y hy'
  ·cases h
 ·cases h
theorem zem(hb:Bs c.A c.F w0 S0 p w)(hf:SF c σ p w a)(hc:hold c.v cs=true)(hd:a.defers=d)(hz:a.tmps.size=z)(hdst:o.dst=none){y x:Operand}(heq:o.op=.store T y x)(h:z0m uA σ cs T y x=some σ')(hfl:∀xx t dep pin i path q te,opd σ cs y=some (.rd xx t dep (some (pin,i,path,q,te)))→c.F.mx te≤(i.ev c.v).int.toNat)(hnv:∀k path q t e,opd σ cs y=some (.ref k path q t)→lkA σ.m k=some e→nvB e.t=true→c.F.mx e.t=0):
  o.wp uA a w (q0f c w0 S0 d z σ') Q:=by
 have fin:∀{w':World},(Instr.storeAt T (a.eval y) (a.eval x)).run uA w=.ok () w'→q0f c w0 S0 d z σ' a w'→o.wp uA a w (q0f c w0 S0 d z σ') Q:=fun{w'}hr hp=>by
  have hrun:(execOp a.eval o).run uA w=.ok .skip w':=by
   generalize a.eval=r at *;simp[execOp,heq,hr]
  unfold Oper.wp;rw[hrun]
  show q0f c w0 S0 d z σ' (a.put o.dst undef) w'
  rw[hdst];exact hp
 unfold z0m at h;split at h
 ·rename_i k path oo t hy;obtain⟨g,hg,hev,-⟩:=qo hf hc hy;split at h
  ·rename_i hT;split at h
   ·rename_i xv ownv depv hx;obtain⟨y',hx1,hx2⟩:=uF.1 hx;obtain⟨vs,hp,hcon⟩:=ze6 hx2 (qo hf hc hx1);obtain⟨w',h1,h2⟩:=z6n hb hf hd hz (q3j hT) hg (fun e he hv=>hnv _ _ _ _ _ hy he hv) hp hcon h;exact fin (by rw[hev];exact h1) h2
   ·cases h
  ·cases h
 ·rename_i xx t dep pin i path q te hy;obtain⟨b,o1,vo,hev,hFb,hr,h0,hrd,hw1,hw2,hw3⟩:=qo hf hc hy;split at h
  ·rename_i hT;split at h
   ·rename_i xv ownv depv hx;obtain⟨y',hx1,hx2⟩:=uF.1 hx;obtain⟨vs,hp,hcon⟩:=q2u hx2 (qo hf hc hx1);obtain⟨w',h1,h2⟩:=z8c (x:=xx) hb hf hd hz (q3j hT) hw1 hw2 hw3 (hfl _ _ _ _ _ _ _ _ hy) hr hrd hp hcon h;exact fin (by rw[hev];exact h1) h2
   ·cases h
  ·cases h
 ·rename_i k t hy;obtain⟨g,cur,T',⟨hg,hat⟩,hev,hh,hty,hsz⟩:=qo hf hc hy;split at h
  ·rename_i hT;split at h
   ·rename_i xv own dep hx;obtain⟨y',hx1,hx2⟩:=uF.1 hx;obtain⟨vs,hp,hcon⟩:=q2u hx2 (qo hf hc hx1);obtain⟨w',h1,h2⟩:=z8x hb hf hd hz (q3j hT) hg hat hh hty hsz hp hcon h;exact fin (by rw[hev];exact h1) h2
   ·cases h
  ·cases h
 ·rename_i k T' y' hy;obtain⟨g,u,⟨hg,-⟩,hev,hh,-⟩:=qo hf hc hy;split at h
  ·rename_i hT;have hT:=gnN hT;subst hT;split at h
   ·rename_i x' hx;split at h
    ·rename_i K V hT;obtain⟨w',h1,h2⟩:=z8d hb hf hd hz hT hg hh (qo hf hc hx) h;exact fin (by rw[hev];exact h1) h2
    ·obtain⟨h1,h2⟩:=z83 hb hf hd hz hg hh (qo hf hc hx) h;exact fin (by rw[hev];exact h1) h2
   ·cases h
  ·cases h
 ·rename_i k T' n y' hy;obtain⟨g,u,⟨hg,-⟩,hev,hh,hn,-⟩:=qo hf hc hy;split at h
  ·rename_i hT;have hT:=gnN hT;subst hT;split at h
   ·rename_i E xs dep hx;obtain⟨w',h1,h2⟩:=z96 hb hf hd hz hg hh hn (qo hf hc hx) h;exact fin (by rw[hev];exact h1) h2
   ·cases h
  ·cases h
 ·cases h
end
end
variable{o:Obj}{g pin:Option Nat}{P':Nat}{va zv:Value}{news:List Value}
section
theorem qsc{w:World}{F:Nat→Prop}{b o:Nat}:∀(l:List D)(i:Nat),RdE w F l te (some ⟨b,o,none⟩) i→∃news:List Value,news.length=l.length * te.w∧(∀j u,news[j]? =some u→w.cell? ⟨b,o+i * te.w+j,none⟩=some u)∧One news∧
  ∀j(h:j<l.length),Rd w F l[j] te ((news.drop (j * te.w)).take te.w)
 |[],i,_=>⟨[],by simp,fun j u h=>by simp at h,fun c hc=>(by cases hc),fun j h=>by simp at h⟩
 | d :: l, i, ⟨⟨b', o', vs, e, hF, hr, hd⟩, h2⟩ => by
  injection e with e;injection e with e1 e2;subst e1 e2;obtain⟨news,n1,n2,n3,n4⟩:=qsc l (i+1) h2;obtain⟨hl,hone⟩:=Rd.len d hd;refine⟨vs++news,by simp[n1,hl,uN];omega,fun j u hj=>?_,fun c hc=>?_,fun j hj=>?_⟩
  ·by_cases hjl:j<vs.length
   ·rw[uG hjl] at hj;exact hr j u hj
   ·rw[uD (by omega)] at hj;have:=n2 _ u hj;rw[show o+i * te.w+j=o+(i+1) * te.w+(j - vs.length) by rw[uN];omega];exact this
  ·rcases vT.1 hc with h|h
   ·exact hone c h
   ·exact n3 c h
  ·cases j with
   |zero=>
    simp only[vJ,vW,List.getElem_cons_zero];rw[←hl,vU];exact hd
   |succ j=>
    have:=n4 j (by simpa using hj);rw[show(j+1) * te.w=vs.length+j * te.w by rw[uN];omega,vQ,kR (by omega),kJ];simpa using this
section
variable{A:Nat→Prop}{F:Flr}{p:qj}{w w0:World}{S0:Nat→Prop}
theorem qjc{k:Nat}(h:k<w.heap.size):(w.drew.alloc o).heap[k]? =w.heap[k]? :=by
 rw[hget,if_neg (by show ¬k=w.heap.size;omega)];rfl
theorem qjz:(w.drew.alloc o).heap[w.heap.size]? =some o:=by
 rw[hget,if_pos (by rfl)]
theorem qfz:(w.drew.alloc o).heap.size=w.heap.size+1:=by
 rw[hsize];rfl
def z1u(p:qj)(pin:Option Nat)(P':Nat)(g:Option Nat):qj:=fun y=>if y=P' then g else if some y=pin then none else p y
theorem qhl:z1u p pin P' g P'=g:=if_pos rfl
theorem qjx{y:Nat}(h1:y≠P')(h2:some y≠pin):z1u p pin P' g y=p y:=by unfold z1u;rw[if_neg h1,if_neg h2]
theorem q0g{y b:Nat}(h:z1u p pin P' g y=some b):(y=P'∧g=some b)∨(y≠P'∧some y≠pin∧p y=some b):=by
 unfold z1u at h;split at h
 ·rename_i e;exact .inl ⟨e,h⟩
 ·rename_i e;split at h
  ·cases h
  ·rename_i e2;exact .inr ⟨e,e2,h⟩
def qli(pin:Option Nat)(P':Nat):Nat→Bool:=fun y=>uB y P'||(match pin with|some x=>uB y x|none=>false)
theorem qrm{y:Nat}(h:qli pin P' y=false):y≠P'∧some y≠pin:=by
 unfold qli at h;simp only[uX] at h;refine⟨fun e=>by subst e;simp at h,fun e=>?_⟩;subst e;simp at h
structure AppOut(A:Nat→Prop)(F:Flr)(w0:World)(S0:Nat→Prop)(p:qj)(w:World)(pin:Option Nat)(P':Nat)(E:TypeId)(te:Ty)(n:Nat)(news:List Value)(m:Nat)(v':Value)(p':qj)(w':World):Prop where
 bs:Bs A F w0 S0 p' w'
 stab:Stab A (qli pin P') (qli pin P') p w p' w'
 res:(v'=.slice none 0 0∧n+m=0)∨∃g' cap' cur',v'=.slice (some ⟨g',0,none⟩) (n+m) cap'∧p' P'=some g'∧w'.heap[g']? =some (.cells cur' E (0,0))∧n+m≤cap'∧cap'≤maxLen∧cur'.size=cap' * te.w∧
  (∀j u,news[j]? =some u→cur'[n * te.w+j]? =some u)∧(0<n→∃x g cur,pin=some x∧p x=some g∧w.heap[g]? =some (.cells cur E (0,0))∧∀j,j<n * te.w→cur'[j]? =cur[j]?)
 old:∀x g,pin=some x→p x=some g→(A g∧q7h p' g∧w'.heap[g]? =w.heap[g]?)∨(p' P'=some g∧∀cur,w.heap[g]? =some (.cells cur E (0,0))→∃cur',w'.heap[g]? =some (.cells cur' E (0,0))∧∀j,j<n * te.w→cur'[j]? =cur[j]?)
theorem z9q(hb:Bs A F w0 S0 p w)(hP:∀b,p P'=some b→pin=some P')(cs:Array Value)(E:TypeId):
  Bs A F w0 S0 (z1u p pin P' (some w.heap.size)) (w.drew.alloc (.cells cs E))∧Stab A (qli pin P') (qli pin P') p w (z1u p pin P' (some w.heap.size)) (w.drew.alloc (.cells cs E)):=by
 have hsz:w0.heap.size≤w.heap.size:=hb.but.size;have hheap:∀k,k<w.heap.size→(w.drew.alloc (.cells cs E)).heap[k]? =w.heap[k]? :=fun k hk=>qjc hk;constructor
 ·refine⟨fun y z b hy hz=>?_,fun y b hy=>?_,hb.but.drew.alloc _,fun y b hy=>?_,hb.new,fun y b hy=>?_,fun y b hy=>?_,hb.flo.same fun k hk _=>hheap k hk⟩
  ·rcases q0g hy with⟨rfl,e1⟩|⟨h1,h2,h3⟩
   ·injection e1 with e1;subst e1;rcases q0g hz with⟨rfl,e2⟩|⟨h4,h5,h6⟩
    ·rfl
    ·have:=hb.bd z _ h6;omega
   ·rcases q0g hz with⟨rfl,e2⟩|⟨h4,h5,h6⟩
    ·injection e2 with e2;subst e2;have:=hb.bd y _ h3;omega
    ·exact hb.inj y z b h3 h6
  ·rcases q0g hy with⟨rfl,e1⟩|⟨h1,h2,h3⟩
   ·injection e1 with e1;subst e1;rw[qfz];omega
   ·have:=hb.bd y b h3;rw[qfz];omega
  ·rcases q0g hy with⟨rfl,e1⟩|⟨h1,h2,h3⟩
   ·injection e1 with e1;exact .inr (by omega)
   ·exact hb.pin y b h3
  ·rcases q0g hy with⟨rfl,e1⟩|⟨h1,h2,h3⟩
   ·injection e1 with e1;exact(hb.new b (by omega)).1
   ·exact hb.pa y b h3
  ·rcases q0g hy with⟨rfl,e1⟩|⟨h1,h2,h3⟩
   ·injection e1 with e1;subst e1;exact .inl ⟨cs,E,qjz⟩
   ·exact(hb.obj y b h3).same (hheap b (hb.bd y b h3))
 ·refine⟨by rw[qfz];omega,fun b hlt ha hf=>⟨hheap b hlt,fun y hy=>?_⟩,fun y b hz hy=>?_,fun y b hz hy=>hheap b (hb.bd y b hy)⟩
  ·rcases q0g hy with⟨rfl,e1⟩|⟨h1,h2,h3⟩
   ·injection e1 with e1;omega
   ·exact hf y h3
  ·obtain⟨h1,h2⟩:=qrm hz;rw[qjx h1 h2];exact hy
theorem z4a (hT : qm T = some (.row E)) (hte : qm E = some te) {i : TypeInfo} (hi : uA.info? E = some i) (hsz : i.size = te.w) (hzl : zv.cells.size = te.w) (hb : Bs A F w0 S0 p w) (hP : ∀ b, p P' = some b → pin = some P') {n : Nat} (hfl : ∀ x, pin = some x → F.mx te ≤ n)
    (hva:(va=.slice none 0 0∧n=0)∨∃x g cap cur,pin=some x∧va=.slice (some ⟨g,0,none⟩) n cap∧p x=some g∧w.heap[g]? =some (.cells cur E (0,0))∧n≤cap∧cap≤maxLen∧cur.size=cap * te.w)
    (hl:news.length=m * te.w)(hmx:n+m≤maxLen){R:Value→World→Prop}
    (R0:va=.slice none 0 0→m=0→R (.slice none 0 0) w)
    (R1:va=.slice none 0 0→m≠0→R (.slice (some ⟨w.heap.size,0,none⟩) m (grownCap w m 0 E)) (w.drew.alloc (.cells (news.toArray++uI zv.cells (grownCap w m 0 E - m)) E)))
    (R2:∀x g cap cur,pin=some x→va=.slice (some ⟨g,0,none⟩) n cap→p x=some g→w.heap[g]? =some (.cells cur E (0,0))→n≤cap→cap≤maxLen→cur.size=cap * te.w→n+m≤cap→R (.slice (some ⟨g,0,none⟩) (n+m) cap) (w.setRow g (cur.toList.take (n * te.w)++news++cur.toList.drop (n * te.w+news.length)).toArray))
    (R3:∀x g cap cur,pin=some x→va=.slice (some ⟨g,0,none⟩) n cap→p x=some g→w.heap[g]? =some (.cells cur E (0,0))→n≤cap→cap≤maxLen→cur.size=cap * te.w→¬n+m≤cap→R (.slice (some ⟨w.heap.size,0,none⟩) (n+m) (grownCap w (n+m) cap E)) (w.drew.alloc (.cells ((cur.toList.take (n * te.w)).toArray++news.toArray++uI zv.cells (grownCap w (n+m) cap E - (n+m))) E))):
    ∃v' p' w',R v' w'∧AppOut A F w0 S0 p w pin P' E te n news m v' p' w':=by
  rcases hva with⟨rfl,rfl⟩|⟨x,g,cap,cur,rfl,rfl,hg,hh,q1,q2,q3⟩
  · by_cases hm:m=0
    · subst hm;have hn0:news=[]:=uR (by simpa using hl);subst hn0;refine⟨.slice none 0 0,z1u p pin P' none,w,?_,?_⟩
      · exact R0 rfl rfl
      · refine⟨⟨fun y z b hy hz=>?_,fun y b hy=>?_,hb.but,fun y b hy=>?_,hb.new,fun y b hy=>?_,fun y b hy=>?_,hb.flo⟩,⟨vC _,fun b hlt ha hf=>⟨rfl,fun y hy=>?_⟩,fun y b hz hy=>?_,fun y b hz hy=>rfl⟩,.inl ⟨rfl,rfl⟩,fun x g hx hg=>.inl ⟨hb.pa x g hg,fun y hy=>?_,rfl⟩⟩
        all_goals first
          | (rcases q0g hy with ⟨-, e⟩ | ⟨a1, a2, a3⟩
             · cases e
             · first
               |exact hb.bd y b a3
               |exact hb.pin y b a3
               |exact hb.pa y b a3
               |exact hb.obj y b a3
               |exact hf y a3
               | (rcases q0g hz with ⟨-, e⟩ | ⟨b1, b2, b3⟩
                  · cases e
                  · exact hb.inj y z b a3 b3)
               |(have:=hb.inj y x g a3 hg;subst this;exact a2 hx.symm))
          |(obtain⟨z1,z2⟩:=qrm hz;rw[qjx z1 z2];exact hy)
    · have hr:=R1 rfl hm;have hge:=grownCap_ge w m 0 E;have hcm:=grownCap_le_maxLen w m 0 E (by omega);obtain⟨n1,n2⟩:=z9q hb hP (news.toArray++uI zv.cells (grownCap w m 0 E - m)) E;refine⟨_,_,_,hr,n1,n2,.inr ⟨w.heap.size,_,_,by rw[uO],qhl,qjz,by omega,hcm,?_,fun j u hj=>?_,fun h0=>absurd h0 (by omega)⟩,fun x g hx hg=>.inl ⟨hb.pa x g hg,fun y hy=>?_,qjc (hb.bd x g hg)⟩⟩
      · simp only[kO,uP,size_zeroCells,hzl,hl,←uN]
        congr 1
        omega
      · have hlt:=(gnH.1 hj).1;rw[vJ,uO,kI (by simpa using hlt)];simpa using hj
      · rcases q0g hy with⟨-,e⟩|⟨a1,a2,a3⟩
        · injection e with e;have:=hb.bd x g hg;omega
        · have:=hb.inj y x g a3 hg;subst this;exact a2 hx.symm
  · by_cases hroom:n+m≤cap
    · have hfit:n * i.size+news.length≤cur.size:=by rw[hsz,hl,q3,←uN];exact uC _ hroom
      have hr:=R2 x g cap cur rfl rfl hg hh q1 q2 q3 hroom;rw[hsz] at hfit;have hcl:(cur.toList.take (n * te.w)).length=n * te.w:=by rw[kE,uY];omega
      have hsize:(cur.toList.take (n * te.w)++news++cur.toList.drop (n * te.w+news.length)).toArray.size=cur.size:=by simp;omega
      have hold:∀j,j<n * te.w→(cur.toList.take (n * te.w)++news++cur.toList.drop (n * te.w+news.length)).toArray[j]? =cur[j]? :=fun j hj=>by
        rw[kA,vO,uG (by omega),uE hj,uH]
      have hheap:=setRow_heap w g cur (cur.toList.take (n * te.w)++news++cur.toList.drop (n * te.w+news.length)).toArray E (0,0) hh;have hbs:=q8c hb hg (FlW.above hb.flo hh hte (uC _ (hfl _ rfl)) hsize hold)
      refine⟨_,z1u p (some x) P' (some g),_,hr,⟨fun y z b hy hz=>?_,fun y b hy=>?_,hbs.but,fun y b hy=>?_,hb.new,fun y b hy=>?_,fun y b hy=>?_,hbs.flo⟩,⟨by simp,fun b hlt ha hf=>⟨setRow_other w g b _ (fun e=>hf x (by rw[e];exact hg)),fun y hy=>?_⟩,fun y b hz hy=>?_,fun y b hz hy=>?_⟩,
        .inr ⟨g,cap,_,rfl,qhl,hheap,hroom,q2,by rw[hsize];exact q3,fun j u hj=>?_,fun _=>⟨x,g,cur,rfl,hg,hh,hold⟩⟩,fun x' g' hx hg'=>?_⟩
      · rcases q0g hy with⟨rfl,e1⟩|⟨a1,a2,a3⟩
        · injection e1 with e1;subst e1;rcases q0g hz with⟨rfl,e2⟩|⟨b1,b2,b3⟩
          · rfl
          · exact absurd (congrArg some (hb.inj z x _ b3 hg)) b2
        · rcases q0g hz with⟨rfl,e2⟩|⟨b1,b2,b3⟩
          · injection e2 with e2;subst e2;exact absurd (congrArg some (hb.inj y x _ a3 hg)) a2
          · exact hb.inj y z b a3 b3
      · rcases q0g hy with⟨rfl,e1⟩|⟨a1,a2,a3⟩
        · injection e1 with e1;subst e1;simpa using hb.bd x _ hg
        · simpa using hb.bd y b a3
      · rcases q0g hy with⟨rfl,e1⟩|⟨a1,a2,a3⟩
        · injection e1 with e1;subst e1;exact hb.pin x _ hg
        · exact hb.pin y b a3
      · rcases q0g hy with⟨rfl,e1⟩|⟨a1,a2,a3⟩
        · injection e1 with e1;subst e1;exact hb.pa x _ hg
        · exact hb.pa y b a3
      · rcases q0g hy with⟨rfl,e1⟩|⟨a1,a2,a3⟩
        · injection e1 with e1;subst e1;exact hbs.obj x _ hg
        · exact hbs.obj y b a3
      · rcases q0g hy with⟨rfl,e1⟩|⟨a1,a2,a3⟩
        · injection e1 with e1;subst e1;exact hf x hg
        · exact hf y a3
      · obtain⟨z1,z2⟩:=qrm hz;rw[qjx z1 z2];exact hy
      · obtain⟨z1,z2⟩:=qrm hz;refine setRow_other w g b _ fun e=>?_;subst e;exact z2 (congrArg some (hb.inj y x b hy hg))
      · have hlt:=(gnH.1 hj).1;rw[kA,vO,uD (by omega),hcl,kJ,uG hlt];exact hj
      · injection hx with hx;subst hx;obtain rfl:=gnI (hg'.symm.trans hg);refine .inr ⟨qhl,fun cur' hc=>?_⟩;rw[hh] at hc;injection hc with hc;injection hc with hc1 hc2;subst hc1;exact⟨_,hheap,hold⟩
    · have hnw:n * te.w≤cur.size:=by rw[q3];exact uC _ q1
      have holdl:(cur.toList.take (n * te.w)).length=n * i.size:=by rw[hsz,kE,uY];omega
      have holds:∀j u,(cur.toList.take (n * te.w))[j]? =some u→w.cell? ((⟨g,0,none⟩:Addr).add j)=some u:=fun j u hj=>by
        have hjl:=(gnH.1 hj).1;rw[Addr.mid_eq,uO,cell_of_row w g j cur E (0,0) hh,←uH];rw[uE (by simp at hjl;omega)] at hj;exact hj
      have hr:=R3 x g cap cur rfl rfl hg hh q1 q2 q3 hroom;have hge:=grownCap_ge w (n+m) cap E;have hcm:=grownCap_le_maxLen w (n+m) cap E hmx;obtain⟨n1,n2⟩:=z9q hb hP ((cur.toList.take (n * te.w)).toArray++news.toArray++uI zv.cells (grownCap w (n+m) cap E - (n+m))) E;refine⟨_,_,_,hr,n1,n2,.inr ⟨w.heap.size,_,_,rfl,qhl,qjz,hge,hcm,?_,fun j u hj=>?_,fun _=>⟨x,g,cur,rfl,hg,hh,fun j hj=>?_⟩⟩,fun x' g' hx hg'=>.inl ⟨hb.pa x' g' hg',fun y hy=>?_,qjc (hb.bd x' g' hg')⟩⟩
      · rw[hsz] at holdl;simp only[kO,uP,size_zeroCells,hzl,hl,holdl,←uN]
        congr 1
        omega
      · have hlt:=(gnH.1 hj).1;rw[hsz] at holdl;rw[kI (by rw[kO,uP,uP,holdl];omega),Array.getElem?_append_right (by rw[uP,holdl];omega)];simp only[uP,holdl,kJ];simpa using hj
      · rw[hsz] at holdl;rw[kI (by rw[kO,uP,uP,holdl];omega),kI (by rw[uP,holdl];omega),kA,uE hj,uH]
      · injection hx with hx;subst hx;rcases q0g hy with⟨-,e⟩|⟨a1,a2,a3⟩
        · injection e with e;have:=hb.bd _ g' hg';omega
        · have:=hb.inj y _ g' a3 hg';subst this;exact a2 rfl
theorem zar(hT:qm T=some (.row E))(hte:qm E=some te)(hb:Bs A F w0 S0 p w)(hP:∀b,p P'=some b→pin=some P'){n cb:Nat}(hfl:∀x,pin=some x→F.mx te≤n)
  (hva:(va=.slice none 0 0∧n=0)∨∃x g cap cur,pin=some x∧va=.slice (some ⟨g,0,none⟩) n cap∧p x=some g∧w.heap[g]? =some (.cells cur E (0,0))∧n≤cap∧cap≤maxLen∧cur.size=cap * te.w)
  {Ab:Option Addr}(hl:news.length=m * te.w)(hnews:∀ad,Ab=some ad→∀j u,news[j]? =some u→w.cell? (ad.add j)=some u)(hAb:Ab=none→m=0)(h1:One news)(hsm:n+m≤LM te)(ty:TypeId):
  ∃v' p' w',(uL #[T,T] ty #[va,.slice Ab m cb]).run uA w=.ok v' w'∧AppOut A F w0 S0 p w pin P' E te n news m v' p' w':=by
 obtain⟨i,hi,hsz,hpos,hby⟩:=q47 hte;obtain⟨hu,-,-⟩:=q23 hT;obtain⟨zv,zvs,hzr,hzp,-,hzl0,hzc⟩:=qh6 hte w (fun _=>True);have hz:i.zero=some zv:=by
  have:=hzr;simp only[zeroValue,typeInfo,uZ,run_program,hi,uJ,kD] at this;cases hzz:i.zero with
  |none=>rw[hzz] at this;simp[unsupported,kM] at this
  |some v=>rw[hzz] at this;simp at this;rw[this]
 have hzl:zv.cells.size=te.w:=by rw[hzc];simpa using hzl0
 have hbytes:(n+m) * i.bytes≤140737488355328:=by
  rw[qof hte hi];have h1:(n+m) * te.by≤LM te * te.by:=uC _ hsm;have h2:LM te * te.by≤LIM:=vL _ _;have h3:LIM≤140737488355328:=by decide
  omega
 have hsm':n+m≤LIM:=vA hsm (za3 _);have hsm2:n+m≤140737488351232:=hsm';have hmx:n+m≤maxLen:=by unfold maxLen;omega
 have h63:((n+m:Nat):Int)≤9223372036854775807:=by omega
 refine z4a hT hte hi hsz hzl hb hP hfl hva hl hmx (R:=fun v' w'=>(uL #[T,T] ty #[va,.slice Ab m cb]).run uA w=.ok v' w') (fun e hm=>?_) (fun e hm=>?_) (fun x g cap cur _ e hg hh q1 q2 q3 hroom=>?_) (fun x g cap cur _ e hg hh q1 q2 q3 hroom=>?_)
 ·subst e hm;cases Ab with
  |none=>simp[uL,run_underlying hu,sizeOf,typeInfo,hi,vE,kU]
  |some ad=>simp[uL,run_underlying hu,sizeOf,typeInfo,hi,vE,kU,loadCells,loadCellsFrom]
 ·subst e;cases Ab with
  |none=>exact absurd (hAb rfl) hm
  | some ad =>
   have hn0:n=0:=by
    rcases hva with⟨-,h⟩|⟨x,g,cap,cur,-,h,-⟩
    ·exact h
    ·cases h
   subst hn0;exact run_append_nil (P:=uA) w T ty E i zv hu hi hz ad m cb news (by rw[hl,hsz]) (hnews ad rfl) (by omega) (by omega) (by have hb:=hbytes;simp only[uO] at hb;omega)
 ·subst e;cases Ab with
  | none =>
   have hm:=hAb rfl;subst hm;have hn0:news=[]:=uR (by simpa using hl);subst hn0;have:(cur.toList.take (n * te.w)++[]++cur.toList.drop (n * te.w+([]:List Value).length)).toArray=cur:=by
    apply kQ;simp
   rw[this,setRow_self w g cur E (0,0) hh];simp[uL,run_underlying hu,sizeOf,typeInfo,hi,vE,kU,q1,storeCells]
  |some ad=>
   have hfit:n * i.size+news.length≤cur.size:=by rw[hsz,hl,q3,←uN];exact uC _ hroom
   have hr:=run_append_room (P:=uA) w T ty E i hu hi g n cap cur hh ad m cb news (by rw[hl,hsz]) (hnews ad rfl) h1 hroom hfit;rw[hsz] at hr;exact hr
 ·subst e;cases Ab with
  |none=>have:=hAb rfl;omega
  | some ad =>
   have holdl:(cur.toList.take (n * te.w)).length=n * i.size:=by
    have:n * te.w≤cur.size:=by rw[q3];exact uC _ q1
    rw[hsz,kE,uY];omega
   have holds:∀j u,(cur.toList.take (n * te.w))[j]? =some u→w.cell? ((⟨g,0,none⟩:Addr).add j)=some u:=fun j u hj=>by
    have hjl:=(gnH.1 hj).1;rw[Addr.mid_eq,uO,cell_of_row w g j cur E (0,0) hh,←uH];rw[uE (by simp at hjl;omega)] at hj;exact hj
   exact run_append_grow (P:=uA) w T ty E i zv hu hi hz ⟨g,0,none⟩ n cap (cur.toList.take (n * te.w)) holdl holds ad m cb news (by rw[hl,hsz]) (hnews ad rfl) (by omega) h63 (growslice_fits (by omega) hbytes)
theorem zhx{TI:TypeId}(hT:qm T=some (.row E))(hte:qm E=some te)(hTI:qm TI=some (.int .i64))(hb:Bs A F w0 S0 p w)(hP:∀b,p P'=some b→pin=some P'){n:Nat}(hfl:∀x,pin=some x→F.mx te≤n)
  (hva:(va=.slice none 0 0∧n=0)∨∃x g cap cur,pin=some x∧va=.slice (some ⟨g,0,none⟩) n cap∧p x=some g∧w.heap[g]? =some (.cells cur E (0,0))∧n≤cap∧cap≤maxLen∧cur.size=cap * te.w)
  (hzv:(zeroValue E).run uA w=.ok zv w)(hzl:zv.cells.size=te.w)(hone:One zv.cells.toList)(hsm:n+m≤LM te)(hm16:m≤16777216)(ty:TypeId):
  ∃v' p' w',(uL #[T,TI] ty #[va,.int .i64 m]).run uA w=.ok v' w'∧AppOut A F w0 S0 p w pin P' E te n (uI zv.cells m).toList m v' p' w':=by
 obtain⟨i,hi,hsz,hpos,hby⟩:=q47 hte;obtain⟨hu,-,-⟩:=q23 hT;obtain⟨huI,-⟩:=q4q hTI;have hz:i.zero=some zv:=by
  have:=hzv;simp only[zeroValue,typeInfo,uZ,run_program,hi,uJ,kD] at this;cases hzz:i.zero with
  |none=>rw[hzz] at this;simp[unsupported,kM] at this
  |some v=>rw[hzz] at this;simp at this;rw[this]
 have hbytes:(n+m) * i.bytes≤140737488355328:=by
  rw[qof hte hi];have h1:(n+m) * te.by≤LM te * te.by:=uC _ hsm;have h2:LM te * te.by≤LIM:=vL _ _;have h3:LIM≤140737488355328:=by decide
  omega
 have hsm':n+m≤LIM:=vA hsm (za3 _);have hsm2:n+m≤140737488351232:=hsm';have hmb:m * i.bytes≤140737488355328:=vA (uC _ (Nat.le_add_left m n)) hbytes;have hmx:n+m≤maxLen:=by unfold maxLen;omega
 have h63:¬(9223372036854775807<((n:Int)+(m:Int))):=by omega
 have hl:(uI zv.cells m).toList.length=m * te.w:=by rw[uY,size_zeroCells,hzl]
 have hwrap:IntKind.i64.wrap (m:Int)=(m:Int):=qc2 (by unfold ji;rw[gnB];exact⟨decide_eq_true (by omega),decide_eq_true (by omega)⟩);have hneg:¬((m:Int)<0):=by omega
 have hbig:¬(281474976710656<(m:Int) * (i.bytes:Int)):=by
  have h1:((m * i.bytes:Nat):Int)≤((140737488355328:Nat):Int):=Int.ofNat_le.2 hmb;rw[Int.natCast_mul] at h1;omega
 have hposi:¬(m * i.size=0)∨m=0:=by
  rcases vM m with h|h
  ·exact .inr h
  ·exact .inl (Nat.ne_of_gt (jC h (by omega)))
 refine z4a hT hte hi hsz hzl hb hP hfl hva hl hmx (R:=fun v' w'=>(uL #[T,TI] ty #[va,.int .i64 m]).run uA w=.ok v' w') (fun e hm=>?_) (fun e hm=>?_) (fun x g cap cur _ e hg hh q1 q2 q3 hroom=>?_) (fun x g cap cur _ e hg hh q1 q2 q3 hroom=>?_)
 ·subst e hm;have hw0:IntKind.i64.wrap 0=0:=rfl;simp[uL,run_underlying hu,run_underlying huI,sizeOf,typeInfo,hi,asInt,asIntOf,hw0]
 ·subst e;have hn0:n=0:=by
   rcases hva with⟨-,h⟩|⟨x,g,cap,cur,-,h,-⟩
   ·exact h
   ·cases h
  subst hn0;have h48:¬(281474976710656<vG m 0 * i.bytes):=by rw[nextslicecap_zero (by omega)];omega
  have h63':¬(9223372036854775807<(m:Int)):=by omega
  have hposi:=hposi.resolve_right hm;simp[uL,run_underlying hu,run_underlying huI,sizeOf,typeInfo,zeroValue,hi,hz,asInt,asIntOf,hwrap,hneg,hbig,hm,hposi,h63',h48,Question.forced,run_firstCells_none,newRow,grownCap]
 ·subst e;have hfit:n * te.w+m * te.w≤cur.size:=by rw[q3,←uN];exact uC _ hroom
  have hst:=run_storeCells_at uA g (n * te.w) E (uI zv.cells m).toList 0 cur w hh (by rw[hl];omega) (fun v hv=>by
   simp only[uI,Array.toList_map,kF,Array.toList_range,vV] at hv;obtain⟨j,hj,rfl⟩:=hv;have hmod:j % zv.cells.size<zv.cells.size:=jD _ (by
    rcases vM zv.cells.size with h|h
    ·rw[h] at hj;simp at hj
    ·exact h)
   rw[getElem!_pos zv.cells _ hmod];exact hone _ (by simp))
  simp only[vB] at hst;by_cases hm:m=0
  ·subst hm;have e0:uI zv.cells 0= #[]:=by simp[uI]
   rw[e0] at hst⊢;have:(cur.toList.take (n * te.w)++(#[]:Array Value).toList++cur.toList.drop (n * te.w+(#[]:Array Value).toList.length)).toArray=cur:=by
    apply kQ;simp
   rw[this,setRow_self w g cur E (0,0) hh];have hw0:IntKind.i64.wrap 0=0:=rfl;simp[uL,run_underlying hu,run_underlying huI,sizeOf,typeInfo,hi,asInt,asIntOf,hw0,q1,storeCells]
  ·have hposi:=hposi.resolve_right hm;have hadd:(⟨g,0,none⟩:Addr).add (n * i.size)=⟨g,n * te.w,none⟩:=by rw[Addr.mid_eq,hsz,uO]
   simp[uL,run_underlying hu,run_underlying huI,sizeOf,typeInfo,zeroValue,hi,hz,asInt,asIntOf,hwrap,hneg,hbig,hm,hposi,hroom,hadd,hst]
 ·subst e;have hm:m≠0:=by omega
  have hposi:=hposi.resolve_right hm;have holdl:(cur.toList.take (n * te.w)).length=n * i.size:=by
   have:n * te.w≤cur.size:=by rw[q3];exact uC _ q1
   rw[hsz,kE,uY];omega
  have holds:∀j u,(cur.toList.take (n * te.w))[j]? =some u→w.cell? ((⟨g,0,none⟩:Addr).add j)=some u:=fun j u hj=>by
   have hjl:=(gnH.1 hj).1;rw[Addr.mid_eq,uO,cell_of_row w g j cur E (0,0) hh,←uH];rw[uE (by simp at hjl;omega)] at hj;exact hj
  have hfo:=run_firstCells_some (P:=uA) w.drew i.size n ⟨g,0,none⟩ n cap (cur.toList.take (n * te.w)) holdl (by simpa using holds);have h48:¬(281474976710656<vG (n+m) cap * i.bytes):=by
   have:=growslice_fits (need:=n+m) (old:=cap) (bytes:=i.bytes) (by omega) hbytes;omega
  simp[uL,run_underlying hu,run_underlying huI,sizeOf,typeInfo,zeroValue,hi,hz,asInt,asIntOf,hwrap,hneg,hbig,hm,hposi,hroom,h63,h48,Question.forced,hfo,newRow,grownCap]
end
end
variable{v':Value}{xa:X}
section
def zld:X→X→X
 |.row l,.row m=>.row (l++m)
 |.lit (.r []),.row m=>.row m
 |x,y=>.app x y
def zf1(pin P':Nat)(xa x:X)(t:Ty)(own:List (Nat×Nat))(dep:List Nat):Option (List (Nat×Nat)×List Nat):=
  if zs dep pin||(zs dep P'|| !q5u own) then none else match own.filter fun e=>uB e.2 pin with
    |[]=>if zs (own.map (·.2)) P' then none else some (own,dep)
    | [(j, _)] => if zs ((own.filter fun e => e.1 != j).map (·.2)) P' then none else match t with
      |.row _=>if uB j 0&&X.beq x xa then some (own.filter fun e=>e.1 !=j,P'::dep) else none
      | .st S => match flds S with
        | some fs => match fs[j]? with
          |some (.row _)=>if X.beq (.fld x j) xa then some (own.filter fun e=>e.1 !=j,P'::dep) else none
          |_=>none
        |none=>none
      |_=>none
    |_=>none
def q42(pin P':Nat):Nat→Bool:=fun y=>uB y P'||uB y pin
def zix(pin P':Nat)(xa:X):AV→AV
 |.v x t own dep=>match zf1 pin P' xa x t own dep with
  |some (own',dep')=>.v x t own' dep'
  |none=>.any
 |a=>if okA (q42 pin P') (q42 pin P') a then a else .any
def z3n(pin P':Nat)(xa:X):List (Nat×Ent)→List (Nat×Ent)
  |[]=>[]
  | (k, e) :: l => match zf1 pin P' xa e.x e.t e.own e.dep with
    |some (own',dep')=>if q42 pin P' (k * 16) then(z3n pin P' xa l).filter (fun y=>y.1 !=k) else(k,⟨e.x,e.t,own',dep'⟩)::z3n pin P' xa l
    |none=>(z3n pin P' xa l).filter fun y=>y.1 !=k
def zdk(te:Ty):X:=.lit (.i (LM te:Nat))
def zbb:AV→Option (Option Nat)
 |.nilS=>some none
 |.v _ (.row _) [(0,pin)] _=>some (some pin)
 |_=>none
def qd9(te:Ty)(l:List Nat):List Nat:=if zt 8 te then[] else l
def flN(fb:Ty→Option X)(te:Ty)(x:X):List X:=match fb te with
 |some b=>[leX b (qa8 x)]
 |none=>[]
def zhc(c:Cx)(fb:Ty→Option X):Prop:=∀te,match fb te with
 |some b=>c.F.mx te≤(b.ev c.v).int.toNat
 |none=>c.F.mx te=0
theorem zj8{fb:Ty→Option X}(hF:zhc c fb){x:X}(hn:∀n∈flN fb te x,n.says c.v):c.F.mx te≤(x.ev c.v).rs.length:=by
 have h:=hF te;unfold flN at hn;split at hn
 ·rename_i b hb;rw[hb] at h;have h2:=q0c (hn _ uV);rw[q4x] at h2;have h1:c.F.mx te≤(b.ev c.v).int.toNat:=h;have h3:(b.ev c.v).int≤((x.ev c.v).rs.length:Int):=h2;omega
 ·rename_i hb;rw[hb] at h;have h1:c.F.mx te=0:=h;omega
def zav(fb:Ty→Option X)(σ:St)(cs:List (X×Bool))(k:Nat)(T:TypeId)(x y:Operand):Option (List X×St):=match qm T with
 | some (.row E) => match qm E with
  | some te => match (opd σ cs x).bind zbb with
   | some none =>
    let σ1:=σ.un (qs k)
    match(opd σ1 cs y).bind (qit E) with
    |some (xb,ownb,depb)=>
     let dep:=qd9 te (depb)
     if zs dep (k * 16+1) then none else some ([leX (qa8 xb) (zdk te)],⟨q08 (q9w (qli none (k * 16+1)) (qli none (k * 16+1)) σ1.t) k (.v (zld (.lit (.r [])) xb) (.row E) [(0,k * 16+1)] dep),q9x (qli none (k * 16+1)) (qli none (k * 16+1)) σ1.m⟩)
    |none=>none
   | some (some pin) =>
    let σ1:=σ.un fun z=>qs k z&& !Nat.beq z pin
    match(opd σ1 cs x).bind (qit E),(opd σ1 cs y).bind (qit E) with
    | some (xa, [(0, pin')], depa), some (xb, ownb, depb) =>
     let dep:=qd9 te (uni depa depb)
     if uB pin' pin&& !(zs dep pin||zs dep (k * 16+1)) then
      some (leX (z4r (qa8 xa) (qa8 xb)) (zdk te)::flN fb te xa,⟨q08 (σ1.t.map fun e=>(e.1,zix pin (k * 16+1) xa e.2)) k (.v (zld xa xb) (.row E) [(0,k * 16+1)] dep),z3n pin (k * 16+1) xa σ1.m⟩)
     else none
    |_,_=>none
   |none=>none
  |none=>none
 |_=>none
def zob(σ:St)(cs:List (X×Bool))(E:TypeId)(k:Nat)(x:Operand):Option AV:=match opd σ cs x with
 |some .nilS=>some (.v (.lit (.r [])) (.row E) [(0,k * 16+1)] [])
 |r=>r
def z8n(fb:Ty→Option X)(σ:St)(cs:List (X×Bool))(k:Nat)(T T2:TypeId)(x y:Operand):Option (List X×St):=match qm T with
 | some (.row E) => match qm E with
  | some te => match (zob σ cs E k x).bind zbb with
   | some (some pin) =>
    let σ1:=σ.un fun z=>qs k z&& !Nat.beq z pin
    match(zob σ1 cs E k x).bind (qit E),opd σ1 cs y with
    | some (xa, [(0, pin')], depa), some (.v xn (.int .i64) _ _) =>
     let dep:=qd9 te depa
     if uB pin' pin&&(!(zs dep pin||zs dep (k * 16+1))&&(qia T2 (.int .i64)&& !qbm te)) then
      some ([leX (.lit (.i 0)) xn,leX xn (.lit (.i 16777216)),leX (z4r (qa8 xa) xn) (zdk te)]++flN fb te xa,⟨q08 (σ1.t.map fun e=>(e.1,zix pin (k * 16+1) xa e.2)) k (.v (.app xa (.rep xn (qfh te))) (.row E) [(0,k * 16+1)] dep),z3n pin (k * 16+1) xa σ1.m⟩)
     else none
    |_,_=>none
   |_=>none
  |none=>none
 |_=>none
theorem z9v{e:Ev}(x y:X):(zld x y).ev e=.r ((x.ev e).rs++(y.ev e).rs):=by
 unfold zld;split
 ·rename_i l m;have:∀l m:List X,X.evs e (l++m)=X.evs e l++X.evs e m:=by
   intro l m
   induction l with
   |nil=>rfl
   |cons x l ih=>simp[X.evs,ih]
  show D.r (X.evs e (l++m))=_
  rw[this];rfl
 ·rfl
 ·rfl
section
variable{c:Cx}{p p':qj}{w w' w0:World}{S0:Nat→Prop}{a:Act}{σ σ':St}{cs:List (X×Bool)}{o:Oper}{d:List Deferred}{z:Nat}
theorem AppOut.claim{pin:Nat}(hte:qm E=some te){n:Nat}(h:AppOut c.A c.F w0 S0 p w (some pin) P' E te n news m v' p' w')
  (hblk:0<n→∃g cur,p pin=some g∧w.heap[g]? =some (.cells cur E (0,0)))
  (hdep:∀x∈dep,q42 pin P' x=false∧q42 pin P' x=false){E1:TypeId}{te1:Ty}{l:List D}{v:Value}(hte1:qm E1=some te1)(hn:l.length=n)(hv:q32 c.A p w dep pin E1 te1 l v):Rd w' (FFD c.A p' (P'::dep)) (.r l) (.row E1) [v]:=by
 rcases hv with⟨rfl,rfl⟩|⟨g,cap,cur,rfl,hg,hh,h1,h2,h3,h4,h5⟩
 ·exact⟨E1,te1,none,0,rfl,hte1,rfl,by simp,by simp,by simp[maxLen],by simp[RdE]⟩
 ·refine⟨E1,te1,some ⟨g,0,none⟩,cap,rfl,hte1,rfl,h1,h4,h2,q1r.2 fun j hj=>?_⟩;obtain⟨g',cur',hg',hh'⟩:=hblk (by omega);obtain rfl:=gnI (hg'.symm.trans hg);rw[hh] at hh';injection hh' with hh';injection hh' with e1 e2;subst e1 e2;obtain rfl:=gnI (hte1.symm.trans hte);obtain⟨vs,hr,hd⟩:=h5 j hj;have hst:Stab c.A (q42 pin P') (q42 pin P') p w p' w':=h.stab;have hd':Rd w' (FFD c.A p' (P'::dep)) l[j] te1 vs:=(Rd.keeps (hst.kp hdep) _ hd).mono fun b _ hb=>hb.mono fun y hy=>uK _ hy;rcases h.old pin g' rfl hg with⟨ha,hf,he⟩|⟨hP,hc⟩
  ·exact⟨g',0,vs,rfl,.inl ⟨ha,hf⟩,by simpa using qg6 hr he,hd'⟩
  ·obtain⟨cur2,hc1,hc2⟩:=hc cur hh;refine⟨g',0,vs,rfl,.inr ⟨P',uV,hP⟩,?_,hd'⟩;intro i u hi;have:=hr i u hi;rw[cell_of_row w g' _ cur E1 (0,0) hh] at this;rw[show 0+(0+j) * te1.w+i=j * te1.w+i by rw[uO,uO],cell_of_row w' g' _ cur2 E1 (0,0) hc1,hc2 _ ?_]
   ·exact this
   ·have hi':=(gnH.1 hi).1;rw[(Rd.len _ hd).1] at hi';have:=uC te1.w (show j+1≤n by omega);rw[uN] at this;omega
theorem qld{own:List (Nat×Nat)}{i:Nat}:lkA (own.filter fun e=>e.1 !=j) i=if i=j then none else lkA own i:=by
 by_cases h:i=j
 ·subst h;rw[if_pos rfl,zb]
 ·rw[if_neg h,q35 (Ne.symm h)]
theorem zaf{pin:Nat}(hte:qm E=some te){n:Nat}(h:AppOut c.A c.F w0 S0 p w (some pin) P' E te n news m v' p' w')
  (hblk:0<n→∃g cur,p pin=some g∧w.heap[g]? =some (.cells cur E (0,0)))(hn:(xa.ev c.v).rs.length=n)
  {x:X}{t:Ty}{own own':List (Nat×Nat)}{dep':List Nat}(hu:zf1 pin P' xa x t own dep=some (own',dep'))(hc:Con c.A p w (x.ev c.v) t own dep vs):Con c.A p' w' (x.ev c.v) t own' dep' vs:=by
 have two:∀{l:List Nat},zs l pin=false→zs l P'=false→∀y∈l,q42 pin P' y=false∧q42 pin P' y=false:=fun{l}h1 h2 y hy=>by
  have:q42 pin P' y=false:=by
   unfold q42;rw[uX];exact⟨(q43 h2 y hy).1,(q43 h1 y hy).1⟩
  exact⟨this,this⟩
 have hst:Stab c.A (q42 pin P') (q42 pin P') p w p' w':=h.stab;unfold zf1 at hu;split at hu
 ·cases hu
 ·rename_i hok;simp only[kL,uU,not_or,vR,vP] at hok;obtain⟨hd1,hd2,hnd⟩:=hok;have hdep:=two hd1 hd2;split at hu
  ·rename_i hfil;split at hu
   ·cases hu
   ·rename_i hP;simp only[gnS] at hu;obtain⟨rfl,rfl⟩:=hu;refine hc.kept hst hdep (two ?_ (by simpa using hP));cases hq:zs (own.map (·.2)) pin with
    |false=>rfl
    |true=>
     obtain⟨e,he,e1⟩:=kF.1 (yo.1 hq);have:e∈own.filter (fun e=>uB e.2 pin):=kH.2 ⟨he,by rw[e1];simp⟩;rw[hfil] at this;cases this
  ·rename_i j pin' hfil;obtain⟨ho,hne⟩:=filter_one hnd hfil;split at hu
   ·cases hu
   ·rename_i hP;have hP':zs ((own.filter fun e=>e.1 !=j).map (·.2)) P'=false:=by simpa using hP
    have hoth:∀i y,i≠j→lkA own i=some y→q42 pin P' y=false∧q42 pin P' y=false:=fun i y hi hy=>by
     have hm:y∈(own.filter fun e=>e.1 !=j).map (·.2):=kF.2 ⟨(i,y),kH.2 ⟨qx hy,by simpa using hi⟩,rfl⟩;have h2:=(q43 hP' y hm).1;have h1:uB y pin=false:=by
      cases hq:uB y pin with
      |false=>rfl
      |true=>rw[gnN hq] at hy;exact absurd hy (hne i hi)
     have:q42 pin P' y=false:=by
      unfold q42;rw[uX];exact⟨h2,h1⟩
     exact⟨this,this⟩
    split at hu
    ·rename_i E0;split at hu
     ·rename_i hok2;simp only[gnB] at hok2;have hj:=gnN hok2.1;subst hj;have hxx:=X.beq_ok _ _ hok2.2;subst hxx;simp only[gnS] at hu;obtain⟨rfl,rfl⟩:=hu;have hc':Fl c.A p w dep (lkA own 0) (x.ev c.v) (.row E0) vs:=hc;rw[ho] at hc';rcases hc'.symm with⟨K,V,kt,vt,lm,gm,es,clock,em,-⟩|⟨E1,te1,l,v,q1,q2,q3,q4,q5⟩
      ·cases em
      injection q1 with q1;subst q1 q4
      show Fl c.A p' w' (P'::dep) (lkA (own.filter fun e=>e.1 !=0) 0) (x.ev c.v) (.row E0) [v]
      rw[qld,if_pos rfl,q3];exact h.claim hte hblk hdep q2 (by rw[←hn,q3];rfl) q5
     ·cases hu
    ·rename_i S;split at hu
     ·rename_i fs hfs;split at hu
      ·rename_i E0 hj;split at hu
       ·rename_i hok2;have hxx:=X.beq_ok _ _ hok2;simp only[gnS] at hu;obtain⟨rfl,rfl⟩:=hu;obtain⟨fs',ds,hf',hds,hfl⟩:=hc;obtain rfl:=gnI (hf'.symm.trans hfs);refine⟨_,ds,hf',hds,?_⟩
        have key:∀{ds:List D}{k j:Nat}{fs:List Ty}{vs:List Value},Fls c.A p w dep own k ds fs vs→fs[j]? =some (.row E0)→lkA own (k+j)=some pin→(∀i y,i≠k+j→lkA own i=some y→q42 pin P' y=false∧q42 pin P' y=false)→(ds.getD j .u).rs.length=n→
          Fls c.A p' w' (P'::dep) (own.filter fun e=>e.1 !=k+j) k ds fs vs:=by
         intro ds
         induction ds with
         |nil=>rintro k j fs vs⟨h1,h2⟩hj;subst h1;simp at hj
         | cons d ds ih =>
          rintro k j fs vs⟨t,ts,a1,a2,rfl,rfl,h1,h2⟩hj ho' hoth' hlen;cases j with
          | zero =>
           simp at hj;subst hj;rw[vB] at ho'⊢;rw[ho'] at h1;rcases h1.symm with⟨K,V,kt,vt,lm,gm,es,clock,em,-⟩|⟨E1,te1,l,v,q1,q2,q3,q4,q5⟩
           ·cases em
           injection q1 with q1;subst q1 q3 q4;refine⟨_,ts,_,a2,rfl,rfl,?_,?_⟩
           ·rw[qld,if_pos rfl];exact h.claim hte hblk hdep q2 (by simpa[D.rs] using hlen) q5
           ·refine Fls.congr (fun i hi=>by rw[qld,if_neg (by omega)]) (Fls.mono (fun y hy=>uK _ hy) (Fls.kept' hst hdep (fun i y hi hy=>hoth' i y (by omega) hy) h2))
          | succ j =>
           refine⟨t,ts,a1,a2,rfl,rfl,?_,?_⟩
           ·rw[qld,if_neg (by omega)];exact Fl.mono (fun y hy=>uK _ hy) (h1.kept hst hdep fun y hy=>hoth' k y (by omega) hy)
           ·have:=ih (k:=k+1) (j:=j) h2 (by simpa using hj) (by rw[show k+1+j=k+(j+1) by omega];exact ho') (fun i y hi hy=>hoth' i y (by omega) hy) (by simpa using hlen);rw[show k+1+j=k+(j+1) by omega] at this;exact this
        have:=key (k:=0) (j:=j) hfl hj (by rw[uO];exact ho) (fun i y hi hy=>hoth i y (by omega) hy) (by
         have hx:(ds.getD j .u)=xa.ev c.v:=by rw[←hxx];show _=(x.ev c.v).fld j;rw[hds];rfl
         rw[hx];exact hn)
        rw[uO] at this;exact this
       ·cases hu
      ·cases hu
     ·cases hu
    ·cases hu
  ·cases hu
theorem zmx{pin:Nat}{l:List (Nat×Ent)}{k:Nat}{e:Ent}(h:lkA (z3n pin P' xa l) k=some e):
  ∃e0 own' dep',lkA l k=some e0∧zf1 pin P' xa e0.x e0.t e0.own e0.dep=some (own',dep')∧e=⟨e0.x,e0.t,own',dep'⟩∧q42 pin P' (k * 16)=false:=by
 induction l with
 |nil=>cases h
 | cons y l ih =>
  obtain⟨m,y⟩:=y;unfold z3n at h;split at h
  ·rename_i x' dep' hu;split at h
   ·by_cases hm:m=k
    ·subst hm;rw[zb] at h;cases h
    ·rw[q35 hm] at h;rw[qd hm];exact ih h
   ·rename_i hpin;by_cases hm:m=k
    ·subst hm;rw[qa] at h;injection h with h;exact⟨y,x',dep',qa,hu,h.symm,by simpa using hpin⟩
    ·rw[qd hm] at h⊢;exact ih h
  ·by_cases hm:m=k
   ·subst hm;rw[zb] at h;cases h
   ·rw[q35 hm] at h;rw[qd hm];exact ih h
theorem AppOut.own(hte:qm E=some te){la lb:List D}(h:AppOut c.A c.F w0 S0 p w pin P' E te la.length news lb.length v' p' w')(hsm:la.length+lb.length≤LM te)
  (hnl:news.length=lb.length * te.w)(hnews:∀j(h:j<lb.length),Rd w' (FFD c.A p' dep) lb[j] te ((news.drop (j * te.w)).take te.w))
  (hold:∀x g,pin=some x→p x=some g→∀j(h:j<la.length),∃vs,w.rangeAt g (j * te.w) vs∧Rd w' (FFD c.A p' dep) la[j] te vs):q32 c.A p' w' dep P' E te (la++lb) v':=by
 rcases h.res with⟨rfl,h0⟩|⟨g',cap',cur',rfl,hP,hh,h1,h2,h3,h4,h5⟩
 ·have ha:la=[]:=uR (by omega);have hb:lb=[]:=uR (by omega);subst ha hb;exact .inl ⟨rfl,rfl⟩
 ·refine .inr ⟨g',cap',cur',by simp,hP,hh,by simpa using h1,h2,h3,by simp only[kY];omega,fun i hi=>?_⟩;by_cases hia:i<la.length
  ·obtain⟨x,g,cur,hx,hg,hc,hcc⟩:=h5 (by omega);obtain⟨vs,hr,hd⟩:=hold x g hx hg i hia;refine⟨vs,fun j u hj=>?_,by rw[List.getElem_append_left hia];exact hd⟩;have hj':=(gnH.1 hj).1;rw[(Rd.len _ hd).1] at hj';have hlt:i * te.w+j<la.length * te.w:=by
    have:=uC te.w (show i+1≤la.length by omega);rw[uN] at this;omega
   rw[cell_of_row w' g' _ cur' E (0,0) hh,hcc _ hlt];have:=hr j u hj;rw[cell_of_row w g _ cur E (0,0) hc] at this;exact this
  ·have hib:i - la.length<lb.length:=by simp at hi;omega
   refine⟨_,fun j u hj=>?_,by rw[List.getElem_append_right (by omega)];exact hnews (i - la.length) hib⟩;rw[cell_of_row w' g' _ cur' E (0,0) hh];have hj':=(gnH.1 hj).1;simp only[kE] at hj';rw[uE (by omega),kG] at hj;have:=h4 _ u hj;rw[←this]
   congr 1
   have:i * te.w=la.length * te.w+(i - la.length) * te.w:=by rw[←uN];congr 1;omega
   omega
end
end
section
section
variable{c:Cx}{p p':qj}{w w' w0:World}{S0:Nat→Prop}{a:Act}{σ σ':St}{cs:List (X×Bool)}{o:Oper}{d:List Deferred}{z:Nat}
theorem SF.app{pin:Nat}(hte:qm E=some te){n:Nat}(h:AppOut c.A c.F w0 S0 p w (some pin) P' E te n news m v' p' w')
  (hblk:0<n→∃g cur,p pin=some g∧w.heap[g]? =some (.cells cur E (0,0)))(hn:(xa.ev c.v).rs.length=n)(hf:SF c σ p w a):SF c ⟨σ.t.map fun e=>(e.1,zix pin P' xa e.2),z3n pin P' xa σ.m⟩ p' w' a:=by
 have hst:Stab c.A (q42 pin P') (q42 pin P') p w p' w':=h.stab;refine⟨fun t x hx=>?_,fun k e he=>?_⟩
 ·obtain⟨y,hy,rfl⟩:=q8p (f:=zix pin P' xa) hx;obtain⟨v,h1,h2⟩:=hf.t t y hy;refine⟨v,h1,?_⟩;have gen:∀y:AV,y.pd c p w v→(if okA (q42 pin P') (q42 pin P') y then y else AV.any).pd c p' w' v:=fun y hy=>by
   split
   ·rename_i hok;exact AV.kept hst y v (qdv hok).1 (qdv hok).2 hy
   ·trivial
  unfold zix;split
  ·rename_i x t own dep;split
   ·rename_i own' dep' hu;obtain⟨vs,hp,hc⟩:=h2;exact⟨vs,hp,zaf hte h hblk hn hu hc⟩
   ·trivial
  ·exact gen _ h2
 ·obtain⟨e0,own',dep',h1,h2,rfl,h3⟩:=zmx he;obtain⟨g',vs,T,hg',hh,hty,hc⟩:=hf.m k e0 h1;exact⟨g',vs,T,hst.loc _ _ h3 hg',(hst.con _ _ h3 hg').trans hh,hty,zaf hte h hblk hn h2 hc⟩
theorem z94{r:Option Nat}(h:zbb y=some r):(r=none∧y=.nilS)∨∃pin x E dep,r=some pin∧y=.v x (.row E) [(0,pin)] dep:=by
 unfold zbb at h;split at h
 ·injection h with h;exact .inl ⟨h.symm,rfl⟩
 ·injection h with h;exact .inr ⟨_,_,_,_,h.symm,rfl⟩
 ·cases h
theorem za8(hte:qm E=some te){xb:X}{ownb:List (Nat×Nat)}{depb:List Nat}{v:Value}(hcon:Con c.A p w (xb.ev c.v) (.row E) ownb depb [v]):
  ∃Ab capb,v=.slice Ab (xb.ev c.v).rs.length capb∧∃news:List Value,news.length=(xb.ev c.v).rs.length * te.w∧(∀ad,Ab=some ad→∀j u,news[j]? =some u→w.cell? (ad.add j)=some u)∧One news∧(Ab=none→(xb.ev c.v).rs.length=0)∧
   ∀j(h:j<(xb.ev c.v).rs.length),Rd w (FFD c.A p depb) (xb.ev c.v).rs[j] te ((news.drop (j * te.w)).take te.w):=by
 obtain⟨te',Ab,capb,hte',hdb,hevb,q1,q2,q3,hE⟩:=hcon.row;obtain rfl:=gnI (hte'.symm.trans hte)
 -- the elements hang on less than the row
 have hel:∀j(h:j<(xb.ev c.v).rs.length),∃b o cs,Ab=some ⟨b,o,none⟩∧w.rangeAt b (o+j * te'.w) cs∧Rd w (FFD c.A p depb) (xb.ev c.v).rs[j] te' cs:=fun j hj=>by
  have hc0:Fl c.A p w depb (lkA ownb 0) (xb.ev c.v) (.row E) [v]:=hcon;cases ho:lkA ownb 0 with
  | none =>
   rw[ho] at hc0;have hr:Rd w (FFD c.A p depb) (xb.ev c.v) (.row E) [v]:=hc0;rw[hdb] at hr;obtain⟨E',te2,A2,cap2,e1,e2,e3,-,-,-,e4⟩:=hr;injection e1 with e1;subst e1;obtain rfl:=gnI (hte.symm.trans e2);obtain rfl:Ab=A2:=by
    rw[hevb] at e3;injection e3 with e3;injection e3
   obtain⟨b,o,cs,g1,-,g2,g3⟩:=q1r.1 e4 j hj;exact⟨b,o,cs,g1,by simpa using g2,g3⟩
  | some pin =>
   rw[ho] at hc0;rcases hc0.symm with⟨K,V,kt,vt,l,g,es,clock,e1,-⟩|⟨E',te2,l,v2,e1,e2,e3,e4,hv⟩
   ·cases e1
   injection e1 with e1;subst e1;obtain rfl:=gnI (hte.symm.trans e2);injection e4 with e4;subst e4;have hl:(xb.ev c.v).rs=l:=by rw[e3];rfl
   rcases hv with⟨-,hl0⟩|⟨g,cap,cur,e5,-,-,-,-,-,-,e6⟩
   ·rw[hl,hl0] at hj;simp at hj
   ·obtain⟨cs,g2,g3⟩:=e6 j (by rw[←hl];exact hj);rw[hevb] at e5;injection e5 with e5;refine⟨g,0,cs,e5,by simpa using g2,?_⟩;have:(xb.ev c.v).rs[j]=l[j]'(by rw[←hl];exact hj):=by
     congr 1
    rw[this];exact g3
 refine⟨Ab,capb,hevb,?_⟩;by_cases h0:(xb.ev c.v).rs.length=0
 ·refine⟨[],by simp[h0],fun ad _ j u hj=>by simp at hj,fun u hu=>?_,fun _=>h0,fun j hj=>by omega⟩;cases hu
 ·obtain⟨b,oo,vs,rfl,-⟩:=q1r.1 hE 0 (by omega);obtain⟨news,n1,n2,n3,n4⟩:=qsc _ 0 hE;refine⟨news,n1,fun ad e j u hj=>?_,n3,fun e=>?_,fun j hj=>?_⟩
  ·injection e with e;subst e;have:=n2 j u hj;rw[Addr.mid_eq];simpa using this
  ·cases e
  ·obtain⟨b',o',cs,e,g2,g3⟩:=hel j hj;injection e with e;injection e with e1 e2;subst e1 e2;have hlen:=(Rd.len _ g3).1;have:cs=(news.drop (j * te'.w)).take te'.w:=by
    refine kZ fun i=>?_;by_cases hi:i<te'.w
    ·have hjw:j * te'.w+i<news.length:=by
      rw[n1];have:(j+1) * te'.w≤(xb.ev c.v).rs.length * te'.w:=uC _ hj;rw[uN,vK] at this;omega
     have h1:=g2 i _ (gnK (by omega));have h2:=n2 (j * te'.w+i) _ (gnK hjw);rw[uE hi,kG,gnK hjw,gnK (show i<cs.length by omega)];rw[show oo+0 * te'.w+(j * te'.w+i)=oo+j * te'.w+i by omega,h1] at h2;exact h2
    ·rw[kC (by omega),kC (by simp;omega)]
   rw[←this];exact g3
theorem z7z(hb:Bs c.A c.F w0 S0 p w)(hf:SF c σ p w a)(hc:hold c.v cs=true)(hd:a.defers=d)(hz:a.tmps.size=z){k:Nat}(hk:k<z)(hdst:o.dst=some k){x y:Operand}(heq:o.op=.call {callee:=.builtin .append,args:= #[x,y],argTypes:= #[T,T]})
  {ns:List X}{fb:Ty→Option X}(hF:zhc c fb)(h:zav fb σ cs k T x y=some (ns,σ'))(hn:∀n∈ns,n.says c.v):o.wp uA a w (q0f c w0 S0 d z σ') Q:=by
 have fin:∀{v':Value}{w':World},(uL #[T,T] o.type #[a.eval x,a.eval y]).run uA w=.ok v' w'→q0f c w0 S0 d z σ' (a.put (some k) v') w'→o.wp uA a w (q0f c w0 S0 d z σ') Q:=fun{v' w'}hr hp=>by
  have hrun:(execOp a.eval o).run uA w=.ok (.value v') w':=by
   generalize a.eval=r at *;simp[execOp,heq,resolve,invoke,builtin,hr]
  unfold Oper.wp;rw[hrun]
  show q0f c w0 S0 d z σ' (a.put o.dst v') w'
  rw[hdst];exact hp
 have hkq:qs k (k * 16+1)=true:=by
  unfold qs;rw[vN];omega
 unfold zav at h;split at h
 ·rename_i E hT;split at h
  ·rename_i te hte;split at h
   ·-- nil
    rename_i hpin;obtain⟨x',hx1,hx2⟩:=uF.1 hpin;rcases z94 hx2 with⟨-,rfl⟩|⟨pin,xx,E',dep,e,-⟩
    ·have hev:a.eval x=.slice none 0 0:=qo hf hc hx1;simp only at h;split at h
     ·rename_i xb ownb depb hy;split at h
      ·cases h
      rename_i hdepP;simp only[gnS] at h;obtain⟨rfl,rfl⟩:=h;obtain⟨y',hy1,hy2⟩:=uF.1 hy;have hb1:=hb.un (qs k);have hf1:=SF.un (q:=qs k) hb.inj hb.pa hf;have hcon:=q94 hte hy2 (qo hf1 hc hy1);obtain⟨Ab,capb,hevb,news,n1,n2,n3,n4,n5⟩:=za8 hte hcon;have hlim:=q0c (x:=qa8 xb) (y:=zdk te) (hn _ (by simp));rw[q4x] at hlim;have hlim':(xb.ev c.v).rs.length≤LM te:=by
       have:((xb.ev c.v).rs.length:Int)≤(LM te:Nat):=hlim;omega
      have hP:∀b,unP (qs k) p (k * 16+1)=some b→(none:Option Nat)=some (k * 16+1):=fun b hb=>by
       have:=(q2l hb).1;rw[hkq] at this;cases this
      obtain⟨v',p',w',hr,hout⟩:=zar (va:=a.eval x) (pin:=none) (n:=0) hT hte hb1 hP (fun x hx=>by cases hx) (.inl ⟨hev,rfl⟩) n1 n2 n4 n3 (by omega) o.type;rw[←hevb] at hr;refine fin hr ⟨p',hout.bs,?_,hd,by simp only[Act.put,uT];exact hz⟩;have hkeep:=hf1.keep hout.stab;refine hkeep.put (by rw[hz];exact hk) ⟨[v'],rfl,?_⟩;rw[z9v];refine .inl ⟨E,te,_,v',rfl,hte,rfl,rfl,?_⟩;have:=AppOut.own (c:=c) (la:=[]) (lb:=(xb.ev c.v).rs) hte hout (dep:=qd9 te (depb)) (by simpa using hlim') n1 (fun j hj=>?_) (fun x g hx=>by cases hx)
      ·exact this
      ·by_cases hfl:zt 8 te=true
       ·exact Rd.flat 8 _ hfl (n5 j hj)
       ·have e1:qd9 te (depb)=depb:=if_neg hfl;rw[e1] at hdepP⊢;have hz0:∀y∈depb,qli none (k * 16+1) y=false∧qli none (k * 16+1) y=false:=fun y hy=>by
         have:=(q43 (by simpa using hdepP) y hy).1;have h2:qli none (k * 16+1) y=false:=by
          unfold qli;rw[uX];exact⟨this,rfl⟩
         exact⟨h2,h2⟩
        refine Rd.keeps (hout.stab.kp hz0) _ ((n5 j hj).mono fun b _ hb=>hb.mono fun y hy=>hy)
     ·cases h
    ·cases e
   ·rename_i pin hpin;simp only at h;split at h
    ·rename_i xa pin' depa xb ownb depb hx hy;split at h
     ·rename_i hok;simp only[gnB,uU,uX] at hok;obtain⟨hpp,hdp,hdP⟩:=hok;have hpp':=gnN hpp;subst hpp';simp only[gnS] at h;obtain⟨rfl,rfl⟩:=h;obtain⟨x',hx1,hx2⟩:=uF.1 hx;obtain⟨y',hy1,hy2⟩:=uF.1 hy;have hb1:=hb.un fun z=>qs k z&& !Nat.beq z pin';have hf1:=SF.un (q:=fun z=>qs k z&& !Nat.beq z pin') hb.inj hb.pa hf;have hca:=q94 hte hx2 (qo hf1 hc hx1);have hcb:=q94 hte hy2 (qo hf1 hc hy1);obtain⟨Ab,capb,hevb,news,n1,n2,n3,n4,n5⟩:=za8 hte hcb;have hca':Fl c.A (unP (fun z=>qs k z&& !Nat.beq z pin') p) w depa (some pin') (xa.ev c.v) (.row E) [a.eval x]:=hca;rcases hca'.symm with⟨K,V,kt,vt,lm,gm,es,clock,em,-⟩|⟨E1,te1,la,va,q1,q2,q3,q4,q5⟩
      ·cases em
      injection q1 with q1;subst q1;injection q4 with q4;subst q4;obtain rfl:=gnI (q2.symm.trans hte);have hla:(xa.ev c.v).rs=la:=by rw[q3];rfl
      have hlim:=q0c (x:=z4r (qa8 xa) (qa8 xb)) (y:=zdk te1) (hn _ (by simp));rw[qr7,q4x,q4x] at hlim;have hlim':la.length+(xb.ev c.v).rs.length≤LM te1:=by
       have:(((xa.ev c.v).rs.length:Int)+((xb.ev c.v).rs.length:Int))≤(LM te1:Nat):=hlim;rw[hla] at this;omega
      have hP:∀b,unP (fun z=>qs k z&& !Nat.beq z pin') p (k * 16+1)=some b→some pin'=some (k * 16+1):=fun b hb=>by
       have:=(q2l hb).1;rw[hkq] at this;simp at this;rw[this]
      have hva:(a.eval x=.slice none 0 0∧la.length=0)∨∃xx g cap cur,some pin'=some xx∧a.eval x=.slice (some ⟨g,0,none⟩) la.length cap∧unP (fun z=>qs k z&& !Nat.beq z pin') p xx=some g∧w.heap[g]? =some (.cells cur E (0,0))∧la.length≤cap∧cap≤maxLen∧cur.size=cap * te1.w:=by
       rcases q5 with⟨r1,r2⟩|⟨g,cap,cur,r1,r2,r3,r4,r5,r6,r7,r8⟩
       ·exact .inl ⟨r1,by rw[r2];rfl⟩
       ·exact .inr ⟨pin',g,cap,cur,rfl,r1,r2,r3,r4,r5,r6⟩
      obtain⟨v',p',w',hr,hout⟩:=zar (va:=a.eval x) (pin:=some pin') (n:=la.length) hT hte hb1 hP (fun _ _=>by rw[←hla];exact zj8 hF fun n hm=>hn n (by simp[hm])) hva n1 n2 n4 n3 hlim' o.type;rw[←hevb] at hr;refine fin hr ⟨p',hout.bs,?_,hd,by simp only[Act.put,uT];exact hz⟩;have hblk:0<la.length→∃g cur,unP (fun z=>qs k z&& !Nat.beq z pin') p pin'=some g∧w.heap[g]? =some (.cells cur E (0,0)):=fun h0=>by
       rcases q5 with⟨r1,r2⟩|⟨g,cap,cur,r1,r2,r3,-⟩
       ·rw[r2] at h0;simp at h0
       ·exact⟨g,cur,r2,r3⟩
      have happ:=SF.app (xa:=xa) hte hout hblk (by rw[hla]) hf1;refine happ.put (by rw[hz];exact hk) ⟨[v'],rfl,?_⟩;rw[z9v,hla];refine .inl ⟨E,te1,_,v',rfl,hte,rfl,rfl,?_⟩;have two:∀y∈qd9 te1 (uni depa (depb)),q42 pin' (k * 16+1) y=false∧q42 pin' (k * 16+1) y=false:=fun y hy=>by
       have h1:=(q43 hdp y hy).1;have h2:=(q43 hdP y hy).1;have h3:q42 pin' (k * 16+1) y=false:=by
        unfold q42;rw[uX];exact⟨h2,h1⟩
       exact⟨h3,h3⟩
      have hst:Stab c.A (q42 pin' (k * 16+1)) (q42 pin' (k * 16+1)) (unP (fun z=>qs k z&& !Nat.beq z pin') p) w p' w':=hout.stab;refine AppOut.own (c:=c) (la:=la) (lb:=(xb.ev c.v).rs) hte hout hlim' n1 (fun j hj=>?_) (fun xx g hxx hg j hj=>?_)
      ·by_cases hfl:zt 8 te1=true
       ·exact Rd.flat 8 _ hfl (n5 j hj)
       ·have e1:qd9 te1 (uni depa (depb))=uni depa (depb):=if_neg hfl;rw[e1] at two⊢;refine Rd.keeps (hst.kp two) _ ((n5 j hj).mono fun b _ hb=>hb.mono fun y hy=>qa1 hy)
      ·injection hxx with hxx;subst hxx;rcases q5 with⟨r1,r2⟩|⟨g',cap,cur,r1,r2,r3,r4,r5,r6,r7,r8⟩
       ·rw[r2] at hj;simp at hj
       ·obtain rfl:=gnI (r2.symm.trans hg);obtain⟨vs,hrr,hdd⟩:=r8 j hj;refine⟨vs,hrr,?_⟩;by_cases hfl:zt 8 te1=true
        ·exact Rd.flat 8 _ hfl hdd
        ·have e1:qd9 te1 (uni depa (depb))=uni depa (depb):=if_neg hfl;rw[e1] at two⊢;exact Rd.keeps (hst.kp two) _ (hdd.mono fun b _ hb=>hb.mono fun y hy=>q44 hy)
     ·cases h
    ·cases h
   ·cases h
  ·cases h
 ·cases h
theorem zou(hf:SF c σ p w a)(hc:hold c.v cs=true)(hte:qm E=some te){k:Nat}{x:Operand}(h:zob σ cs E k x=some y):y.pd c p w (a.eval x):=by
 unfold zob at h;split at h
 ·rename_i hx;injection h with h;subst h;have hev:a.eval x=.slice none 0 0:=qo hf hc hx;refine⟨[a.eval x],rfl,?_⟩
  show Fl c.A p w [] (lkA [(0,k * 16+1)] 0) (.r []) (.row E) _
  rw[qa];exact .inl ⟨E,te,[],_,rfl,hte,rfl,rfl,.inl ⟨hev,rfl⟩⟩
 ·exact qo hf hc h
theorem zkv(hb:Bs c.A c.F w0 S0 p w)(hf:SF c σ p w a)(hc:hold c.v cs=true)(hd:a.defers=d)(hz:a.tmps.size=z){k:Nat}(hk:k<z)(hdst:o.dst=some k){T2:TypeId}{x y:Operand}(heq:o.op=.call {callee:=.builtin .append,args:= #[x,y],argTypes:= #[T,T2]})
  {ns:List X}{fb:Ty→Option X}(hF:zhc c fb)(h:z8n fb σ cs k T T2 x y=some (ns,σ'))(hn:∀n∈ns,n.says c.v):o.wp uA a w (q0f c w0 S0 d z σ') Q:=by
 have fin:∀{v':Value}{w':World},(uL #[T,T2] o.type #[a.eval x,a.eval y]).run uA w=.ok v' w'→q0f c w0 S0 d z σ' (a.put (some k) v') w'→o.wp uA a w (q0f c w0 S0 d z σ') Q:=fun{v' w'}hr hp=>by
  have hrun:(execOp a.eval o).run uA w=.ok (.value v') w':=by
   generalize a.eval=r at *;simp[execOp,heq,resolve,invoke,builtin,hr]
  unfold Oper.wp;rw[hrun]
  show q0f c w0 S0 d z σ' (a.put o.dst v') w'
  rw[hdst];exact hp
 have hkq:qs k (k * 16+1)=true:=by
  unfold qs;rw[vN];omega
 unfold z8n at h;split at h
 ·rename_i E hT;split at h
  ·rename_i te hte;split at h
   ·rename_i pin hpin;simp only at h;split at h
    ·rename_i xa pin' depa xn on dn hx hy;split at h
     ·rename_i hok;simp only[gnB,uU,uX] at hok;obtain⟨hpp,⟨hdp,hdP⟩,hT2,hmp⟩:=hok;have hpp':=gnN hpp;subst hpp';simp only[gnS] at h;obtain⟨rfl,rfl⟩:=h;obtain⟨x',hx1,hx2⟩:=uF.1 hx;have hb1:=hb.un fun z=>qs k z&& !Nat.beq z pin';have hf1:=SF.un (q:=fun z=>qs k z&& !Nat.beq z pin') hb.inj hb.pa hf;have hca:=q94 hte hx2 (zou hf1 hc hte hx1);obtain⟨m,hm,hmv,hmr⟩:=q0j (qo hf1 hc hy);have hca':Fl c.A (unP (fun z=>qs k z&& !Nat.beq z pin') p) w depa (some pin') (xa.ev c.v) (.row E) [a.eval x]:=hca;rcases hca'.symm with⟨K,V,kt,vt,lm,gm,es,clock,em,-⟩|⟨E1,te1,la,va,q1,q2,q3,q4,q5⟩
      ·cases em
      injection q1 with q1;subst q1;injection q4 with q4;subst q4;obtain rfl:=gnI (q2.symm.trans hte);have hla:(xa.ev c.v).rs=la:=by rw[q3];rfl
      have n1:=q0c (x:=.lit (.i 0)) (y:=xn) (hn _ (by simp));have n2:=q0c (x:=xn) (y:=.lit (.i 16777216)) (hn _ (by simp));have hlim:=q0c (x:=z4r (qa8 xa) xn) (y:=zdk te1) (hn _ (by simp));rw[qr7,q4x,hm,hla] at hlim;rw[hm] at n1 n2;simp only[X.ev,D.int] at n1 n2;obtain⟨m',rfl⟩:=Int.eq_ofNat_of_zero_le n1;have hlim':la.length+m'≤LM te1:=by
       have:((la.length:Int)+(m':Int))≤(LM te1:Nat):=hlim;omega
      have hP:∀b,unP (fun z=>qs k z&& !Nat.beq z pin') p (k * 16+1)=some b→some pin'=some (k * 16+1):=fun b hb=>by
       have:=(q2l hb).1;rw[hkq] at this;simp at this;rw[this]
      have hva:(a.eval x=.slice none 0 0∧la.length=0)∨∃xx g cap cur,some pin'=some xx∧a.eval x=.slice (some ⟨g,0,none⟩) la.length cap∧unP (fun z=>qs k z&& !Nat.beq z pin') p xx=some g∧w.heap[g]? =some (.cells cur E (0,0))∧la.length≤cap∧cap≤maxLen∧cur.size=cap * te1.w:=by
       rcases q5 with⟨r1,r2⟩|⟨g,cap,cur,r1,r2,r3,r4,r5,r6,r7,r8⟩
       ·exact .inl ⟨r1,by rw[r2];rfl⟩
       ·exact .inr ⟨pin',g,cap,cur,rfl,r1,r2,r3,r4,r5,r6⟩
      obtain⟨zv,zvs,hzr,hzp,hzrd0,hzl0,hzc⟩:=qh6 hte w (fun _=>False);have hzrd:=hzrd0 hmp;obtain⟨-,hzone⟩:=Rd.len _ hzrd;have hzl:zv.cells.size=te1.w:=by rw[hzc];simpa using hzl0
      have hzone':One zv.cells.toList:=by rw[hzc];simpa using hzone
      obtain⟨v',p',w',hr,hout⟩:=zhx (va:=a.eval x) (pin:=some pin') (n:=la.length) hT hte (q3j hT2) hb1 hP (fun _ _=>by rw[←hla];exact zj8 hF fun n hm=>hn n (by simp[hm])) hva hzr hzl hzone' hlim' (by omega) o.type;rw[←hmv] at hr;refine fin hr ⟨p',hout.bs,?_,hd,by simp only[Act.put,uT];exact hz⟩;have hblk:0<la.length→∃g cur,unP (fun z=>qs k z&& !Nat.beq z pin') p pin'=some g∧w.heap[g]? =some (.cells cur E (0,0)):=fun h0=>by
       rcases q5 with⟨r1,r2⟩|⟨g,cap,cur,r1,r2,r3,-⟩
       ·rw[r2] at h0;simp at h0
       ·exact⟨g,cur,r2,r3⟩
      have happ:=SF.app (xa:=xa) hte hout hblk (by rw[hla]) hf1;refine happ.put (by rw[hz];exact hk) ⟨[v'],rfl,?_⟩;have hev:(X.app xa (.rep xn (qfh te1))).ev c.v=.r (la++kN m' (q6c 8 te1)):=by
       show D.r ((xa.ev c.v).rs++kN (xn.ev c.v).int.toNat (q6c 8 te1))=_
       rw[hla,hm];rfl
      rw[hev];refine .inl ⟨E,te1,_,v',rfl,hte,rfl,rfl,?_⟩;have two:∀y∈qd9 te1 depa,q42 pin' (k * 16+1) y=false∧q42 pin' (k * 16+1) y=false:=fun y hy=>by
       have h1:=(q43 hdp y hy).1;have h2:=(q43 hdP y hy).1;have h3:q42 pin' (k * 16+1) y=false:=by
        unfold q42;rw[uX];exact⟨h2,h1⟩
       exact⟨h3,h3⟩
      have hst:Stab c.A (q42 pin' (k * 16+1)) (q42 pin' (k * 16+1)) (unP (fun z=>qs k z&& !Nat.beq z pin') p) w p' w':=hout.stab;have hnl:(uI zv.cells m').toList.length=(kN m' (q6c 8 te1)).length * te1.w:=by rw[uY,size_zeroCells,hzl,List.length_replicate]
      refine AppOut.own (c:=c) (la:=la) (lb:=kN m' (q6c 8 te1)) hte (by simpa using hout) (by simpa using hlim') hnl (fun j hj=>?_) (fun xx g hxx hg j hj=>?_)
      ·have hjm:j<m':=by simpa using hj
       have hcell:((uI zv.cells m').toList.drop (j * te1.w)).take te1.w=zvs:=by
        rw[hzc];refine kZ fun q=>?_;by_cases hq:q<te1.w
        ·have hlt:j * te1.w+q<m' * te1.w:=by
          have:(j+1) * te1.w≤m' * te1.w:=uC _ hjm;rw[uN,vK] at this;omega
         rw[uE hq,kG,uH];simp only[uI,uP,hzl0];rw[Array.getElem?_map,Array.getElem?_range,if_pos hlt];have hmod:(j * te1.w+q) % te1.w=q:=by rw[jA,Nat.mul_add_mod,vS hq]
         simp only[Option.map_some,hmod];rw[getElem!_pos zvs.toArray q (by simpa[hzl0] using hq)];simp[gnK (show q<zvs.length by omega)]
        ·rw[kC (by simp;omega),kC (by omega)]
       rw[hcell,vH];exact Rd.keeps (fun b o hb=>hb.elim) _ hzrd
      ·injection hxx with hxx;subst hxx;rcases q5 with⟨r1,r2⟩|⟨g',cap,cur,r1,r2,r3,r4,r5,r6,r7,r8⟩
       ·rw[r2] at hj;simp at hj
       ·obtain rfl:=gnI (r2.symm.trans hg);obtain⟨vs,hrr,hdd⟩:=r8 j hj;refine⟨vs,hrr,?_⟩;by_cases hfl:zt 8 te1=true
        ·exact Rd.flat 8 _ hfl hdd
        ·have e1:qd9 te1 depa=depa:=if_neg hfl;rw[e1] at two⊢;exact Rd.keeps (hst.kp two) _ (hdd.mono fun b _ hb=>hb)
     ·cases h
    ·cases h
   ·cases h
  ·cases h
 ·cases h
end
end
variable{ps:Array (Nat×Operand)}
section
theorem qoi:∀(l:List Value)(k:Nat){c0 c1 c2:List Value}{cs:Array Value}{off:Nat},cs.toList=c0++(c1++c2)→c0.length=off+k→c1.length=l.length→((l.zipIdx k).foldl (fun cs x=>cs.setIfInBounds (off+x.2) x.1) cs).toList=c0++(l++c2)
 |[],k,c0,c1,c2,cs,off,h,h1,h2=>by
  have:c1=[]:=uR (by simpa using h2);subst this;simpa using h
 | v :: l, k, c0, c1, c2, cs, off, h, h1, h2 => by
  cases c1 with
  |nil=>simp at h2
  | cons u c1 =>
   simp only[List.zipIdx_cons,List.foldl_cons];have:=qoi l (k+1) (c0:=c0++[v]) (c1:=c1) (c2:=c2) (cs:=cs.setIfInBounds (off+k) v) (off:=off) (by
    rw[Array.toList_setIfInBounds,h,←h1];simp) (by simp;omega) (by simpa using h2)
   rw[this];simp
theorem qzl{place:Nat→Option (Nat×Nat)}{cells:Array Value}{i off size:Nat}{v:Value}{r:List (Nat×Value)}{c0 c1 c2:List Value}(hp:place i=some (off,size))(hv:v.cells=vs.toArray)(hs:vs.length=size)(hc:cells.toList=c0++(c1++c2))(h0:c0.length=off)(h1:c1.length=size):
  Instr.fill place cells ((i,v)::r)=Instr.fill place (c0++(vs++c2)).toArray r:=by
 have hsz:cells.size=c0.length+(c1.length+c2.length):=by rw[←uY,hc];simp
 have hf:v.cells.zipIdx.foldl (fun cs(c,j)=>cs.setIfInBounds (off+j) c) cells=(c0++(vs++c2)).toArray:=by
  apply kQ;rw[hv];have:=qoi vs 0 (cs:=cells) (off:=off) hc (by omega) (by omega);rw[←this];simp
 simp only[Instr.fill,hp,hf];rw[if_neg (by
  rw[hv];simp only[uP,hs,ne_eq,not_true_eq_false,decide_false,vZ,kL,gnD];simp;omega)]
def bld(σ:St)(cs:List (X×Bool))(fs:List Ty):List (Nat×Operand)→X→List (Nat×Nat)→List Nat→Option (X×List (Nat×Nat)×List Nat)
  |[],x,own,dep=>some (x,own,dep)
  | (j, y) :: r, x, own, dep => match fs[j]? with
    | some t => match (opd σ cs y).bind (q6e t) with
      | some (xv, ownv, depv) => match z09 t ownv with
        |some oj=>bld σ cs fs r (.set x j xv) (qjk own j oj) (uni dep depv)
        |none=>none
      |none=>none
    |none=>none
def zdg(σ:St)(cs:List (X×Bool))(fs:List Ty):List (Nat×Operand)→Nat→Option (List X)
  |[],_=>some []
  | (j, y) :: r, k => if uB j k then (match fs[j]? with
    | some t => match (opd σ cs y).bind (q6e t), zdg σ cs fs r (k + 1) with
      |some (xv,_,_),some l=>some (xv::l)
      |_,_=>none
    |none=>none) else none
def z1e(σ:St)(cs:List (X×Bool))(k:Nat)(T:TypeId)(ps:List (Nat×Operand)):Option AV:=match qm T with
 | some (.st S) => match flds S with
  | some fs => match bld σ cs fs ps (qfh (.st S)) (qp k (.st S)) [] with
   |some (x,own,dep)=>match(if uB ps.length fs.length then zdg σ cs fs ps 0 else none) with
    |some l=>some (.v (.mk l) (.st S) own dep)
    |none=>some (.v x (.st S) own dep)
   |none=>none
  |none=>none
 |_=>none
section
variable{c:Cx}{p p':qj}{w w' w0:World}{S0:Nat→Prop}{a:Act}{σ σ':St}{cs:List (X×Bool)}{o:Oper}{d:List Deferred}{z:Nat}
theorem zif(hf:SF c σ p w a)(hc:hold c.v cs=true){S:TypeId}{fs:List Ty}(hfs:flds S=some fs){places:Nat→Option (Nat×Nat)}(hpl:∀j t,fs[j]? =some t→places j=some (offs fs j,t.w)):
    ∀{ps:List (Nat×Operand)}{x x':X}{own own':List (Nat×Nat)}{dep dep':List Nat}{cells:Array Value},bld σ cs fs ps x own dep=some (x',own',dep')→Con c.A p w (x.ev c.v) (.st S) own dep cells.toList→
    ∃cells',Instr.fill places cells (ps.map fun y=>(y.1,a.eval y.2))=some cells'∧Con c.A p w (x'.ev c.v) (.st S) own' dep' cells'.toList
  | [], x, x', own, own', dep, dep', cells, h, hx => by
    simp only[bld,gnS] at h;obtain⟨rfl,rfl,rfl⟩:=h;exact⟨cells,rfl,hx⟩
  | (j, y) :: r, x, x', own, own', dep, dep', cells, h, hx => by
    unfold bld at h;split at h
    · rename_i t hj;split at h
      · rename_i xv ownv depv hy;split at h
        · rename_i oj hoj;obtain⟨y',hy1,hy2⟩:=uF.1 hy;obtain⟨vs,hp,hcon⟩:=q2u hy2 (qo hf hc hy1);have hcells:=hp.cells hcon.len.2;obtain⟨fs',ds,hf',hds,hfl⟩:=hx.mono (dep':=uni dep depv) fun y hy=>q44 hy;obtain rfl:=gnI (hf'.symm.trans hfs);obtain⟨c0,c1,c2,q1,q2,q3,q4⟩:=Fls.set (own':=qjk own j oj) (d:=xv.ev c.v) (c:=vs) hfl hj (by rw[uO,qah,if_pos rfl];exact Con.sup hoj (hcon.mono fun y hy=>qa1 hy)) (fun i hi=>by rw[uO] at hi;rw[qah,if_neg hi]);have hx2:Con c.A p w ((X.set x j xv).ev c.v) (.st S) (qjk own j oj) (uni dep depv) (c0++(vs++c2)):=⟨fs',ds.set j (xv.ev c.v),hf',by show D.a ((x.ev c.v).fs.set j _)=_;rw[hds];rfl,q4⟩;obtain⟨cells',h1,h2⟩:=zif hf hc hfs hpl (cells:=(c0++(vs++c2)).toArray) h (by simpa using hx2);refine⟨cells',?_,h2⟩;rw[uW,qzl (hpl j t hj) hcells hcon.len.1 q1 q2 q3];exact h1
        · cases h
      · cases h
    · cases h
theorem zat{c:Cx}{fs:List Ty}:∀{ps:List (Nat×Operand)}{k:Nat}{x x':X}{own own':List (Nat×Nat)}{dep dep':List Nat}{l:List X},bld σ cs fs ps x own dep=some (x',own',dep')→zdg σ cs fs ps k=some l→(x.ev c.v).fs.length=k+ps.length→
    x'.ev c.v=(if ps=[] then x.ev c.v else .a ((x.ev c.v).fs.take k++X.evs c.v l))
  | [], k, x, x', own, own', dep, dep', l, h, hl, hlen => by
    simp only[bld,gnS] at h;obtain⟨rfl,rfl,rfl⟩:=h;simp
  | (j, y) :: r, k, x, x', own, own', dep, dep', l, h, hl, hlen => by
    rw[if_neg (by simp)];unfold zdg at hl;split at hl
    · rename_i hjk;have hjk':=gnN hjk;subst hjk';unfold bld at h;split at h
      · rename_i t hj;simp only[hj] at hl;split at h
        · rename_i xv ownv depv hy;simp only[hy] at hl;split at h
          · rename_i oj hoj;split at hl
            · rename_i _ _ xv' _ _ l' he hl';injection he with he;injection he with he1 he2;subst he1;injection hl with hl;subst hl;simp only[kP] at hlen;have hs:((X.set x j xv).ev c.v).fs=(x.ev c.v).fs.set j (xv.ev c.v):=rfl;have:=zat (c:=c) (k:=j+1) h hl' (by rw[hs,List.length_set];omega);rw[this];have htake:((x.ev c.v).fs.set j (xv.ev c.v)).take (j+1)=(x.ev c.v).fs.take j++[xv.ev c.v]:=by
                rw[List.take_succ_eq_append_getElem (by simp;omega),List.take_set_of_le (vC _)];simp
              by_cases hr:r=[]
              · subst hr;rw[if_pos rfl];have hl0:l'=[]:=by simp[zdg] at hl';exact hl'
                subst hl0
                show D.a ((x.ev c.v).fs.set j _)=_
                congr 1
                have:(x.ev c.v).fs.set j (xv.ev c.v)=((x.ev c.v).fs.set j (xv.ev c.v)).take (j+1):=by rw[List.take_of_length_le (by simp at hlen⊢;omega)]
                rw[this,htake];simp[X.evs]
              · rw[if_neg hr,hs,htake];simp[X.evs]
            · cases hl
          · cases h
        · cases h
      · cases h
    · cases hl
theorem run_places{fields:Array Field}{fs:List Ty}(hfb:q40 fields.toList fs 0=true):∃places:Array (Nat×Nat),(fields.mapM fun f=>(do pure (f.offset,←sizeOf f.type):Sem (Nat×Nat))).run uA w=.ok places w∧∀j t,fs[j]? =some t→places[j]? =some (offs fs j,t.w):=by
 have key:∀(fl:List Field)(fs:List Ty)(o:Nat),q40 fl fs o=true→∃l:List (Nat×Nat),(fl.mapM fun(f:Field)=>(do pure (f.offset,←sizeOf f.type):Sem (Nat×Nat))).run uA w=.ok l w∧∀j t,fs[j]? =some t→l[j]? =some (o+offs fs j,t.w):=by
  intro fl
  induction fl with
  |nil=>
   intro fs o hb;refine⟨[],by simp,fun j t hj=>?_⟩;cases fs with
   |nil=>simp at hj
   |cons t ts=>cases hb
  | cons f fl ih =>
   intro fs o hb;cases fs with
   |nil=>cases hb
   | cons t ts =>
    simp only[q40,gnB] at hb;obtain⟨⟨⟨hb1,hb2⟩,hb3⟩,hb4⟩:=hb;have hoff:=gnN hb1;have hty:qm f.type=some t:=by
     split at hb3
     ·rename_i t' ht';rw[ht',(Ty.beq_iff _ _).1 hb3]
     ·cases hb3
    obtain⟨l,h1,h2⟩:=ih ts _ hb4;refine⟨(f.offset,t.w)::l,?_,fun j u hj=>?_⟩
    ·simp only[List.mapM_cons,uZ,q0x hty,kD,uJ,h1]
    ·cases j with
     |zero=>
      simp at hj;subst hj;simp[hoff,qak]
     |succ j=>
      have:=h2 j u (by simpa using hj);rw[List.getElem?_cons_succ,this,qaf]
      congr 2
      omega
 obtain⟨l,h1,h2⟩:=key fields.toList fs 0 hfb;refine⟨l.toArray,?_,fun j t hj=>by simpa using h2 j t hj⟩;rw[Array.mapM_eq_mapM_toList];simp only[map_eq_pure_bind,uZ,h1,uJ,kD]
theorem zdi(hf:SF c σ p w a)(hc:hold c.v cs=true){k:Nat}(heq:o.op=.build T ps)(h:z1e σ cs k T ps.toList=some x):q7p o a c p w x:=by
 unfold z1e at h;split at h
 ·rename_i S hT;split at h
  ·rename_i fs hfs;split at h
   ·rename_i x1 own dep hb;obtain⟨fields,fs',zc,i,hu,hf',hfb,hi,hs,hz,hpz,-⟩:=q5z hT;obtain rfl:=gnI (hf'.symm.trans hfs);obtain⟨v,vs,hzv,hpk,hcon0,hcells⟩:=z6w hT rfl w c.A p k;have hrd:Rd w (FFD c.A p ((qp k (.st S)).map (·.2))) (q6c 8 (.st S)) (.st S) vs:=hcon0.rd (fun x hx=>by cases hx) (fun x hx=>hx);obtain⟨places,hpr,hpl⟩:=run_places (w:=w) hfb;obtain⟨cells',h1,h2⟩:=zif hf hc hfs (places:=fun i=>places[i]?) hpl (cells:=vs.toArray) hb (show Con c.A p w ((qfh (.st S)).ev c.v) (.st S) (qp k (.st S)) [] vs.toArray.toList from hcon0);have hrun:(execOp a.eval o).run uA w=.ok (.value (.agg cells')) w:=by
     have hparts:(ps.map fun(y:Nat×Operand)=>(y.1,a.eval y.2)).toList=ps.toList.map fun y=>(y.1,a.eval y.2):=by simp
     rw[←hparts] at h1;generalize a.eval=r at *;simp only[execOp,heq,Instr.build,uZ,hzv,run_underlying hu,uJ,hpr,hcells,h1];rfl
    refine⟨_,hrun,?_⟩;split at h
    ·rename_i l hl;injection h with h;subst h;refine⟨cells'.toList,by simp[jj],?_⟩;split at hl
     ·rename_i hlen;have hlen':=gnN hlen;have hzl:((qfh (.st S)).ev c.v).fs.length=0+ps.toList.length:=by
       have hr':Rd w (FFD c.A p ((qp k (.st S)).map (·.2))) (q6c 8 (.st S)) (.st S) vs:=hrd;cases hd0:q6c 8 (.st S) with
       |a l0=>
        rw[hd0] at hr';obtain⟨T',fs0,e1,e2,e3⟩:=hr';injection e1 with e1;subst e1;obtain rfl:=gnI (e2.symm.trans hfs)
        show(q6c 8 (.st S)).fs.length=_
        rw[hd0]
        show l0.length=_
        rw[(RdF.len e3).2];omega
       |u=>rw[hd0] at hr';exact hr'.elim
       |i n=>rw[hd0] at hr';obtain⟨k,e,-⟩:=hr';cases e
       |b x=>rw[hd0] at hr';cases hr'.1
       |s x=>rw[hd0] at hr';cases hr'.1
       |r l=>rw[hd0] at hr';obtain⟨E,te,A,cap,e,-⟩:=hr';cases e
       |mp l=>rw[hd0] at hr';obtain⟨K,V,kt,vt,g,es,clock,e,-⟩:=hr';cases e
      have hev:=zat (c:=c) hb hl hzl;have:(X.mk l).ev c.v=x1.ev c.v:=by
       rw[hev];split
       ·rename_i hnil;rw[hnil] at hl hzl;have hl0:l=[]:=by simp[zdg] at hl;exact hl
        subst hl0
        show D.a []=_
        have hz0:((qfh (.st S)).ev c.v).fs=[]:=uR (by simpa using hzl);cases hd0:(qfh (.st S)).ev c.v with
        |a l0=>rw[hd0] at hz0;simp[D.fs] at hz0;rw[hz0]
        | _ =>
         exfalso;have hr':Rd w (FFD c.A p ((qp k (.st S)).map (·.2))) ((qfh (.st S)).ev c.v) (.st S) vs:=hrd;rw[hd0] at hr'
         first
          |exact hr'
          |(obtain⟨k,e,-⟩:=hr';cases e;done)
          |(cases hr'.1;done)
          |(obtain⟨E,te,A,cap,e,-⟩:=hr';cases e;done)
          |(obtain⟨K,V,kt,vt,g,es,clock,e,-⟩:=hr';cases e;done)
       ·simp;rfl
      rw[this];exact h2
     ·cases hl
    ·injection h with h;subst h;exact⟨cells'.toList,by simp[jj],h2⟩
   ·cases h
  ·cases h
 ·cases h
def ze1(σ:St)(cs:List (X×Bool))(te:Ty):List (Nat×Operand)→Nat→Option (List X×List Nat)
  |[],_=>some ([],[])
  | (j, y) :: r, k => if uB j k then (match (opd σ cs y).bind (q6e te), ze1 σ cs te r (k + 1) with
    |some (xv,ownv,depv),some (l,dep)=>some (xv::l,uni (uni depv (ownv.map (·.2))) dep)
    |_,_=>none) else none
def zfj(P:Program)(σ:St)(cs:List (X×Bool))(T:TypeId)(ps:List (Nat×Operand)):Option AV:=match P.underlying T,P.info? T with
 | some (.array n E), some i => (match qm E with
  |some te=>(match ze1 σ cs te ps 0,i.zero with
   |some (l,dep),some (.agg zc)=>if uB ps.length n&&uB zc.size (n * te.w) then some (.ar E l dep) else none
   |_,_=>none)
  |none=>none)
 |_,_=>none
def zir(σ:St)(cs:List (X×Bool))(k:Nat)(T:TypeId)(n:Nat)(ps:List (Nat×Operand)):Option St:=match qm T with
 | some (.row E) => match qm E with
  |some te=>match ze1 (σ.un (qs k)) cs te ps 0 with
   |some (l,dep)=>if uB ps.length n&&(kV n 1000&&kV (n * te.w) 16777216) then some ⟨q08 (σ.un (qs k)).t k (.v (.row l) (.row E) [(0,k * 16+1)] (qd9 te dep)),(σ.un (qs k)).m⟩ else none
   |none=>none
  |none=>none
 |_=>none
def z8o(σ:St)(cs:List (X×Bool))(k:Nat)(T:TypeId)(x y:Operand):Option (List X×St):=match qm T with
 | some (.row E) => match qm E with
  |some te=>match opd (σ.un (qs k)) cs x,opd (σ.un (qs k)) cs y with
   |some (.v xn (.int .i64) _ _),some (.v yn (.int .i64) _ _)=>if X.beq xn yn&& !qbm te then some ([leX (.lit (.i 0)) xn,leX xn (.lit (.i 16777216))],⟨q08 (σ.un (qs k)).t k (.v (.rep xn (qfh te)) (.row E) [(0,k * 16+1)] []),(σ.un (qs k)).m⟩) else none
   |_,_=>none
  |none=>none
 |_=>none
theorem z9f(hb:Bs c.A c.F w0 S0 p w)(hf:SF c σ p w a)(hd:a.defers=d)(hz:a.tmps.size=z){k:Nat}(hk:k<z)(hte:qm E=some te){x:X}{l:List D}(hx:x.ev c.v=.r l){cells:List Value}(hl:cells.length=l.length * te.w)(hlen:l.length≤16777216)
  (hc:∀j(h:j<l.length),Rd w (FFD c.A (unP (qs k) p) dep) l[j] te ((cells.drop (j * te.w)).take te.w)):
  q0f c w0 S0 d z ⟨q08 (σ.un (qs k)).t k (.v x (.row E) [(0,k * 16+1)] dep),(σ.un (qs k)).m⟩ (a.put (some k) (.slice (some ⟨w.heap.size,0,none⟩) l.length l.length)) (w.alloc (.cells cells.toArray E)):=by
 have hb1:=hb.un (qs k);have hf1:=SF.un (q:=qs k) hb.inj hb.pa hf;have hkq:qs k (k * 16+1)=true:=by
  unfold qs;rw[vN];omega
 have hpx:unP (qs k) p (k * 16+1)=none:=by unfold unP;rw[if_pos hkq]
 have hst:=q7v (A:=c.A) hpx hb1.bd (.cells cells.toArray E);have hnew:(w.alloc (.cells cells.toArray E)).heap[w.heap.size]? =some (.cells cells.toArray E (0,0)):=q0h rfl;refine⟨qft (unP (qs k) p) (k * 16+1) w.heap.size,qfi hb1 _ _,?_,hd,by simp only[Act.put,uT];exact hz⟩;have hkeep:SF c (σ.un (qs k)) (qft (unP (qs k) p) (k * 16+1) w.heap.size) (w.alloc (.cells cells.toArray E)) a:=by
  refine⟨fun t' y hy=>?_,fun k' e he=>?_⟩
  ·obtain⟨v,h1,h2⟩:=hf1.t t' y hy;exact⟨v,h1,AV.kept hst y v (fun _ _=>⟨rfl,rfl⟩) (fun _ _=>rfl) h2⟩
  ·exact(hf1.m k' e he).kept hst (fun _ _=>⟨rfl,rfl⟩) ⟨rfl,rfl⟩
 refine hkeep.put (t:=k) (by rw[hz];exact hk) ⟨[_],rfl,?_⟩;rw[hx];refine .inl ⟨E,te,l,_,rfl,hte,rfl,rfl,.inr ⟨w.heap.size,l.length,cells.toArray,rfl,q1u,hnew,vC _,by unfold maxLen;omega,by simpa using hl,zq3 hte (by omega),fun i hi=>⟨_,fun j u hj=>?_,Rd.keeps (hst.kp fun _ _=>⟨rfl,rfl⟩) _ (hc i hi)⟩⟩⟩;rw[cell_of_row _ _ _ _ _ _ hnew,kA];have hj':=(gnH.1 hj).1;simp only[kE] at hj';rw[uE (by omega),kG] at hj;exact hj
theorem z2v(hf:SF c σ p w a)(hc:hold c.v cs=true):∀{ps:List (Nat×Operand)}{k:Nat}{l:List X}{dep:List Nat}{cells:Array Value}{c0 c1:List Value},ze1 σ cs te ps k=some (l,dep)→cells.toList=c0++c1→c0.length=k * te.w→c1.length=ps.length * te.w→
    ∃c2:List Value,Instr.fill (fun i=>some (i * te.w,te.w)) cells (ps.map fun y=>(y.1,a.eval y.2))=some (c0++c2).toArray∧c2.length=ps.length * te.w∧(X.evs c.v l).length=ps.length∧
      ∀j(h:j<(X.evs c.v l).length),Rd w (FFD c.A p dep) (X.evs c.v l)[j] te ((c2.drop (j * te.w)).take te.w)
  | [], k, l, dep, cells, c0, c1, h, h1, h2, h3 => by
    simp only[ze1,gnS] at h;obtain⟨rfl,rfl⟩:=h;have:c1=[]:=uR (by simpa using h3);subst this;refine⟨[],?_,by simp,rfl,fun j hj=>by simp[X.evs] at hj⟩
    show some cells=_
    congr 1
    apply kQ;rw[h1]
  | (j, y) :: r, k, l, dep, cells, c0, c1, h, h1, h2, h3 => by
    unfold ze1 at h;split at h
    · rename_i hjk;have hjk':=gnN hjk;subst hjk';split at h
      · rename_i xv ownv depv l' dep' hy hr;simp only[gnS] at h;obtain⟨rfl,rfl⟩:=h;obtain⟨y',hy1,hy2⟩:=uF.1 hy;obtain⟨vs,hp,hcon⟩:=q2u hy2 (qo hf hc hy1);have hcells:=hp.cells hcon.len.2;have hvl:=hcon.len.1;simp only[kP,uN,vK] at h3;have hspl:c1=c1.take te.w++c1.drop te.w:=(kS _ _).symm;have hl1:(c1.take te.w).length=te.w:=by rw[kE];omega
        obtain⟨c2,q1,q2,q3,q4⟩:=z2v hf hc (cells:=(c0++(vs++c1.drop te.w)).toArray) (c0:=c0++vs) (c1:=c1.drop te.w) hr (by simp) (by rw[kY,h2,hvl,uN];omega) (by rw[List.length_drop];omega);refine⟨vs++c2,?_,by rw[kY,hvl,q2,kP,uN];omega,by simp[X.evs,q3],fun i hi=>?_⟩
        · rw[uW,qzl (c0:=c0) (c1:=c1.take te.w) (c2:=c1.drop te.w) (off:=j * te.w) (size:=te.w) rfl hcells hvl (by rw[←hspl];exact h1) h2 hl1,q1];simp
        · cases i with
          | zero =>
            simp only[vJ,vW];rw[←hvl,vU];refine(hcon.rd (dep':=uni (uni depv (ownv.map (·.2))) dep') (fun x hx=>q44 (q44 hx)) (fun x hx=>q44 (qa1 hx)))
          | succ i =>
            have hi':i<(X.evs c.v l').length:=by simp only[X.evs,kP] at hi;omega
            have:=q4 i hi';rw[show(i+1) * te.w=vs.length+i * te.w by rw[uN];omega,vQ,kR (by omega),kJ];simp only[X.evs,List.getElem_cons_succ,vD];exact this.mono fun b _ hb=>hb.mono fun y hy=>qa1 hy
      · cases h
    · cases h
theorem zm5(hf:SF c σ p w a)(hc:hold c.v cs=true)(heq:o.op=.build T ps)(h:zfj uA σ cs T ps.toList=some x):q7p o a c p w x:=by
 unfold zfj at h;split at h
 ·rename_i n E i hu hi;split at h
  ·rename_i te hte;split at h
   ·rename_i l dep zc hr hzc;split at h
    ·rename_i hok;simp only[gnB] at hok;have hn:=gnN hok.1;have hz:=gnN hok.2;injection h with h;subst h;obtain⟨c2,q1,q2,q3,q4⟩:=z2v hf hc (cells:=zc) (c0:=[]) (c1:=zc.toList) hr (by simp) (by simp) (by simp[hz,hn]);have hparts:(ps.map fun(y:Nat×Operand)=>(y.1,a.eval y.2)).toList=ps.toList.map fun y=>(y.1,a.eval y.2):=by simp
     rw[←hparts,vD] at q1;have hzr:(zeroValue T).run uA w=.ok (.agg zc) w:=by simp[zeroValue,typeInfo,hi,hzc]
     refine⟨.agg c2.toArray,?_,te,c2,hte,rfl,?_,fun j d hj=>?_⟩
     ·generalize a.eval=r at *;simp only[execOp,heq,Instr.build,uZ,hzr,run_underlying hu,uJ,Value.cells,q0x hte,q1];rfl
     ·rw[q2,←q3,q81]
     ·obtain⟨hjl,rfl⟩:=gnH.1 hj;exact q4 j hjl
    ·cases h
   ·cases h
  ·cases h
 ·cases h
theorem zmn(hb:Bs c.A c.F w0 S0 p w)(hf:SF c σ p w a)(hc:hold c.v cs=true)(hd:a.defers=d)(hz:a.tmps.size=z){k:Nat}(hk:k<z)(hdst:o.dst=some k){n:Nat}(heq:o.op=.buildSlice T n ps)(h:zir σ cs k T n ps.toList=some σ'):
  o.wp uA a w (q0f c w0 S0 d z σ') Q:=by
 unfold zir at h;split at h
 ·rename_i E hT;split at h
  ·rename_i te hte;split at h
   ·rename_i l dep hr;split at h
    ·rename_i hok;simp only[gnB] at hok;obtain⟨ho1,ho2,ho3⟩:=hok;have hn:=gnN ho1;have hn2:n≤1000:=by simpa using ho2
     have hn3:n * te.w≤16777216:=by simpa using ho3
     injection h with h;subst h;have hf1:=SF.un (q:=qs k) hb.inj hb.pa hf;obtain⟨i,hi,hsz,hpos,hby⟩:=q47 hte;obtain⟨zv,zvs,hzr,hzp,-,hzl0,hzc⟩:=qh6 hte w (fun _=>True);have hu:=(q23 hT).1;obtain⟨c2,q1,q2,q3,q4⟩:=z2v hf1 hc (cells:=(kT (n * te.w)).map fun i=>(if n * te.w=0 then #[] else zv.cells)[i % (if n * te.w=0 then #[] else zv.cells).size]!) (c0:=[]) (c1:=((kT (n * te.w)).map fun i=>(if n * te.w=0 then #[] else zv.cells)[i % (if n * te.w=0 then #[] else zv.cells).size]!).toList) hr (by simp) (by simp) (by simp[hn]);have hparts:(ps.map fun(y:Nat×Operand)=>(y.1,a.eval y.2)).toList=ps.toList.map fun y=>(y.1,a.eval y.2):=by simp
     rw[←hparts,vD] at q1;have hrun:(execOp a.eval o).run uA w=.ok (.value (.slice (some ⟨w.heap.size,0,none⟩) n n)) (w.alloc (.cells c2.toArray E)):=by
      have hns:¬(n * te.w>2^24):=by omega
      generalize a.eval=r at *;simp only[execOp,heq,Instr.buildSlice,uZ,run_underlying hu,uJ,q0x hte];rw[if_neg hns];by_cases h0:n * te.w=0
      ·simp only[h0,if_true] at q1⊢;simp only[uZ,kD,uJ,q1,newRow,newObj];simp[kM]
      ·simp only[h0,if_false] at q1⊢;simp only[uZ,kD,uJ,hzr,q1,newRow,newObj];simp[kM]
     unfold Oper.wp;rw[hrun]
     show q0f c w0 S0 d z _ (a.put o.dst _) _
     rw[hdst];have hln:(X.evs c.v l).length=n:=by rw[q3,hn]
     have:=z9f (σ:=σ) hb hf hd hz hk hte (x:=.row l) (l:=X.evs c.v l) rfl (dep:=qd9 te dep) (cells:=c2) (by rw[q2,q3]) (by omega) (fun j hj=>by
      by_cases hfl:zt 8 te=true
      ·exact Rd.flat 8 _ hfl (q4 j hj)
      ·have e1:qd9 te dep=dep:=if_neg hfl;rw[e1];exact q4 j hj)
     rw[hln] at this;exact this
    ·cases h
   ·cases h
  ·cases h
 ·cases h
theorem z93{zvs:List Value}(h:0<zvs.length):∀j,j<m→((((kT (m * zvs.length)).map fun i=>zvs.toArray[i % zvs.toArray.size]!).toList.drop (j * zvs.length)).take zvs.length)=zvs:=by
 intro j hj;have hle:(j+1) * zvs.length≤m * zvs.length:=uC _ (by omega);rw[uN] at hle;apply kZ;intro i;by_cases hi:i<zvs.length
 ·rw[uE hi,kG];have hlt:j * zvs.length+i<m * zvs.length:=by omega
  have hmod:(j * zvs.length+i) % zvs.length=i:=by rw[Nat.add_comm,Nat.add_mul_mod_self_right,vS hi]
  simp[hlt,hmod,hi]
 ·rw[kC (by simp;omega),kC (by omega)]
theorem zkz(hb:Bs c.A c.F w0 S0 p w)(hf:SF c σ p w a)(hc:hold c.v cs=true)(hd:a.defers=d)(hz:a.tmps.size=z){k:Nat}(hk:k<z)(hdst:o.dst=some k){x y:Operand}(heq:o.op=.makeSlice T x y){ns:List X}(h:z8o σ cs k T x y=some (ns,σ'))(hn:∀n∈ns,n.says c.v):
  o.wp uA a w (q0f c w0 S0 d z σ') Q:=by
 unfold z8o at h;split at h
 ·rename_i E hT;split at h
  ·rename_i te hte;split at h
   ·rename_i xn _ _ yn _ _ hx hy;split at h
    ·rename_i hxy;simp only[gnB,uU] at hxy;obtain⟨hxy,hmp⟩:=hxy;have hxy':=X.beq_ok _ _ hxy;subst hxy';simp only[gnS] at h;obtain⟨rfl,rfl⟩:=h;have hf1:=SF.un (q:=qs k) hb.inj hb.pa hf;obtain⟨m,hm,hmv,-⟩:=q0j (qo hf1 hc hx);obtain⟨m',hm',hmv',-⟩:=q0j (qo hf1 hc hy);rw[hm] at hm';injection hm' with hm';subst hm';have n1:=q0c (x:=.lit (.i 0)) (y:=xn) (hn _ (by simp));have n2:=q0c (x:=xn) (y:=.lit (.i 16777216)) (hn _ (by simp));rw[hm] at n1 n2;simp only[X.ev,D.int] at n1 n2;obtain⟨m',rfl⟩:=Int.eq_ofNat_of_zero_le n1;obtain⟨i,hi,hsz,hpos,hby⟩:=q47 hte;obtain⟨zv,zvs,hzr,hzp,hzrd,hzl0,hzc⟩:=qh6 hte w (FFD c.A (unP (qs k) p) []);have hzrd:=hzrd hmp;have hu:=(q23 hT).1;have hzl:zvs.length=te.w:=(Rd.len _ hzrd).1;have hm2:m'≤16777216:=by omega
     have hwr:IntKind.i64.wrap (m':Int)=m':=qc2 (k:=.i64) (by simp[ji];omega);have hcl:((kT (m' * te.w)).map fun i=>zvs.toArray[i % zvs.toArray.size]!).toList.length=m' * te.w:=by simp
     have hrun:∃cells:List Value,(execOp a.eval o).run uA w=.ok (.value (.slice (some ⟨w.heap.size,0,none⟩) m' m')) (w.alloc (.cells cells.toArray E))∧cells.length=m' * te.w∧∀j,j<m'→(cells.drop (j * te.w)).take te.w=zvs:=by
      have hb48:¬(281474976710656<(i.bytes:Int) * m'):=by
       have:i.bytes * m'≤4096 * 16777216:=vY hby hm2;omega
      have hlt0:¬((m':Int)<0):=by omega
      by_cases h0:m' * te.w=0
      ·refine⟨[],?_,by simp[h0],fun j hj=>?_⟩
       ·have hm0:m'=0:=by
         rcases Nat.mul_eq_zero.1 h0 with h|h
         ·exact h
         ·omega
        subst hm0;generalize a.eval=r at *;simp only[execOp,heq,hmv,hmv',Instr.makeSlice,uZ,run_underlying hu,uJ,asInt,asIntOf,kD,typeInfo,run_program,hi,hwr];simp[askRoom,roomBytes,q0x hte,newRow,newObj,kM,hwr]
        congr 2
        apply kQ;simp
       ·have:0<te.w:=hpos;have:=jC (show 0<m' by omega) this;omega
      ·refine⟨((kT (m' * te.w)).map fun i=>zvs.toArray[i % zvs.toArray.size]!).toList,?_,hcl,fun j hj=>?_⟩
       ·have hroom:¬(m' * i.bytes>roomBytes):=by
         have:m' * i.bytes≤16777216 * 4096:=vY hm2 hby;unfold roomBytes;omega
        generalize a.eval=r at *;simp only[execOp,heq,hmv,hmv',Instr.makeSlice,uZ,run_underlying hu,uJ,asInt,asIntOf,kD,typeInfo,run_program,hi,hwr];simp[askRoom,hroom,q0x hte,h0,hzr,hzc,newRow,newObj,kM,hb48,hlt0,hwr]
        congr 2
        apply kQ;simp
       ·have:=z93 (zvs:=zvs) (m:=m') (by omega) j hj;rw[hzl] at this;exact this
     obtain⟨cells,hrun,hcl,hcells⟩:=hrun;unfold Oper.wp;rw[hrun]
     show q0f c w0 S0 d z _ (a.put o.dst _) _
     rw[hdst];have:=z9f (σ:=σ) hb hf hd hz hk hte (x:=.rep xn (qfh te)) (l:=kN m' (q6c 8 te)) (by show D.r _=_;rw[hm];rfl) (dep:=[]) (cells:=cells) (by simp[hcl]) (by simpa using hm2) (fun j hj=>by
      have hj':j<m':=by simpa using hj
      rw[hcells j hj',vH];exact hzrd)
     simpa using this
    ·cases h
   ·cases h
  ·cases h
 ·cases h
end
end
structure Ow where
 f:Option (List Nat)
instance:Coe Bool Ow:=⟨fun b=>⟨cond b none (some [])⟩⟩
inductive Ar where
 |val(t:Ty)
 |ref(t:Ty)(o:Ow)
 |rref(t:Ty)
 |own(t:Ty)
 |mref(t:Ty)
 |nils
 |nilp
 |fn(f:FuncId)(ks:List Nat)
 |cell(T:TypeId)(j:Nat)
def qn9(o:Ow)(i:Nat)(t:Ty):List (Nat×Nat):=match o.f with
 |none=>qp i t
 |some []=>[]
 |some l=>(qp i t).filter fun e=>zs l e.1
inductive Src where
 |cap(i q:Nat)
 |cell(i:Nat)
structure Ct where
 f:FuncId
 ar:List Ar
 rs:List (Ty×Bool)
 vr:List (Src×Ar):=[]
 pn:Option TypeId:=none
 kp:List Nat:=[]
 fl:List (Nat×Nat×Ty):=[]
def qjt(ct:Ct)(F:Flr)(ds:List D):Prop:=∀te,F.mx te=0∨∃k j,(k,j,te)∈ct.fl∧(k=999∨F.mx te≤(((ds.getD k .u).fld j).rs.length))
variable{ct:Ct}{F:Flr}{ds:List D}
theorem qjt.zero(h:qjt ct F ds)(hf:ct.fl=[])(te:Ty):F.mx te=0:=by
 rcases h te with h|⟨k,j,hm,-⟩
 ·exact h
 ·rw[hf] at hm;cases hm
theorem qjt.of0(h:∀te,F.mx te=0):qjt ct F ds:=fun te=>.inl (h te)
variable{w0:World}
theorem Flo.of0(h:∀te,F.mx te=0){w w1:World}(hw:Flo F w0 w):Flo F w1 w':=fun k hk=>by
 obtain⟨cs,cs',T,te,h1,h2,h3,h4,-⟩:=hw k hk;rw[h te] at h4;omega
theorem Flo.anew{w:World}(h:Flo F w0 w):Flo F w w:=fun k hk=>by
 obtain⟨cs,cs',T,te,h1,h2,h3,h4,h5,h6,h7,h8⟩:=h k hk;exact⟨cs',cs',T,te,qt h6,h6,h3,h4,by rw[h7];exact h5,h6,rfl,fun j _=>rfl⟩
theorem Flo.trans{w:World}(h:Flo F w0 w)(h':Flo F w w'):Flo F w0 w':=fun k hk=>by
 obtain⟨cs,cs',T,te,h1,h2,h3,h4,h5,h6,h7,h8⟩:=h k hk;obtain⟨ds,ds',T',te',g1,g2,g3,g4,g5,g6,g7,g8⟩:=h' k hk;rw[h6] at g2;injection g2 with g2;injection g2 with e1 e2;subst e1 e2;exact⟨cs,ds',T,te,h1,h2,h3,h4,h5,g6,g7.trans h7,fun j hj=>(g8 j hj).trans (h8 j hj)⟩
def idx:Nat→List Ar→List (Nat×Ar)
 |_,[]=>[]
 |i,a::l=>(i,a)::idx (i+1) l
def Ct.all(ct:Ct):List (Nat×Ar):=idx 0 ct.ar++idx VB (ct.vr.map (·.2))
def jc(V:List Value)(A:Nat→Prop)(p:qj)(w:World):List (Nat×Ar)→List Value→List D→Prop
  |[],vs,ds=>vs=[]∧ds=[]
  |(_,.val t)::l,vs,ds=>∃v r d ds',vs=v::r∧ds=d::ds'∧(∃cs,jj t cs v∧Rd w (FFD A p []) d t cs)∧jc V A p w l r ds'
  |(i,.ref t o)::l,vs,ds=>∃v r d ds',vs=v::r∧ds=d::ds'∧(∃g cs T,p (i * 16)=some g∧v=.pointer (some ⟨g,0,none⟩)∧w.heap[g]? =some (.cells cs T (0,0))∧qm T=some t∧Con A p w d t (qn9 o i t) [] cs.toList)∧jc V A p w l r ds'
  |(_,.rref t)::l,vs,ds=>∃v r d ds',vs=v::r∧ds=d::ds'∧(∃b o cs,v=.pointer (some ⟨b,o,none⟩)∧FFD A p [] b∧w.rangeAt b o cs∧0<cs.length∧Rd w (FFD A p []) d t cs)∧jc V A p w l r ds'
  |(i,.own t)::l,vs,ds=>∃v r d ds',vs=v::r∧ds=d::ds'∧(∃cs,jj t cs v∧Con A p w d t (qp i t) [] cs)∧jc V A p w l r ds'
  |(i,.mref t)::l,vs,ds=>∃v r d ds',vs=v::r∧ds=d::ds'∧(∃cs,jj t cs v∧Con A p w d t (qp i t) [] cs)∧jc V A p w l r ds'
  |(_,.nils)::l,vs,ds=>∃r,vs=.slice none 0 0::r∧jc V A p w l r ds
  |(_,.nilp)::l,vs,ds=>∃r,vs=.pointer none::r∧jc V A p w l r ds
  |(_,.fn f ks)::l,vs,ds=>∃r,vs=.func (.func f) #[] (ks.map fun k=>V.getD k undef).toArray::r∧jc V A p w l r ds
  |(_,.cell T j)::l,vs,ds=>∃b r,vs=.pointer (some ⟨b,0,none⟩)::r∧A b∧q7h p b∧w.heap[b]? =some (.cells #[V.getD j undef] T (0,0))∧jc V A p w l r ds
def qbj(A:Nat→Prop)(p:qj)(w:World):List (Ty×Bool)→Nat→List Value→List D→Prop
  |[],_,vs,ds=>vs=[]
  |(t,own)::l,k,vs,ds=>∃v r d ds',vs=v::r∧ds=d::ds'∧(∃cs,jj t cs v∧Con A p w d t (if own then qp k t else[]) [] cs)∧qbj A p w l (k+1) r ds'
def q49(V:List Value)(A:Nat→Prop)(p p':qj)(w:World):List (Nat×Ar)→List D→Prop
  |[],ds=>ds=[]
  |(i,.ref t o)::l,ds=>∃d ds',ds=d::ds'∧(∃g cs T,p (i * 16)=some g∧p' (i * 16)=some g∧w.heap[g]? =some (.cells cs T (0,0))∧qm T=some t∧Con A p' w d t (qn9 o i t) [] cs.toList)∧q49 V A p p' w l ds'
  |(i,.mref t)::l,ds=>∃d ds',ds=d::ds'∧((∃g,p (i * 16+1)=some g∧p' (i * 16+1)=some g∧Con A p' w d t [(0,i * 16+1)] [] [.map (some g)])∨(qpx t=true∧∃v cs,V[i]? =some v∧jj t cs v∧Con A p' w d t (qp i t) [] cs))∧q49 V A p p' w l ds'
  |_::l,ds=>q49 V A p p' w l ds
def qiy:List Value→Value
 |[v]=>v
 |l=>.tuple l.toArray
structure Pre(n:Nat)(A:Nat→Prop)(F:Flr)(p:qj)(w:World):Prop where
 inj:∀x y b,p x=some b→p y=some b→x=y
 bd:∀x b,p x=some b→b<w.heap.size
 pa:∀x b,p x=some b→A b
 obj:∀x b,p x=some b→qiw w b
 new:∀b,w.heap.size≤b→A b∧F.fr b
 keys:∀x b,p x=some b→x / 16<n∨VB≤x / 16
def pinned(p:qj):Nat→Prop:=fun b=>∃x,p x=some b
def qao(T:TypeId):List PanicEntry:=[{v:=.iface T (.agg #[]),recovered:=false}]
def Kpt(l:List Nat)(p p':qj)(w w':World):Prop:=∀q∈l,∀b,p q=some b→p' q=some b∧w'.heap[b]? =w.heap[b]?
structure FOk(ct:Ct)(g:List D→Option (List D)):Prop where
 enter:∀args w,(callFunc ct.f args).run uA w=.ok (.enter ct.f args) w
 call:∀(A:Nat→Prop)(F:Flr)(p:qj)(w:World)(vs us:List Value)(ds outs:List D),g ds=some outs→qjt ct F ds→Flo F w w→Pre ct.ar.length A F p w→vs.length=ct.ar.length→jc (vs++us) A p w ct.all (vs++us) ds→
  Calls uA ct.f vs.toArray w fun e w'=>(∃T,ct.pn=some T∧outs=[.u]∧e=.panicked (qao T)∧But (pinned p) w w')∨∃rs p',e=.returned (qiy rs)∧Bs A F w (pinned p) p' w'∧qbj A p' w' ct.rs ct.ar.length rs (outs.take ct.rs.length)∧q49 (vs++us) A p p' w' ct.all (outs.drop ct.rs.length)
 keep:ct.kp≠[]→∀(A:Nat→Prop)(F:Flr)(p:qj)(w:World)(vs us:List Value)(ds outs:List D),g ds=some outs→qjt ct F ds→Flo F w w→Pre ct.ar.length A F p w→vs.length=ct.ar.length→jc (vs++us) A p w ct.all (vs++us) ds→
  Calls uA ct.f vs.toArray w fun e w'=>(∃T,ct.pn=some T∧outs=[.u]∧e=.panicked (qao T)∧But (pinned p) w w')∨∃rs p',e=.returned (qiy rs)∧Bs A F w (pinned p) p' w'∧qbj A p' w' ct.rs ct.ar.length rs (outs.take ct.rs.length)∧q49 (vs++us) A p p' w' ct.all (outs.drop ct.rs.length)∧Kpt ct.kp p p' w w':=by intro h;exact absurd rfl h
theorem FOk.callK{g:List D→Option (List D)}(h:FOk ct g):∀(A:Nat→Prop)(F:Flr)(p:qj)(w:World)(vs us:List Value)(ds outs:List D),g ds=some outs→qjt ct F ds→Flo F w w→Pre ct.ar.length A F p w→vs.length=ct.ar.length→jc (vs++us) A p w ct.all (vs++us) ds→
  Calls uA ct.f vs.toArray w fun e w'=>(∃T,ct.pn=some T∧outs=[.u]∧e=.panicked (qao T)∧But (pinned p) w w')∨∃rs p',e=.returned (qiy rs)∧Bs A F w (pinned p) p' w'∧qbj A p' w' ct.rs ct.ar.length rs (outs.take ct.rs.length)∧q49 (vs++us) A p p' w' ct.all (outs.drop ct.rs.length)∧Kpt ct.kp p p' w w':=fun A F p w vs us ds outs h1 hfl hfo h2 h3 h4=>by
 by_cases hk:ct.kp=[]
 ·refine(h.call A F p w vs us ds outs h1 hfl hfo h2 h3 h4).mono fun e w'=>Or.imp id fun⟨rs,p',a,b,c,d⟩=>⟨rs,p',a,b,c,d,?_⟩;rw[hk];intro q hq;cases hq
 ·exact h.keep hk A F p w vs us ds outs h1 hfl hfo h2 h3 h4
abbrev Tbl:=List (Ct×(List D→Option (List D)))
def qf(tbl:Tbl):Nat→List D→Option (List D):=fun n ds=>match tbl[n]? with
 |some e=>e.2 ds
 |none=>none
def zqa(ct:Ct):Option Ty:=match ct.ar,ct.rs with
 |[.val (.st 4242424243)],(t,_)::_=>some t
 |_,_=>none
def flI(t:Ty):Nat→Tbl→Option Nat
 |_,[]=>none
 |n,e::l=>match zqa e.1 with
  |some t'=>if Ty.beq t' t then some n else flI t (n+1) l
  |none=>none
def z7a:Tbl→List Ty
 |[]=>[]
 |e::l=>match zqa e.1 with
  |some t'=>t'::z7a l
  |none=>[]
def flX(tbl:Tbl)(t:Ty):Option X:=(flI t 0 tbl).map fun n=>.call n 0 []
def flM(tbl:Tbl)(t:Ty):Nat:=match flI t 0 tbl with
 |some n=>(((qf tbl n []).getD []).getD 0 .u).int.toNat
 |none=>0
structure HS(c:Cx)(tbl:Tbl):Prop where
 s:c.v.S=qf tbl
 f:∀te,c.F.mx te≤flM tbl te
theorem z9d{t:Ty}:∀{l:Tbl}{n i:Nat},flI t n l=some i→t∈z7a l
 |[],n,i,h=>by cases h
 | e :: l, n, i, h => by
  unfold flI at h;unfold z7a;split at h
  ·rename_i t' ht;split at h
   ·rename_i he;rw[(Ty.beq_iff _ _).1 he];exact uV
   ·exact uK _ (z9d h)
  ·cases h
variable{tbl:Tbl}
theorem HS.zero(h:HS c tbl)(hn:te∉z7a tbl):c.F.mx te=0:=by
 have:=h.f te;unfold flM at this;split at this
 ·rename_i n hi;exact absurd (z9d hi) hn
 ·omega
def q0v(tbl:Tbl):Prop:=∀e,e∈tbl→FOk e.1 e.2
def qjq(tbl:Tbl)(w0:World)(S0:Nat→Prop)(d:List Deferred)(Q:Exit→Act→World→Prop):Prop:=∀e∈tbl,∀T,e.1.pn=some T→(∃ds,e.2 ds=some [.u])→∀a w,a.defers=d→But S0 w0 w→Q (.panic (qao T)) a w
def zvy(tbl:Tbl)(R:List D→Prop)(w0:World)(S0:Nat→Prop)(d:List Deferred)(Q:Exit→Act→World→Prop):Prop:=R [.u]→∀e∈tbl,∀T,e.1.pn=some T→∀a w,a.defers=d→But S0 w0 w→Q (.panic (qao T)) a w
def q9v(tbl:Tbl):Bool:=tbl.all fun e=>e.1.pn.isNone
theorem q9b(h:q9v tbl=true){e:Ct×(List D→Option (List D))}(he:e∈tbl)(hT:e.1.pn=some T):False:=by
 have:=kK.1 h e he;rw[hT] at this;cases this
variable{S0:Nat→Prop}
theorem q5t(h:q9v tbl=true){d:List Deferred}:qjq tbl w0 S0 d Q:=fun e he T hT=>(q9b h he hT).elim
theorem qkg(h:q9v tbl=true){R:List D→Prop}{d:List Deferred}:zvy tbl R w0 S0 d Q:=fun _ e he T hT=>(q9b h he hT).elim
mutual
/-- Both are one value. -/
def q3f:AV→AV→Bool
 |.sn i _,.sn j _=>uB i j
 |.ref k _ o _,.ref k' _ o' _=>uB k k'&&uB o o'
 |.ref k _ o _,.bx k' _ _=>uB k k'&&uB o 0
 |.bx k _ _,.ref k' _ o _=>uB k k'&&uB o 0
 |.bx k _ _,.bx k' _ _=>uB k k'
 |.fn f l,.fn f' l'=>uB f f'&&qoa l l'
 |.nilP,.nilP=>true
 |_,_=>false
def qoa:List AV→List AV→Bool
 |[],[]=>true
 |a::l,b::m=>q3f a b&&qoa l m
 |_,_=>false
end
def zde(σ:St):AV→AV
 |.sn _ a=>a
 | .ref k path o t => (match path, o with
  |[],0=>(match lkA σ.t k with
   |some (.bx k' T a)=>if uB k' k then .bx k T a else .ref k path o t
   |_=>.ref k path o t)
  |_,_=>.ref k path o t)
 |a=>a
def zp2(σ:St)(avs:List AV):Src→Option AV
 | .cap i q => (match avs[i]? with
  |some a=>(match zde σ a with
   |.fn _ l=>l[q]?
   |_=>none)
  |none=>none)
 | .cell i => (match avs[i]? with
  |some a=>(match zde σ a with
   |.bx _ _ a=>some a
   |.fr _ a=>some a
   |_=>none)
  |none=>none)
def qyh(σ:St):List AV→List Src→Option (List AV)
 |avs,[]=>some avs
 |avs,s::l=>match zp2 σ avs s with
  |some a=>qyh σ (avs++[a]) l
  |none=>none
def zdx(V:List AV):List AV→List Nat→Bool
 |[],[]=>true
 |a::l,k::ks=>(match V[k]? with
  |some b=>q3f a b
  |none=>false)&&zdx V l ks
 |_,_=>false
def z1c(V:List AV)(j:Nat)(c:AV):Bool:=match V[j]? with
 |some b=>q3f c b
 |none=>false
def zxb:Ar→AV→Bool
 |.val t,a=>(q6e t a).isSome
 |.ref t _,.ref _ [] 0 t'=>Ty.beq t' t
 |.rref t,.ref _ [] 0 t'=>Ty.beq t' t
 |.rref t,.rd _ t' _ _=>Ty.beq t' t
 |.own t,a=>(q6e t a).isSome
 |.mref t,a=>(q6e t a).isSome
 |.nils,.nilS=>true
 |.nilp,.nilP=>true
 |.fn f _,.fn f' _=>uB f f'
 |.cell T _,.bx _ T' _=>uB T T'
 |.cell T _,.fr T' _=>uB T T'
 |_,_=>false
def zqg(σ:St):List (Nat×Ar)→List AV→Bool
 |[],[]=>true
 |r::l,a::m=>zxb r.2 (zde σ a)&&zqg σ l m
 |_,_=>false
def z3q(σ:St)(args:List AV)(ct:Ct):Option (List AV):=match qyh σ args (ct.vr.map (·.1)) with
 |some V=>if uB args.length ct.ar.length&&zqg σ ct.all V then some V else none
 |none=>none
def qm6(σ:St)(f:FuncId)(args:List AV):Tbl→Nat→Option (Nat×Ct×List AV)
 |[],_=>none
 |e::l,n=>if uB e.1.f f then(match z3q σ args e.1 with
  |some V=>some (n,e.1,V)
  |none=>qm6 σ f args l (n+1)) else qm6 σ f args l (n+1)
def MB:Nat:=1000000000
def qj7(k:Nat):Nat:=if kV MB k then k - MB else k * 16
def qjs(k i:Nat):Nat:=if kV MB k then i * 16+1 else i * 16
structure Gv where
 xs:List X
 dep:List Nat
 pass:List (Nat×Nat)
 vars:List (Nat×Nat×Ty×List (Nat×Nat))
def qjj(own mine:List (Nat×Nat)):Option (List (Nat×Nat×Nat)):=match own with
  |[]=>some []
  | (j, q) :: l => match lkA mine j, qjj l mine with
    |some pin,some r=>some ((j,q,pin)::r)
    |_,_=>none
def qc4(σ:St)(V:List AV)(i:Nat)(r:Ar)(a:AV)(g:Gv):Option Gv:=match r,a with
 |.val t,a=>(match q6e t a with
  |some (x,own,dep)=>some ⟨x::g.xs,uni (uni (own.map (·.2)) dep) g.dep,g.pass,g.vars⟩
  |none=>none)
 | .ref t o, .ref k [] 0 t' => (match lkA σ.m k with
  |some e=>if jB k MB&&(Ty.beq t' t&&(Ty.beq e.t t&&e.own.all fun y=>(lkA (qn9 o i t) y.1).isSome)) then(match qjj (qn9 o i t) e.own with
   |some ps=>some ⟨e.x::g.xs,uni e.dep g.dep,(i * 16,k * 16)::ps.map (·.2)++g.pass,(k,i,t,ps.map fun y=>(y.1,y.2.2))::g.vars⟩
   |none=>none) else none
  |none=>none)
 |.rref t,.ref k [] 0 t'=>(match lkA σ.m k with
  |some e=>if Ty.beq t' t&&(Ty.beq e.t t&&jB 0 t.w) then some ⟨e.x::g.xs,uni (k * 16::uni (e.own.map (·.2)) e.dep) g.dep,g.pass,g.vars⟩ else none
  |none=>none)
 |.rref t,.rd x t' dep _=>if Ty.beq t' t then some ⟨x::g.xs,uni dep g.dep,g.pass,g.vars⟩ else none
 |.own (.row E),.nilS=>if(qm E).isSome then some ⟨.lit (.r [])::g.xs,g.dep,g.pass,g.vars⟩ else none
 | .own t, a => (match q6e t a with
  |some (x,own,dep)=>if own.all fun y=>(lkA (qp i t) y.1).isSome then(match qjj (qp i t) own with
   |some ps=>some ⟨x::g.xs,uni dep g.dep,ps.map (·.2)++g.pass,g.vars⟩
   |none=>none) else none
  |none=>none)
 |.mref t,a=>(match q6e t a with
  |some (x,[(0,pin)],_)=>if qbm t||qpx t then some ⟨x::g.xs,g.dep,(i * 16+1,pin)::g.pass,(MB+pin,i,t,[(0,pin)])::g.vars⟩ else none
  |_=>none)
 |.nils,.nilS=>some g
 |.nilp,.nilP=>some g
 |.fn f ks,.fn f' l=>if uB f f'&&zdx V l ks then some g else none
 |.cell T j,.bx k T' c=>if uB T T'&&z1c V j c then some ⟨g.xs,uni [k * 16] g.dep,g.pass,g.vars⟩ else none
 |.cell T j,.fr T' c=>if uB T T'&&z1c V j c then some g else none
 |_,_=>none
def give(σ:St)(V:List AV):List (Nat×Ar)→List AV→Option Gv
  |[],[]=>some ⟨[],[],[],[]⟩
  | (i, r) :: l, a :: m => match give σ V l m with
    |some g=>qc4 σ V i r (zde σ a) g
    |none=>none
  |_,_=>none
def q1x:List Nat→Bool
 |[]=>true
 |x::l=> !zs l x&&q1x l
def zi5(t:Ty)(own:Bool)(l:List Nat):List Nat:=if zt 8 t||(own&&qhn t) then[] else l
def shO(j:Nat)(l:List (Nat×Nat)):List (Nat×Nat):=match j with
 |0=>l
 |_+1=>l.map fun e=>(e.1,e.2+7)
def zak(n:Nat)(xs:List X)(dep:List Nat)(k:Nat):List (Ty×Bool)→Nat→List AV
 |[],_=>[]
 |(t,own)::l,j=>.v (.call n j xs) t (if own then shO j (qp k t) else[]) (zi5 t own dep)::zak n xs dep k l (j+1)
def zvq:List AV→AV
 |[a]=>a
 |l=>.tup l
def qhe(n k:Nat)(rs:List (Ty×Bool))(j:Nat:=0):List (Nat×Nat):=match rs with
 |[]=>[]
 |(t,own)::l=>(if own then(qp n t).zip (shO j (qp k t))|>.map fun e=>(e.1.2,e.2.2) else[])++qhe (n+1) k l (j+1)
def q5s(n:Nat)(xs:List X)(dep:List Nat):List (Nat×Nat×Ty×List (Nat×Nat))→Nat→List (Nat×Ent)→List (Nat×Ent)
 |[],_,m=>m
 |(k,_,t,own)::l,j,m=>q5s n xs dep l (j+1) (if kV MB k then m else q08 m k ⟨.call n j xs,t,own,zi5 t (qr6 t own) dep⟩)
def zit(n j:Nat)(xs:List X)(pin:Nat)(t:Ty):AV→Option AV
 |.v _ t' [(0,q)] _=>if uB q pin&&Ty.beq t' t then some (.v (.call n j xs) t [(0,pin)] []) else none
 |.sn s (.v _ t' [(0,q)] _)=>if uB q pin&&Ty.beq t' t then some (.sn s (.v (.call n j xs) t [(0,pin)] [])) else none
 |_=>none
def zd7(f:AV→Option AV)(o:List (Nat×AV)):List (Nat×AV)→List (Nat×AV)→List (Nat×AV)
 |[],acc=>acc
 |e::l,acc=>match(lkA o e.1).bind f with
  |some y=>q08 (zd7 f o l acc) e.1 y
  |none=>zd7 f o l acc
def zu9(n j:Nat)(xs:List X)(pin:Nat)(t:Ty)(q:Nat):AV→Option AV
 |.sn q' a=>if uB q' q then zit n j xs pin t (.sn q' a) else none
 |_=>none
def zw1(n j:Nat)(xs:List X)(pin i:Nat)(t:Ty)(args:List Operand)(o acc:List (Nat×AV)):List (Nat×AV):=match args[i]? with
 | some (.tmp s) => (match lkA o s with
  |some (.sn q _)=>zd7 (zu9 n j xs pin t q) o o acc
  |some x=>(match zit n j xs pin t x with
   |some y=>q08 acc s y
   |none=>acc)
  |none=>acc)
 |_=>acc
def z5t(n:Nat)(xs:List X)(args:List Operand)(o:List (Nat×AV)):List (Nat×Nat×Ty×List (Nat×Nat))→Nat→List (Nat×AV)→List (Nat×AV)
 |[],_,acc=>acc
 |(k,i,t,_)::l,j,acc=>z5t n xs args o l (j+1) (if kV MB k then(if qpx t then zw1 n j xs (k - MB) i t args o acc else zd7 (zit n j xs (k - MB) t) o o acc) else acc)
def qv1(l:List (Nat×Nat×Ty×List (Nat×Nat))):List Nat:=(l.filter fun y=> !(kV MB y.1&&qpx y.2.2.1)).map fun y=>qj7 y.1
def inL(l:List Nat):Nat→Bool:=zs l
def z86(σ:St)(cs:List (X×Bool))(y:Operand)(args:List Operand):Option (FuncId×List AV):=match opd σ cs y,opds σ cs args with
 |some (.fn f l),some r=>some (f,r++l)
 |_,_=>none
def znv(tbl:Tbl)(xs:List X)(fl:List (Nat×Nat×Ty))(t:Ty):Option X:=match fl with
  |[]=>none
  | (k, j, t') :: l => if Ty.beq t' t then (if uB k 999 then some (.lit (.b true)) else match xs[k]?, flX tbl t with
    |some x,some b=>some (leX b (qa8 (.fld x j)))
    |_,_=>none) else znv tbl xs l t
def zlg(tbl:Tbl)(xs:List X)(fl:List (Nat×Nat×Ty)):List Ty→Option (List X)
 |[]=>some []
 |t::l=>match znv tbl xs fl t,zlg tbl xs fl l with
  |some x,some r=>some (x::r)
  |_,_=>none
def flC(tbl:Tbl)(ct:Ct)(xs:List X)(pass:List (Nat×Nat)):Option (List X):=match z7a tbl with
 |[]=>some []
 |l=>if pass.isEmpty then some [] else zlg tbl xs ct.fl l
def qes(ct:Ct)(pass:List (Nat×Nat)):List Nat:=(pass.filter fun y=> !zs ct.kp y.1).map (·.2)
def qs6(tbl:Tbl)(σ0:St)(cs:List (X×Bool))(k:Nat)(y:Operand)(args:List Operand):Option (List X×St):=
 let σ:=σ0.un (qs k)
 match z86 σ cs y args with
 | some (f, avs) => match qm6 σ f avs tbl 0 with
  | some (n, ct, V) => match give σ V ct.all V with
   | some g =>
    let Z:=inL (qes ct g.pass)
    let L:=inL ((qes ct g.pass).filter fun x=> !zs (qv1 g.vars) x)
    let ren:=g.pass++qhe ct.ar.length k ct.rs
    if q1x (ren.map (·.1))&&(q1x (ren.map (·.2))&&(g.dep.all (fun x=> !inL (g.pass.map (·.2)) x)&&(g.pass.all (fun y=> !Nat.beq (y.2 / 16) k&&(jB (y.1 / 16) ct.ar.length||kV VB (y.1 / 16)))&&(qhe ct.ar.length k ct.rs).all fun y=>uB (y.2 / 16) k))) then
     (flC tbl ct g.xs g.pass).map fun fs=>(.ok n g.xs::fs,⟨q08 (z5t n g.xs args σ.t g.vars ct.rs.length (q9w Z L σ.t)) k (zvq (zak n g.xs g.dep k ct.rs 0)),q5s n g.xs g.dep g.vars ct.rs.length (q9x Z L σ.m)⟩)
    else none
   |none=>none
  |none=>none
 |none=>none
variable{V:List AV}{VV:List Value}{A0:Nat→Prop}
section
section
variable{A A2:Nat→Prop}{p p2:qj}{w w2:World}{dep dep2:List Nat}
structure RelD(A:Nat→Prop)(p:qj)(w:World)(dep:List Nat)(own:List (Nat×Nat))(A2:Nat→Prop)(p2:qj)(w2:World)(dep2:List Nat)(own2:List (Nat×Nat)):Prop where
 kp:Kp (FFD A p dep) (FFD A2 p2 dep2) w w2
 yes:∀j q,lkA own2 j=some q→∃pin,lkA own j=some pin∧∀g,p pin=some g→p2 q=some g∧w2.heap[g]? =w.heap[g]?
 none:∀j,lkA own2 j=none→lkA own j=none
theorem Fl.relabel{own own2:List (Nat×Nat)}(hr:RelD A p w dep own A2 p2 w2 dep2 own2){t:Ty}(h:Fl A p w dep (lkA own j) d t cs):Fl A2 p2 w2 dep2 (lkA own2 j) d t cs:=by
 cases h2:lkA own2 j with
 |none=>
  rw[hr.none j h2] at h;exact Rd.keeps hr.kp _ h
 | some q =>
  obtain⟨pin,h1,hp⟩:=hr.yes j q h2;rw[h1] at h;rcases h.symm with⟨K,V,kt,vt,l,g,es,clock,e1,hK,hV,e2,e3,hg,hh,hl⟩|⟨E,te,l,v,e1,hte,e2,e3,hv⟩
  ·obtain⟨hq,he⟩:=hp g hg;exact .inr ⟨K,V,kt,vt,l,g,es,clock,e1,hK,hV,e2,e3,hq,he.trans hh,hl⟩
  refine .inl ⟨E,te,l,v,e1,hte,e2,e3,?_⟩;rcases hv with hv|⟨g,cap,cur,e4,hg,hh,q1,q2,q3,q4,q5⟩
  ·exact .inl hv
  ·obtain⟨hq,he⟩:=hp g hg;refine .inr ⟨g,cap,cur,e4,hq,he.trans hh,q1,q2,q3,q4,fun i hi=>?_⟩;obtain⟨vs,hr1,hd⟩:=q5 i hi;exact⟨vs,qg6 hr1 he,Rd.keeps hr.kp _ hd⟩
theorem Fls.relabel{own own2:List (Nat×Nat)}(hr:RelD A p w dep own A2 p2 w2 dep2 own2):∀{ds:List D}{n:Nat}{fs:List Ty}{cs:List Value},Fls A p w dep own n ds fs cs→Fls A2 p2 w2 dep2 own2 n ds fs cs
 |[],_,_,_,h=>h
 |d::ds,n,fs,cs,⟨t,ts,c1,c2,e1,e2,h1,h2⟩=>⟨t,ts,c1,c2,e1,e2,Fl.relabel hr h1,Fls.relabel hr h2⟩
theorem Con.relabel{own own2:List (Nat×Nat)}(hr:RelD A p w dep own A2 p2 w2 dep2 own2){t:Ty}(h:Con A p w d t own dep cs):Con A2 p2 w2 d t own2 dep2 cs:=by
 unfold Con at h⊢;split
 ·obtain⟨fs,ds,hf,e,h⟩:=h;exact⟨fs,ds,hf,e,Fls.relabel hr h⟩
 ·rename_i hne;split at h
  ·rename_i T;exact absurd rfl (hne T)
  ·exact Fl.relabel hr h
theorem z0p{t:Ty}{k:Nat}{b:Bool}{own:List (Nat×Nat)}(hown:b=true→∀j,lkA (qp k t) j≠none→lkA own j≠none)(h:Con A p w d t own dep cs):Con A p w d t own (zi5 t b dep) cs:=by
 unfold zi5;split
 ·rename_i hf;simp only[kL,gnB] at hf;rcases hf with hf|⟨hb,hf⟩
  ·exact h.flatT hf
  ·exact h.flat1 (hown hb) hf
 ·exact h
end
theorem qgb{l:List (Nat×Nat)}(hn:q1x (l.map (·.2))=true){q x:Nat}(h:(q,x)∈l):lkA (l.map fun y=>(y.2,y.1)) x=some q:=by
 induction l with
 |nil=>cases h
 | cons e l ih =>
  obtain⟨q',x'⟩:=e;simp only[uW,q1x,gnB,uU] at hn;rcases kW.1 h with h|h
  ·injection h with h1 h2;subst h1 h2;exact qa
  ·have hx:x'≠x:=fun e=>by
    subst e;have:x'∈l.map (·.2):=kF.2 ⟨(q,x'),h,rfl⟩;rw[yo.2 this] at hn;cases hn.1
   rw[uW,qd hx];exact ih hn.2 h
theorem qde{l:List (Nat×Nat)}(hn:q1x (l.map (·.1))=true){q x:Nat}(h:(q,x)∈l):lkA l q=some x:=by
 induction l with
 |nil=>cases h
 | cons e l ih =>
  obtain⟨q',x'⟩:=e;simp only[uW,q1x,gnB,uU] at hn;rcases kW.1 h with h|h
  ·injection h with h1 h2;subst h1 h2;exact qa
  ·have hx:q'≠q:=fun e=>by
    subst e;have:q'∈l.map (·.1):=kF.2 ⟨(q',x),h,rfl⟩;rw[yo.2 this] at hn;cases hn.1
   rw[qd hx];exact ih hn.2 h
theorem z47{l:List (Nat×Nat)}{q x:Nat}(h:lkA (l.map fun y=>(y.2,y.1)) x=some q):(q,x)∈l:=by
 have:=qx h;obtain⟨e,he,h1⟩:=kF.1 this;injection h1 with h1 h2;subst h1 h2;exact he
theorem qhj:∀{own mine:List (Nat×Nat)}{ps:List (Nat×Nat×Nat)},qjj own mine=some ps→ps.map (fun y=>(y.1,y.2.1))=own∧∀y∈ps,lkA mine y.1=some y.2.2
  | [], mine, ps, h => by
    simp only[qjj,kX] at h;subst h;exact⟨rfl,fun y hy=>by cases hy⟩
  | (j, q) :: l, mine, ps, h => by
    simp only[qjj] at h;split at h
    · rename_i pin r h1 h2;injection h with h;subst h;obtain⟨i1,i2⟩:=qhj h2;refine⟨by simp[i1],fun y hy=>?_⟩;rcases kW.1 hy with rfl|hy
      · exact h1
      · exact i2 y hy
    · cases h
theorem qra{ps:List (Nat×Nat×Nat)}:(∀q,lkA (ps.map fun y=>(y.1,y.2.1)) j=some q→∃pin,(j,q,pin)∈ps∧lkA (ps.map fun y=>(y.1,y.2.2)) j=some pin)∧(∀pin,lkA (ps.map fun y=>(y.1,y.2.2)) j=some pin→∃q,(j,q,pin)∈ps∧lkA (ps.map fun y=>(y.1,y.2.1)) j=some q):=by
 induction ps with
 |nil=>exact⟨fun q h=>(by cases h),fun q h=>(by cases h)⟩
 | cons e l ih =>
  obtain⟨m,q0,x0⟩:=e;by_cases hm:m=j
  ·subst hm;constructor
   ·intro q h;rw[uW,qa] at h;injection h with h;subst h;exact⟨x0,uV,by rw[uW];exact qa⟩
   ·intro q h;rw[uW,qa] at h;injection h with h;subst h;exact⟨q0,uV,by rw[uW];exact qa⟩
  ·constructor
   ·intro q h;rw[uW,qd hm] at h;obtain⟨pin,h1,h2⟩:=ih.1 q h;exact⟨pin,uK _ h1,by rw[uW,qd hm];exact h2⟩
   ·intro q h;rw[uW,qd hm] at h;obtain⟨pin,h1,h2⟩:=ih.2 q h;exact⟨pin,uK _ h1,by rw[uW,qd hm];exact h2⟩
section
variable{c:Cx}{p p':qj}{w w' w0:World}{S0:Nat→Prop}{a:Act}{σ σ':St}{cs:List (X×Bool)}{o:Oper}{d:List Deferred}{z:Nat}
theorem z35(hf:SF c σ p w a){v:Value}(h:x.pd c p w v):(zde σ x).pd c p w v:=by
 unfold zde;split
 ·exact h.2
 ·rename_i k path o t;split
  ·split
   ·rename_i k' T y hl;split
    ·rename_i hk;have hk:=gnN hk;subst hk;obtain⟨v',-,g,u,hg,e,hh,hy⟩:=hf.t k' _ hl;obtain⟨g',hg',e',-⟩:=h;obtain rfl:=gnI (hg.1.symm.trans hg');exact⟨g,u,hg,e',hh,hy⟩
    ·exact h
   ·exact h
  ·exact h
 ·exact h
mutual
theorem qk8:∀(x y:AV){v v':Value},q3f x y=true→x.pd c p w v→y.pd c p w v'→v=v'
 | .sn i x, y, v, v', h, hx, hy => by
  cases y with
  |sn j y=>
   have h:=gnN h;subst h;rw[hx.1,hy.1]
  |_=>cases h
 | .ref k p1 o t, y, v, v', h, hx, hy => by
  obtain⟨g,hg,rfl,-⟩:=hx;cases y with
  |ref k' p2 o' t'=>
   simp only[q3f,gnB] at h;obtain⟨g',hg',rfl,-⟩:=hy;obtain⟨h1,h2⟩:=h;have h1:=gnN h1;have h2:=gnN h2;subst h1 h2;obtain rfl:=gnI (hg.symm.trans hg');rfl
  |bx k' T b=>
   simp only[q3f,gnB] at h;obtain⟨g',u,⟨hg',-⟩,rfl,-⟩:=hy;obtain⟨h1,h2⟩:=h;have h1:=gnN h1;have h2:=gnN h2;subst h1 h2;obtain rfl:=gnI (hg.symm.trans hg');rfl
  |_=>simp[q3f] at h
 | .bx k T b, y, v, v', h, hx, hy => by
  obtain⟨g,u,⟨hg,-⟩,rfl,-⟩:=hx;cases y with
  |ref k' p2 o' t'=>
   simp only[q3f,gnB] at h;obtain⟨g',hg',rfl,-⟩:=hy;obtain⟨h1,h2⟩:=h;have h1:=gnN h1;have h2:=gnN h2;subst h1 h2;obtain rfl:=gnI (hg.symm.trans hg');rfl
  |bx k' T' b'=>
   simp only[q3f] at h;obtain⟨g',u',⟨hg',-⟩,rfl,-⟩:=hy;have h:=gnN h;subst h;obtain rfl:=gnI (hg.symm.trans hg');rfl
  |_=>simp[q3f] at h
 | .fn f l, y, v, v', h, hx, hy => by
  obtain⟨vs,rfl,hl⟩:=hx;cases y with
  |fn f' l'=>
   simp only[q3f,gnB] at h;obtain⟨vs',rfl,hl'⟩:=hy;rw[gnN h.1,qzx l l' h.2 hl hl']
  |_=>simp[q3f] at h
 | .nilP, y, v, v', h, hx, hy => by
  cases y with
  |nilP=>
   obtain rfl:v=.pointer none:=hx;obtain rfl:v'=.pointer none:=hy;rfl
  |_=>simp[q3f] at h
 |.any,y,v,v',h,hx,hy=>by cases y<;>simp[q3f] at h
 |.undef,y,v,v',h,hx,hy=>by cases y<;>simp[q3f] at h
 |.v _ _ _ _,y,v,v',h,hx,hy=>by cases y<;>simp[q3f] at h
 |.nilS,y,v,v',h,hx,hy=>by cases y<;>simp[q3f] at h
 |.rd _ _ _ _,y,v,v',h,hx,hy=>by cases y<;>simp[q3f] at h
 |.tup _,y,v,v',h,hx,hy=>by cases y<;>simp[q3f] at h
 |.gd _ _,y,v,v',h,hx,hy=>by cases y<;>simp[q3f] at h
 |.nb _ _,y,v,v',h,hx,hy=>by cases y<;>simp[q3f] at h
 |.fr _ _,y,v,v',h,hx,hy=>by cases y<;>simp[q3f] at h
 |.ff _ _ _ _ _ _ _ _,y,v,v',h,hx,hy=>by cases y<;>simp[q3f] at h
 |.pt _ _ _ _,y,v,v',h,hx,hy=>by cases y<;>simp[q3f] at h
 |.ar _ _ _,y,v,v',h,hx,hy=>by cases y<;>simp[q3f] at h
 |.lv _ _,y,v,v',h,hx,hy=>by cases y<;>simp[q3f] at h
 |.ax _ _ _ _,y,v,v',h,hx,hy=>by cases y<;>simp[q3f] at h
theorem qzx:∀(l m:List AV){vs vs':List Value},qoa l m=true→pds c p w l vs→pds c p w m vs'→vs=vs'
 |[],m,vs,vs',h,hx,hy=>by
  cases m with
  |nil=>rw[show vs=[] from hx,show vs'=[] from hy]
  |cons=>simp[qoa] at h
 | x :: l, m, vs, vs', h, hx, hy => by
  cases m with
  |nil=>simp[qoa] at h
  |cons y m=>
   simp only[qoa,gnB] at h;obtain⟨v,r,rfl,h1,h2⟩:=hx;obtain⟨v',r',rfl,h3,h4⟩:=hy;rw[qk8 x y h.1 h1 h3,qzx l m h.2 h2 h4]
end
theorem qhh{l:List AV}:∀{vs:List Value}{i:Nat}{x:AV},pds c p w l vs→l[i]? =some x→∃v,vs[i]? =some v∧x.pd c p w v:=by
 induction l with
 |nil=>intro vs i x _ h;simp at h
 | cons y l ih =>
  rintro vs i x⟨v,r,rfl,h1,h2⟩h;cases i with
  |zero=>
   simp at h;subst h;exact⟨v,rfl,h1⟩
  |succ i=>
   obtain⟨u,e,hu⟩:=ih h2 (by simpa using h);exact⟨u,by simpa using e,hu⟩
theorem zgr{l:List AV}:∀{vs:List Value}{x:AV}{v:Value},pds c p w l vs→x.pd c p w v→pds c p w (l++[x]) (vs++[v]):=by
 induction l with
 |nil=>
  intro vs x v h hx;obtain rfl:vs=[]:=h;exact⟨v,[],rfl,hx,rfl⟩
 |cons y l ih=>
  rintro vs x v⟨u,r,rfl,h1,h2⟩hx;exact⟨u,r++[v],rfl,h1,ih h2 hx⟩
theorem zm3(hf:SF c σ p w a){avs:List AV}(hv:pds c p w avs vs){s:Src}(h:zp2 σ avs s=some x):∃v,x.pd c p w v:=by
 cases s with
 | cap i q =>
  simp only[zp2] at h;split at h
  ·rename_i y hy;obtain⟨v,-,h1⟩:=qhh hv hy;have h2:=z35 hf h1;split at h
   ·rename_i f l hr;rw[hr] at h2;obtain⟨vs',-,hl⟩:=h2;obtain⟨u,-,hu⟩:=qhh hl h;exact⟨u,hu⟩
   ·cases h
  ·cases h
 | cell i =>
  simp only[zp2] at h;split at h
  ·rename_i y hy;obtain⟨v,-,h1⟩:=qhh hv hy;have h2:=z35 hf h1;split at h
   ·rename_i k T b hr;rw[hr] at h2;injection h with h;subst h;obtain⟨g,u,-,-,-,hu⟩:=h2;exact⟨u,hu⟩
   ·rename_i T b hr;rw[hr] at h2;injection h with h;subst h;obtain⟨g,u,-,-,-,-,hu⟩:=h2;exact⟨u,hu⟩
   ·cases h
  ·cases h
theorem z59(hf:SF c σ p w a):∀{ss:List Src}{avs V:List AV}{vs:List Value},qyh σ avs ss=some V→pds c p w avs vs→∃us,pds c p w V (vs++us)
 |[],avs,V,vs,h,hv=>by
  simp only[qyh,kX] at h;subst h;exact⟨[],by simpa using hv⟩
 | s :: ss, avs, V, vs, h, hv => by
  simp only[qyh] at h;split at h
  ·rename_i x hx;obtain⟨u,hu⟩:=zm3 hf hv hx;obtain⟨us,h2⟩:=z59 hf h (zgr hv hu);exact⟨u::us,by simpa using h2⟩
  ·cases h
theorem z9r(hV:pds c p w V VV):∀{l:List AV}{ks:List Nat}{vs:List Value},zdx V l ks=true→pds c p w l vs→vs=ks.map fun k=>VV.getD k undef
 |[],[],vs,_,h=>h
 | x :: l, k :: ks, vs, h, ⟨v, r, e, h1, h2⟩ => by
  subst e;simp only[zdx,gnB] at h;obtain⟨h3,h4⟩:=h;split at h3
  ·rename_i b hb;obtain⟨v',e,hb'⟩:=qhh hV hb;rw[qk8 x b h3 h1 hb',z9r hV h4 h2,uW,gnG,e];rfl
  ·cases h3
 |[],_::_,vs,h,_=>by simp[zdx] at h
 |_::_,[],vs,h,_=>by simp[zdx] at h
theorem zcn{i:Nat}{r:Ar}{g0 g:Gv}(h:qc4 σ V i r x g0=some g):(∀y∈g0.dep,y∈g.dep)∧∀y∈g0.pass,y∈g.pass:=by
 unfold qc4 at h;split at h
 ·split at h
  ·injection h with h;subst h;exact⟨fun y hy=>qa1 hy,fun y hy=>hy⟩
  ·cases h
 ·split at h
  ·split at h
   ·split at h
    ·injection h with h;subst h;exact⟨fun y hy=>qa1 hy,fun y hy=>uK _ (uM _ hy)⟩
    ·cases h
   ·cases h
  ·cases h
 ·split at h
  ·split at h
   ·injection h with h;subst h;exact⟨fun y hy=>qa1 hy,fun y hy=>hy⟩
   ·cases h
  ·cases h
 ·split at h
  ·injection h with h;subst h;exact⟨fun y hy=>qa1 hy,fun y hy=>hy⟩
  ·cases h
 ·split at h
  ·injection h with h;subst h;exact⟨fun y hy=>hy,fun y hy=>hy⟩
  ·cases h
 ·split at h
  ·split at h
   ·split at h
    ·injection h with h;subst h;exact⟨fun y hy=>qa1 hy,fun y hy=>uM _ hy⟩
    ·cases h
   ·cases h
  ·cases h
 ·split at h
  ·split at h
   ·injection h with h;subst h;exact⟨fun y hy=>hy,fun y hy=>uK _ hy⟩
   ·cases h
  ·cases h
 ·injection h with h;subst h;exact⟨fun y hy=>hy,fun y hy=>hy⟩
 ·injection h with h;subst h;exact⟨fun y hy=>hy,fun y hy=>hy⟩
 ·split at h
  ·injection h with h;subst h;exact⟨fun y hy=>hy,fun y hy=>hy⟩
  ·cases h
 ·split at h
  ·injection h with h;subst h;exact⟨fun y hy=>qa1 hy,fun y hy=>hy⟩
  ·cases h
 ·split at h
  ·injection h with h;subst h;exact⟨fun y hy=>hy,fun y hy=>hy⟩
  ·cases h
 ·cases h
theorem zhv(hf:SF c σ p w a)(hV:pds c p w V VV){i:Nat}{r:Ar}{g0 g:Gv}(h:qc4 σ V i r x g0=some g){v:Value}(hx:x.pd c p w v){p0:qj}
  (hF:∀b,b<w.heap.size→FFD c.A p g.dep b→FFD A0 p0 [] b)(hp:∀y∈g.pass,p0 y.1=p y.2){l:List (Nat×Ar)}(hr:jc VV A0 p0 w l vs (X.evs c.v g0.xs)):jc VV A0 p0 w ((i,r)::l) (v::vs) (X.evs c.v g.xs):=by
 unfold qc4 at h;split at h
 ·rename_i t;split at h
  ·rename_i xx own dep h1;injection h with h;subst h;obtain⟨cs,hpk,hcon⟩:=q2u h1 hx;refine⟨v,vs,xx.ev c.v,X.evs c.v g0.xs,rfl,rfl,⟨cs,hpk,?_⟩,hr⟩;exact(hcon.rd (dep':=uni (uni (own.map (·.2)) dep) g0.dep) (fun y hy=>q44 (qa1 hy)) (fun y hy=>q44 (q44 hy))).mono hF
  ·cases h
 ·rename_i t o k t';split at h
  ·rename_i e he;split at h
   ·rename_i hok;simp only[gnB] at hok;obtain⟨-,h1,h2,h3⟩:=hok;rw[Ty.beq_iff] at h1 h2;subst h1;split at h
    ·rename_i ps hps;injection h with h;subst h;obtain⟨g1,hg0,hev,-⟩:=hx;obtain⟨g2,cs,T,hg1,hh,hty,hcon⟩:=hf.m k e he;obtain rfl:=gnI (hg0.symm.trans hg1);obtain⟨i1,i2⟩:=qhj hps;rw[h2] at hcon hty;refine⟨v,vs,e.x.ev c.v,X.evs c.v g0.xs,rfl,rfl,⟨g1,cs,T,?_,hev,hh,hty,?_⟩,hr⟩
     ·exact(hp (i * 16,k * 16) uV).trans hg0
     ·refine hcon.relabel ⟨fun b ob hb ho=>⟨ho,hF b (qt ho) (hb.mono fun y hy=>q44 hy)⟩,fun j q hq=>?_,fun j hj=>?_⟩
      ·rw[←i1] at hq;obtain⟨pin,hm1,-⟩:=qra.1 q hq;refine⟨pin,i2 _ hm1,fun g hg=>⟨?_,rfl⟩⟩;exact(hp (q,pin) (uK _ (uQ _ (kF.2 ⟨_,hm1,rfl⟩)))).trans hg
      ·cases ho:lkA e.own j with
       |none=>rfl
       |some y=>
        have:=kK.1 h3 _ (qx ho);simp only at this;rw[hj] at this;cases this
    ·cases h
   ·cases h
  ·cases h
 ·rename_i t k t';split at h
  ·rename_i e he;split at h
   ·rename_i hok;simp only[gnB] at hok;obtain⟨h1,h2,h3⟩:=hok;rw[Ty.beq_iff] at h1 h2;subst h1;injection h with h;subst h;obtain⟨g1,hg0,hev,-⟩:=hx;obtain⟨g2,cs,T,hg1,hh,hty,hcon⟩:=hf.m k e he;obtain rfl:=gnI (hg0.symm.trans hg1);rw[h2] at hcon;have hrd:=hcon.rd (dep':=uni (k * 16::uni (e.own.map (·.2)) e.dep) g0.dep) (fun y hy=>q44 (uK _ (qa1 hy))) (fun y hy=>q44 (uK _ (q44 hy)));have hl:=hcon.len.1;refine⟨v,vs,e.x.ev c.v,X.evs c.v g0.xs,rfl,rfl,⟨g1,0,cs.toList,hev,hF g1 (qt hh) (.inr ⟨k * 16,q44 uV,hg0⟩),fun j u hj=>?_,by rw[hl];exact Nat.blt_eq.mp h3,hrd.mono hF⟩,hr⟩;rw[cell_of_row w g1 (0+j) cs T (0,0) hh,←uH];simpa using hj
   ·cases h
  ·cases h
 ·rename_i t xx t' dep wr;split at h
  ·rename_i h1;rw[Ty.beq_iff] at h1;subst h1;injection h with h;subst h;obtain⟨b,o,cs,hev,hb,hrr,h0,hd,-⟩:=hx;refine⟨v,vs,xx.ev c.v,X.evs c.v g0.xs,rfl,rfl,⟨b,o,cs,hev,hF b (qe7 hrr h0) (hb.mono fun y hy=>q44 hy),hrr,h0,?_⟩,hr⟩;exact(hd.mono fun b _ hfb=>hfb.mono fun y hy=>q44 hy).mono hF
  ·cases h
 ·rename_i E;split at h
  ·rename_i hE;injection h with h;subst h;obtain rfl:v=.slice none 0 0:=hx;obtain⟨te,hte⟩:=kB.1 hE;refine⟨_,vs,.r [],X.evs c.v g0.xs,rfl,rfl,⟨[.slice none 0 0],rfl,?_⟩,hr⟩
   show Fl A0 p0 w [] (lkA [(0,i * 16+1)] 0) (.r []) (.row E) _
   rw[qa];exact .inl ⟨E,te,[],_,rfl,hte,rfl,rfl,.inl ⟨rfl,rfl⟩⟩
  ·cases h
 ·rename_i t;split at h
  ·rename_i xx own dep h1;split at h
   ·rename_i h3;split at h
    ·rename_i ps hps;injection h with h;subst h;obtain⟨cs,hpk,hcon⟩:=q2u h1 hx;obtain⟨i1,i2⟩:=qhj hps;refine⟨v,vs,xx.ev c.v,X.evs c.v g0.xs,rfl,rfl,⟨cs,hpk,hcon.relabel ⟨fun b ob hb ho=>⟨ho,hF b (qt ho) (hb.mono fun y hy=>q44 hy)⟩,fun j q hq=>?_,fun j hj=>?_⟩⟩,hr⟩
     ·rw[←i1] at hq;obtain⟨pin,hm1,-⟩:=qra.1 q hq;refine⟨pin,i2 _ hm1,fun g hg=>⟨?_,rfl⟩⟩;exact(hp (q,pin) (uQ _ (kF.2 ⟨_,hm1,rfl⟩))).trans hg
     ·cases ho:lkA own j with
      |none=>rfl
      |some y=>
       have:=kK.1 h3 _ (qx ho);simp only at this;rw[hj] at this;cases this
    ·cases h
   ·cases h
  ·cases h
 ·rename_i t;split at h
  ·rename_i xx pin dep h1;split at h
   ·rename_i hmp;injection h with h;subst h;obtain⟨cs,hpk,hcon⟩:=q2u h1 hx;obtain⟨hfo,hoa⟩:=qre hmp;have hcon0:Con c.A p w (xx.ev c.v) t [(0,pin)] [] cs:=hcon.flat1 (k:=i) (fun j hj=>by
     rw[hoa] at hj;by_cases h0:0=j
     ·subst h0;rw[qa];simp
     ·rw[qd h0] at hj;exact absurd rfl hj) hfo
    refine⟨v,vs,xx.ev c.v,X.evs c.v g0.xs,rfl,rfl,⟨cs,hpk,hcon0.relabel ⟨fun b ob hb ho=>⟨ho,hF b (qt ho) (hb.mono fun y hy=>by cases hy)⟩,fun j q hq=>?_,fun j hj=>?_⟩⟩,hr⟩
    ·rw[hoa] at hq;have hq':lkA [(0,i * 16+1)] j=some q:=hq;by_cases hj:0=j
     ·subst hj;rw[qa] at hq';injection hq' with hq';subst hq';exact⟨pin,qa,fun g hg=>⟨(hp (i * 16+1,pin) uV).trans hg,rfl⟩⟩
     ·rw[qd hj] at hq';cases hq'
    ·rw[hoa] at hj;have hj':lkA [(0,i * 16+1)] j=none:=hj;by_cases hj0:0=j
     ·subst hj0;rw[qa] at hj';cases hj'
     ·rw[qd hj0];rfl
   ·cases h
  ·cases h
 ·injection h with h;subst h;obtain rfl:v=.slice none 0 0:=hx;exact⟨vs,rfl,hr⟩
 ·injection h with h;subst h;obtain rfl:v=.pointer none:=hx;exact⟨vs,rfl,hr⟩
 ·rename_i f ks f' l';split at h
  ·rename_i hok;simp only[gnB] at hok;injection h with h;subst h;obtain⟨caps,rfl,hl⟩:=hx;have hff:=gnN hok.1;subst hff;exact⟨vs,by rw[z9r hV hok.2 hl],hr⟩
  ·cases h
 ·rename_i T j k T' y;split at h
  ·rename_i hok;simp only[gnB] at hok;obtain⟨h1,h2⟩:=hok;have h1:=gnN h1;subst h1;injection h with h;subst h;obtain⟨b,u,⟨hg,-⟩,rfl,hh,hu⟩:=hx;unfold z1c at h2;split at h2
   ·rename_i b' hb';obtain⟨v',e,hv'⟩:=qhh hV hb';have hu':u=VV.getD j undef:=by
     rw[qk8 y b' h2 hu hv',gnG,e];rfl
    rcases hF b (qt hh) (.inr ⟨k * 16,q44 uV,hg⟩) with⟨q1,q2⟩|⟨x,hx,-⟩
    ·exact⟨b,vs,rfl,q1,q2,by rw[←hu'];exact hh,hr⟩
    ·cases hx
   ·cases h2
  ·cases h
 ·rename_i T j T' y;split at h
  ·rename_i hok;simp only[gnB] at hok;obtain⟨h1,h2⟩:=hok;have h1:=gnN h1;subst h1;injection h with h;subst h;obtain⟨b,u,ha,hfr,rfl,hh,hu⟩:=hx;unfold z1c at h2;split at h2
   ·rename_i b' hb';obtain⟨v',e,hv'⟩:=qhh hV hb';have hu':u=VV.getD j undef:=by
     rw[qk8 y b' h2 hu hv',gnG,e];rfl
    rcases hF b (qt hh) (.inl ⟨ha,hfr⟩) with⟨q1,q2⟩|⟨x,hx,-⟩
    ·exact⟨b,vs,rfl,q1,q2,by rw[←hu'];exact hh,hr⟩
    ·cases hx
   ·cases h2
  ·cases h
 ·cases h
theorem zaa(hf:SF c σ p w a)(hV:pds c p w V VV){p0:qj}:∀{all:List (Nat×Ar)}{avs:List AV}{g:Gv}{vs:List Value},give σ V all avs=some g→pds c p w avs vs→
    (∀b,b<w.heap.size→FFD c.A p g.dep b→FFD A0 p0 [] b)→(∀y∈g.pass,p0 y.1=p y.2)→jc VV A0 p0 w all vs (X.evs c.v g.xs)
  | [], [], g, vs, h, hv, hF, hp => by
    simp only[give,kX] at h;subst h;exact⟨hv,rfl⟩
  | (i, r) :: l, x :: m, g, vs, h, ⟨v, r', e, hx, hm⟩, hF, hp => by
    subst e;simp only[give] at h;split at h
    · rename_i g0 hg0;obtain⟨s1,s2⟩:=zcn h;exact zhv hf hV h (z35 hf hx) hF hp (zaa hf hV hg0 hm (fun b hb hfb=>hF b hb (hfb.mono s1)) fun y hy=>hp y (s2 y hy))
    · cases h
  |[],_::_,g,vs,h,hv,hF,hp=>by simp[give] at h
  |(_,_)::_,[],g,vs,h,hv,hF,hp=>by simp[give] at h
end
end
end Go.Proofs.Ytdaadonfbnedaaa
