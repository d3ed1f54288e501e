/-
 Lemmas of the walk and plain laws, put together. No condition.
-/
import Derived.Defers
import Derived.Laws.Tables
import Derived.Test.YtdaadonfbnedaaaGreatKc
namespace Go.Proofs.YtdaadonfbnedaaaGreat
open Go.RowKit
set_option linter.unusedVariables false
set_option linter.unusedSimpArgs false
set_option maxRecDepth 100000
open _root_.Go.Proofs.Tryz renaming prog→uA
open World renaming putObj_heap_other→uB,putObj_heap_same→kI
open _root_.Array renaming getElem?_eq_some_iff→uC,eq_empty_of_size_eq_zero→kA,replicate→kB,getElem?_append_left→kD
open _root_.List renaming mem_cons_self→uD,take_length→uE,getElem?_append_left→uF,mem_cons_of_mem→uG,take_append_of_le_length→uH,take_take→uK,getElem?_append_right→uL,all_eq_true→uO,getElem?_take_of_lt→uP,length→uR,getElem?_cons_succ→uT,mem_append_right→uV,mem_append_left→uW,mem_cons→uY,length_append→uZ,mem_append→kC,map_cons→kH,getElem?_cons_zero→kJ,take_of_length_le→kK,mem_iff_getElem?→kN,range'→kO,getD_cons_zero→kQ,filter_cons→kU,any_eq_true→kV,drop_left→kY,range→vD
open _root_.Option.some renaming injEq→uI
open _root_.Nat renaming le_refl→uJ,le_trans→uM,beq→uN,min_eq_left→uQ,sub_self→uU,zero_le→uX,blt→kF,min_self→kL,beq_refl→kM,lt_of_lt_of_le→kS,blt_eq→kT,lt_succ_self→kW,add_zero→vC
open _root_.Option renaming isSome_iff_exists→kE,map_eq_some_iff→kG
variable{α:Type}{p:qg}{a:Act}{S:Nat→List D→Option (List D)}{R:List D→Prop}{B:Nat→List D→Prop}{A:Nat→Prop}{dep kill:List Nat}{t:Ty}{cs:List Value}{id:Nat}{Q:Exit→Act→World→Prop}
section
inductive Tree where
 |bad(n:Nat)
 |need(ns:List X)(t:Tree)
 |br(x:X)(t e:Tree)
 |amb(x:X)(neg:Bool)(t e:Tree)
 |leaf(xs:List X)
 |back(id:Nat)(xs:List X)
 |loop(id n:Nat)(init:List X)(body:Tree)
def evl(S:Nat→List D→Option (List D))(l:List D):Ev:=⟨fun k=>l.getD k .u,S⟩
def jy(e:Ev):List X→Prop
 |[]=>True
 |x::l=>x.says e∧jy e l
def jg(B:Nat→List D→Prop)(id:Nat)(I:List D→Prop):Nat→List D→Prop:=fun j=>if j=id then I else B j
def Tree.go(S:Nat→List D→Option (List D))(R:List D→Prop):Tree→List D→(Nat→List D→Prop)→Prop
 |.bad _,_,_=>False
 |.need ns t,l,B=>jy (evl S l) ns∧t.go S R l B
 |.br x t e,l,B=>((x.ev (evl S l)).tt=true→t.go S R l B)∧((x.ev (evl S l)).tt=false→e.go S R l B)
 |.amb x neg t e,l,B=>((neg=false→(x.ev (evl S l)).rs=[])→t.go S R l B)∧((neg=true→(x.ev (evl S l)).rs=[])→e.go S R l B)
 |.leaf xs,l,B=>R (X.evs (evl S l) xs)
 |.back id xs,l,B=>B id (X.evs (evl S l) xs)
 | .loop id n init body, l, B => ∃ (I : List D → Prop) (μ : List D → Nat), I (X.evs (evl S l) init) ∧
   ∀st,st.length=init.length→I st→body.go S R (l.take n++st) (jg B id fun st'=>I st'∧μ st'<μ st)
abbrev Item:=Nat×Ty×List (Nat×Nat)×List Nat
structure Head where
 ts:List (Nat×Ty×Bool)
 ms:List Nat
 kill:List Nat
 dep:List Nat
structure Ann where
 pub:List Nat
 heads:List (Nat×Head)
def prune(l:List Nat)(σ:St):St:=⟨σ.t.filter fun e=>zu l e.1,σ.m⟩
theorem zew{q:Nat→Bool}{l:List (Nat×α)}{k:Nat}{e:α}(h:lkA (l.filter fun y=>q y.1) k=some e):lkA l k=some e:=by
 induction l with
 |nil=>cases h
 | cons a l ih =>
  obtain⟨j,x⟩:=a;by_cases hjk:j=k
  ·subst hjk;rw[kU] at h;split at h
   ·rw[qa] at h⊢;exact h
   ·rename_i hq;exfalso;have:=List.mem_filter.1 (qv h);exact hq this.2
  ·rw[qe hjk];rw[kU] at h;split at h
   ·rw[qe hjk] at h;exact ih h
   ·exact ih h
theorem zjb{c:Cx}{l:List Nat}{σ:St}{w:World}(h:SF c σ p w a):SF c (prune l σ) p w a:=⟨fun t x hx=>h.t t x (zew (q:=zu l) hx),h.m⟩
def sel{α:Type}(q:Nat→α→Bool):List (Nat×α)→List (Nat×α)
  |[]=>[]
  |(k,e)::l=>if q k e then(k,e)::sel q l else(sel q l).filter fun y=>y.1 !=k
theorem qwj{q:Nat→α→Bool}{l:List (Nat×α)}{k:Nat}{e:α}(h:lkA (sel q l) k=some e):lkA l k=some e∧q k e=true:=by
 induction l with
 |nil=>cases h
 | cons a l ih =>
  obtain⟨j,x⟩:=a;unfold sel at h;by_cases hjk:j=k
  ·subst hjk;split at h
   ·rename_i hq;rw[qa] at h;injection h with h;subst h;exact⟨qa,hq⟩
   ·rw[zb] at h;cases h
  ·rw[qe hjk];split at h
   ·rw[qe hjk] at h;exact ih h
   ·rw[q36 hjk] at h;exact ih h
def z3z(a b:List (Nat×Nat)):Bool:=a.all fun e=>match lkA b e.1 with
 |some x=>uN x e.2
 |none=>false
def ql1(a b:List (Nat×Nat)):Bool:=q5t a&&(q5t b&&(z3z a b&&z3z b a))
def SNK:Nat:=4000000000
def snB(ty:Ty)(dep:List Nat):Bool:=(qbt ty||qr0 ty)&&zu dep SNK
def itT(σ:St):Item→Option X
  | (t, ty, own, dep) => match lkA σ.t t with
    |some (.v x ty' own' dep')=>if !snB ty dep&&(Ty.beq ty' ty&&(ql1 own' own&&dep'.all (zu dep))) then some x else none
    |some (.sn q (.v x ty' own' dep'))=>if(!snB ty dep||uN q t)&&(Ty.beq ty' ty&&(ql1 own' own&&dep'.all (zu dep))) then some x else none
    | some .nilS => (match ty with
      |.row E=>if(qj E).isSome&& !zu dep SNK then some (.lit (.r [])) else none
      |_=>none)
    |_=>none
def itM(σ:St):Item→Option X
  | (k, ty, own, dep) => match lkA σ.m k with
    |some e=>if Ty.beq e.t ty&&(ql1 e.own own&&e.dep.all (zu dep)) then some e.x else none
    |none=>none
def its(f:Item→Option X):List Item→Option (List X)
 |[]=>some []
 |i::l=>match f i,its f l with
  |some x,some xs=>some (x::xs)
  |_,_=>none
def pairUp(own:List (Nat×Nat)):List (Nat×Nat)→List (Nat×Nat)
  |[]=>[]
  | (i, q) :: l => match lkA own i with
    |some x=>(x,q)::pairUp own l
    |none=>pairUp own l
def zt8(σ:St)(t:Nat):List (Nat×Nat):=match lkA σ.t t with
 |some (.v _ _ own _)=>own
 |some (.sn _ (.v _ _ own _))=>own
 |_=>[]
def zwg(σ:St)(k:Nat):List (Nat×Nat):=match lkA σ.m k with
 |some e=>e.own
 |none=>[]
def zg5(f:Nat→List (Nat×Nat)):List Item→List (Nat×Nat)
  |[]=>[]
  |(k,_,own,_)::l=>pairUp (f k) own++zg5 f l
def q3z(σ:St)(ts ms:List Item):List (Nat×Nat):=zg5 (zt8 σ) ts++zg5 (zwg σ) ms
def conv(ts ms:List Item)(σ:St):Option (St×List X×List X):=if reB (q3z σ ts ms) then match its (itT (σ.ren (q3z σ ts ms))) ts,its (itM (σ.ren (q3z σ ts ms))) ms with
  |some a,some b=>some (σ.ren (q3z σ ts ms),a,b)
  |_,_=>none
 else none
def tgt(k:Nat)(ty:Ty)(own:List (Nat×Nat)):List (Nat×Nat):=(qn k ty).filter fun e=>(lkA own e.1).isSome
def zuu(σ:St):List (Nat×Ty×Bool)→List Item
  |[]=>[]
  | (t, ty, rd) :: l => (t, ty, (match lkA σ.t t with
    |some (.v _ _ own _)=>tgt t ty own
    |some (.sn _ (.v _ _ own _))=>tgt t ty own
    |some .nilS=>if rd then[] else qn t ty
    |_=>[]),[])::zuu σ l
def zsm(σ:St):List Nat→List Item
 |[]=>[]
 |k::l=>match lkA σ.m k with
  |some e=>(k,e.t,tgt k e.t e.own,[])::zsm σ l
  |none=>zsm σ l
def z39(f:Nat→List Nat)(x:List Nat):List Item→List Item
  |[]=>[]
  |(k,ty,own,_)::l=>(k,ty,own,f k++x)::z39 f x l
def zsk(σ:St)(t:Nat):List Nat:=match lkA σ.t t with
 |some (.v _ _ _ dep)=>dep
 |some (.sn _ (.v _ _ _ dep))=>SNK::dep
 |_=>[]
def zq3(σ:St)(k:Nat):List Nat:=match lkA σ.m k with
 |some e=>e.dep
 |none=>[]
def heads(h:Head)(σ:St):List Item×List Item:=
 let ts:=zuu σ h.ts
 let ms:=zsm σ h.ms
 let σ1:=σ.ren (q3z σ ts ms)
 (z39 (zsk σ1) h.dep ts,z39 (zq3 σ1) h.dep ms)
def keys(l:List Item):List Nat:=l.map (·.1)
def isAny:AV→Bool
 |.any=>true
 |_=>false
def jv(ts ms:List Item)(kill:List Nat)(n:Nat)(σ:St):St:=
 ⟨sel (fun t a=> !isAny a&&(!zu (keys ts) t&&(!zu kill t&&a.upto n))) σ.t,sel (fun k e=> !zu (keys ms) k&&X.upto n e.x) σ.m⟩
def zfd:List Item→Nat→List (Nat×AV)→List (Nat×AV)
  |[],_,r=>r
  |(t,ty,own,dep)::l,n,r=>(t,if snB ty dep then .sn t (.v (.tok n) ty own dep) else .v (.tok n) ty own dep)::zfd l (n+1) r
def zf3:List Item→Nat→List (Nat×Ent)→List (Nat×Ent)
  |[],_,r=>r
  |(k,ty,own,dep)::l,n,r=>(k,⟨.tok n,ty,own,dep⟩)::zf3 l (n+1) r
def q0z(ts ms:List Item)(n:Nat)(σ:St):St:=⟨zfd ts n σ.t,zf3 ms (n+ts.length) σ.m⟩
inductive ResD where
 |normal
 |ret
 |exit(id:Nat)
def ResD.exit':ResD→Exit
 |.normal=>.normal
 |.ret=>.ret
 |.exit id=>.exit id
def q2o:Code→Nat
 |.region id _ _=>id+1
 |.seq x y=>(match q2o x with
  |0=>q2o y
  |n+1=>n+1)
 |.cond _ x y=>(match q2o x with
  |0=>q2o y
  |n+1=>n+1)
 |.block _ c=>q2o c
 |.loop c=>q2o c
 |.scope c=>q2o c
 |_=>0
def z7h(N:List X)(t:Tree):Tree:=match N with
 |[]=>t
 |_=>.need N t
mutual
/-- The slices that a value owns. -/
def z78:AV→List Nat
 |.v _ _ own _=>own.map (·.2)
 |.rd _ _ _ wr=>(match wr with
  |some (pin,_)=>[pin]
  |none=>[])
 |.tup l=>zhy l
 |.gd _ a=>z78 a
 |.fn _ l=>zhy l
 |.bx _ _ a=>z78 a
 |.ax _ _ _ a=>z78 a
 |.fr _ a=>z78 a
 |.sn _ a=>z78 a
 |.pt pin _ _ a=>pin::z78 a
 |_=>[]
def zhy:List AV→List Nat
 |[]=>[]
 |a::l=>z78 a++zhy l
end
def z8m(kill:List Nat):List (Nat×AV)→List Nat
  |[]=>[]
  |(t,a)::l=>if zu kill t then z8m kill l else z78 a++z8m kill l
def za5(kill:List Nat):List (Nat×Ent)→List Nat
  |[]=>[]
  |(k,e)::l=>if zu kill k then za5 kill l else e.own.map (·.2)++za5 kill l
def qap(kill:List Nat)(σ:St):Nat→Bool:=fun y=> !Nat.beq (y % 16) 0&& !zu (z8m kill σ.t++za5 kill σ.m) y
def St.drop(kill:List Nat)(σ:St):St:=σ.un (qap kill σ)
def ziu(l:List Nat):D:=.r (l.map fun y=>.i (Int.ofNat y))
def zpg(own:List (Nat×Nat))(dep:List Nat):X:=.lit (.a [ziu (own.map (·.1)),ziu (own.map (·.2)),ziu dep])
def z6h(σ:St)(ts ms:List Item):List X:=(ts.map fun e=>match lkA σ.t e.1 with
 |some (.v _ _ own dep)=>zpg own dep
 |some .nilS=>.lit (.s ⟨#[]⟩)
 |some _=>.lit (.b false)
 |none=>.lit .u)++(ms.map fun e=>match lkA σ.m e.1 with
 |some e=>zpg e.own e.dep
 |none=>.lit .u)
def qka:AV→AV
 |.v x ty own dep=>.v x ty [] (own.map (·.2)++dep)
 |a=>a
def qsd(e:Ent):Ent:=⟨e.x,e.t,[],e.own.map (·.2)++e.dep⟩
def z41(ts:List Item)(k:Nat):Bool:=ts.any fun i=>uN i.1 k&&i.2.2.1.isEmpty
def qkc(ts ms:List Item)(σ:St):St:=⟨σ.t.map fun e=>(e.1,if z41 ts e.1 then qka e.2 else e.2),σ.m.map fun e=>(e.1,if z41 ms e.1 then qsd e.2 else e.2)⟩
def rdB(ts:List (Nat×Ty×Bool))(k:Nat):Bool:=ts.any fun i=>uN i.1 k&&i.2.2
def q4v(h:Head)(σ:St):St:=⟨σ.t.map fun e=>(e.1,if rdB h.ts e.1 then qka e.2 else e.2),σ.m.map fun e=>(e.1,if zu h.kill (1000000+e.1) then qsd e.2 else e.2)⟩
def zgo(id:Nat)(it:List Item×List Item)(kill:List Nat)(n:Nat)(σ:St)(body:Nat→St→(Nat→ResD→St→Tree)→Tree)(k:Nat→ResD→St→Tree):Tree:=match conv it.1 it.2 σ with
 | some (σ1, va, vb) => .loop (id - 1) n (va ++ vb) (body (n + (va ++ vb).length) (q0z it.1 it.2 n (jv it.1 it.2 kill n σ1)) fun n' r σ' => match r with
  |.normal=>(match conv it.1 it.2 ((qkc it.1 it.2 σ').drop kill) with
   |some (σ2,va',vb')=>if covers σ2 (jv it.1 it.2 kill n σ1) then .back (id - 1) (va'++vb') else .bad (3000000+id)
   |none=>.need (z6h σ' it.1 it.2++((.lit (.b true))::z6h (σ'.ren (q3z σ' it.1 it.2)) it.1 it.2)) (.bad (4000000+id)))
  |.ret=>k n' .ret σ'
  |.exit i=>k n' (.exit i) σ')
 |none=>.need (z6h σ it.1 it.2) (.bad (5000000+id))
def z8q(P:Program)(tbl:Tbl)(ds:List (Option Tmp)):Nat→St→List Oper→Nat
 |_,_,[]=>900
 |i,σ,o::l=>match stepG P tbl ds σ o with
  |some (_,σ')=>z8q P tbl ds (i+1) σ' l
  |none=>i
def zih(P:Program)(T:TypeId):Bool:=match P.built T [],P.underlying T with
 |some c,some (.struct _)=>uN c.size 0
 |_,_=>false
def zma(P:Program)(z:Nat):List Oper→Option TypeId
 |[o1,o2,o3]=>(match o1.op,o2.op,o3.op,o1.dst,o2.dst with
  |.build T ps,.makeInterface T' (.tmp a'),.panic (.tmp b'),some a,some b=>if uN T T'&&(uN a a'&&(uN b b'&&(uN ps.size 0&&(kF a z&&(kF b z&&(zih P T&&(o1.guard.isNone&&(o2.guard.isNone&&o3.guard.isNone)))))))) then some T else none
  |_,_,_,_,_=>none)
 |_=>none
def zvc(o:Option TypeId)(T:TypeId):Bool:=match o with
 |some T1=>uN T1 T
 |none=>false
def z1w(body:Nat→St→(Nat→ResD→St→Tree)→Tree)(k:Nat→ResD→St→Tree):Nat→Nat→St→Tree
 |0,_,_=>.bad 6000000
 |f+1,n,σ=>body n σ fun n' r σ'=>match r with
  |.normal=>z1w body k f n' σ'
  |.ret=>k n' .ret σ'
  |.exit i=>k n' (.exit i) σ'
def toT(P:Program)(tbl:Tbl)(ann:Ann)(lo z:Nat):Code→List Nat→Nat→St→(Nat→ResD→St→Tree)→Tree
 |.skip,_,n,σ,k=>k n .normal σ
 | .region id ops d, _, n, σ, k => (match zqp P tbl lo z σ ops.toList d with
  |some (N,σ')=>z7h N (k n .normal (prune ann.pub σ'))
  |none=>(match zma P z ops.toList with
   |some T=>if tbl.any (fun e=>zvc e.1.pn T)&& !d then .leaf [.lit .u] else .bad (id * 1000+z8q P tbl (dsts ops.toList) 0 σ ops.toList)
   |none=>.bad (id * 1000+z8q P tbl (dsts ops.toList) 0 σ ops.toList)))
 |.seq x y,ids,n,σ,k=>toT P tbl ann lo z x ids n σ fun n' r σ'=>match r with
  |.normal=>toT P tbl ann lo z y ids n' σ' k
  |.ret=>k n' .ret σ'
  |.exit i=>k n' (.exit i) σ'
 |.cond c x y,ids,n,σ,k=>(match opd σ [] c with
  |some (.v (.lit (.b true)) .bool _ _)=>toT P tbl ann lo z x ids n σ k
  |some (.v (.lit (.b false)) .bool _ _)=>toT P tbl ann lo z y ids n σ k
  |some (.v b .bool _ _)=>.br b (toT P tbl ann lo z x ids n σ k) (toT P tbl ann lo z y ids n σ k)
  |some (.nb b neg)=>.amb b neg (toT P tbl ann lo z x ids n σ k) (toT P tbl ann lo z y ids n σ k)
  |_=>.bad (1000000+q2o x))
 |.block id c,ids,n,σ,k=>toT P tbl ann lo z c ids n σ fun n' r σ'=>match r with
  |.exit i=>if uN i id then k n' .normal σ' else k n' (.exit i) σ'
  |.ret=>k n' .ret σ'
  |.normal=>k n' .normal σ'
 |.exit id,_,n,σ,k=>k n (.exit id) σ
 |.ret,_,n,σ,k=>k n .ret σ
 |.loop c,ids,n,σ,k=>(match lkA ann.heads (q2o c - 1) with
  |some h=>if zu ids (q2o c - 1) then .bad (2000000+q2o c) else zgo (q2o c) (heads h ((q4v h σ).drop h.kill)) h.kill n ((q4v h σ).drop h.kill) (fun n' σ0=>toT P tbl ann lo z c ((q2o c - 1)::ids) n' σ0) k
  |none=>z1w (fun n' σ0=>toT P tbl ann lo z c ids n' σ0) k 128 n σ)
 |.label _,_,n,σ,k=>k n .normal σ
 |.scope c,ids,n,σ,k=>toT P tbl ann lo z c ids n σ k
 |_,_,_,_,_=>.bad 7000000
section
variable{c:Cx}{p:qg}{w w0:World}{S0:Nat→Prop}{a:Act}{σ σ':St}{d:List Deferred}{z:Nat}{tbl:Tbl}
theorem qvh:∀(x:AV){v:Value},x.pd c p w v→(qka x).pd c p w v:=fun x v h=>by
 cases x with
 |v x ty own dep=>
  obtain⟨cs,hp,hc⟩:=h;exact⟨cs,hp,Con.of_rd (hc.rd (fun _ h=>uV _ h) (fun _ h=>uW _ h))⟩
 |_=>exact h
theorem qtc(f:α→α)(q:Nat→Bool){t:Nat}:∀(l:List (Nat×α)){x:α},lkA (l.map fun e=>(e.1,if q e.1 then f e.2 else e.2)) t=some x→∃y,lkA l t=some y∧(x=y∨x=f y)
 |[],x,h=>by cases h
 | e :: l, x, h => by
  simp only[kH,lkA] at h⊢;split at h
  ·rename_i hk;injection h with h;subst h;refine⟨e.2,if_pos hk,?_⟩;split
   ·exact .inr rfl
   ·exact .inl rfl
  ·rename_i hk;rw[if_neg hk];exact qtc f q l h
theorem z8f(ts ms:List Item)(hf:SF c σ p w a):SF c (qkc ts ms σ) p w a:=by
 refine⟨fun t x hx=>?_,fun k e he=>?_⟩
 ·obtain⟨y,hy,h⟩:=qtc qka (z41 ts) σ.t hx;obtain⟨u,h1,h2⟩:=hf.t t y hy;refine⟨u,h1,?_⟩;rcases h with rfl|rfl
  ·exact h2
  ·exact qvh y h2
 ·obtain⟨y,hy,h⟩:=qtc qsd (z41 ms) σ.m he;obtain⟨g,cs,T,h1,h2,hty,h3⟩:=hf.m k y hy;rcases h with rfl|rfl
  ·exact⟨g,cs,T,h1,h2,hty,h3⟩
  ·exact⟨g,cs,T,h1,h2,hty,Con.of_rd (h3.rd (fun _ h=>uV _ h) (fun _ h=>uW _ h))⟩
theorem zac(h:Head)(hf:SF c σ p w a):SF c (q4v h σ) p w a:=by
 refine⟨fun t x hx=>?_,fun k e he=>?_⟩
 ·obtain⟨y,hy,h⟩:=qtc qka (rdB h.ts) σ.t hx;obtain⟨u,h1,h2⟩:=hf.t t y hy;refine⟨u,h1,?_⟩;rcases h with rfl|rfl
  ·exact h2
  ·exact qvh y h2
 ·obtain⟨y,hy,h⟩:=qtc qsd (fun k=>zu h.kill (1000000+k)) σ.m he;obtain⟨g,cs,T,h1,h2,hty,h3⟩:=hf.m k y hy;rcases h with rfl|rfl
  ·exact⟨g,cs,T,h1,h2,hty,h3⟩
  ·exact⟨g,cs,T,h1,h2,hty,Con.of_rd (h3.rd (fun _ h=>uV _ h) (fun _ h=>uW _ h))⟩
theorem qzn{e:Ev}:∀{ns:List X},jy e ns→∀n∈ns,n.says e
 |[],_,n,hn=>by cases hn
 |x::l,h,n,hn=>by
  rcases uY.1 hn with rfl|hn
  ·exact h.1
  ·exact qzn h.2 n hn
theorem qwp{N:List X}{t:Tree}{l:List D}(h:(z7h N t).go S R l B):(∀n∈N,n.says (evl S l))∧t.go S R l B:=by
 unfold z7h at h;split at h
 ·exact⟨(fun n hn=>by cases hn),h⟩
 ·exact⟨qzn h.1,h.2⟩
def ItT(sn:Nat→Value)(A:Nat→Prop)(p:qg)(w:World)(a:Act):List Item→List D→Prop
  |[],ds=>ds=[]
  |(t,ty,own,dep)::l,ds=>∃x r,ds=x::r∧(∃v cs,a.tmps[t]? =some v∧j9 ty cs v∧Con A p w x ty own dep cs∧(snB ty dep=true→v=sn t))∧ItT sn A p w a l r
def ItM(A:Nat→Prop)(p:qg)(w:World):List Item→List D→Prop
  |[],ds=>ds=[]
  |(k,ty,own,dep)::l,ds=>∃x r,ds=x::r∧(∃g cs T,p (k * 16)=some g∧w.heap[g]? =some (.cells cs T (0,0))∧qj T=some ty∧Con A p w x ty own dep cs.toList)∧ItM A p w l r
theorem qic{a b:List (Nat×Nat)}(h:ql1 a b=true)(j:Nat):lkA a j=lkA b j:=by
 simp only[ql1,gnB] at h;have sub:∀{a b:List (Nat×Nat)},z3z a b=true→∀{x},lkA a j=some x→lkA b j=some x:=fun{a b}h{x}hx=>by
  have:=uO.1 h _ (qv hx);split at this
  ·rename_i y hy;have hy':lkA b j=some y:=hy;rw[hy',gnN this]
  ·cases this
 cases ha:lkA a j with
 |some x=>exact(sub h.2.2.1 ha).symm
 |none=>
  cases hb:lkA b j with
  |none=>rfl
  |some x=>rw[sub h.2.2.2 hb] at ha;cases ha
theorem Con.same{own own':List (Nat×Nat)}(ho:∀j,lkA own j=lkA own' j){x:D}(h:Con A p w x t own dep cs):Con A p w x t own' dep cs:=by
 have hF:∀{ds:List D}{j:Nat}{fs:List Ty}{cs:List Value},Fls A p w dep own j ds fs cs→Fls A p w dep own' j ds fs cs:=by
  intro ds
  induction ds with
  |nil=>intro j fs cs h;exact h
  |cons d ds ih=>
   rintro j fs cs⟨t,ts,c1,c2,e1,e2,h1,h2⟩;exact⟨t,ts,c1,c2,e1,e2,by rw[←ho];exact h1,ih h2⟩
 unfold Con at h⊢;split
 ·obtain⟨fs,ds,hf,e,h⟩:=h;exact⟨fs,ds,hf,e,hF h⟩
 ·rename_i hne;split at h
  ·rename_i T;exact absurd rfl (hne T)
  ·rw[←ho];exact h
theorem z60(hf:SF c σ p w a):∀{l:List Item}{xs:List X},its (itT σ) l=some xs→ItT c.snap c.A p w a l (X.evs c.v xs)
  | [], xs, h => by
    simp only[its,uI] at h;subst h;rfl
  | (t, ty, own, dep) :: l, xs, h => by
    unfold its at h;split at h
    · rename_i x xs' hx hxs;injection h with h;subst h;refine⟨_,_,rfl,?_,z60 hf hxs⟩;unfold itT at hx;simp only at hx;split at hx
      · rename_i x' ty' own' dep' hl;split at hx
        · rename_i hok;simp only[gnB] at hok;injection hx with hx;subst hx;obtain⟨v,hv,cs,hp,hc⟩:=hf.t t _ hl;obtain⟨h0,h1,h2,h3⟩:=hok;rw[Ty.beq_iff] at h1;subst h1;exact⟨v,cs,hv,hp,(hc.same (qic h2)).mono fun y hy=>yk.1 (uO.1 h3 y hy),fun hs=>by rw[hs] at h0;cases h0⟩
        · cases hx
      · rename_i q x' ty' own' dep' hl;split at hx
        · rename_i hok;simp only[gnB] at hok;injection hx with hx;subst hx;obtain⟨v,hv,he,cs,hp,hc⟩:=hf.t t _ hl;obtain⟨hq,h1,h2,h3⟩:=hok;rw[Ty.beq_iff] at h1;subst h1;refine⟨v,cs,hv,hp,(hc.same (qic h2)).mono fun y hy=>yk.1 (uO.1 h3 y hy),fun hs=>?_⟩;rcases Bool.or_eq_true_iff.1 hq with hq|hq
          · rw[hs] at hq;cases hq
          · rw[←gnN hq];exact he
        · cases hx
      · rename_i hl;split at hx
        · rename_i E;split at hx
          · rename_i hE;injection hx with hx;subst hx;rw[gnB] at hE;obtain⟨hE,hsk⟩:=hE;obtain⟨te,hte⟩:=kE.1 hE;obtain⟨v,hv,rfl⟩:=hf.t t _ hl;refine⟨_,[.slice none 0 0],hv,qke rfl,?_,fun hs=>by
              simp only[snB,gnB] at hs;rw[hs.2] at hsk;cases hsk⟩
            show Fl c.A p w dep (lkA own 0) (.r []) (.row E) _
            cases lkA own 0 with
            |none=>exact⟨E,te,none,0,rfl,hte,rfl,by simp,by simp,by simp[maxLen],by simp[RdE]⟩
            |some pin=>exact .inl ⟨E,te,[],_,rfl,hte,rfl,rfl,.inl ⟨rfl,rfl⟩⟩
          · cases hx
        · cases hx
      · cases hx
    · cases h
theorem qv8(hf:SF c σ p w a):∀{l:List Item}{xs:List X},its (itM σ) l=some xs→ItM c.A p w l (X.evs c.v xs)
  | [], xs, h => by
    simp only[its,uI] at h;subst h;rfl
  | (k, ty, own, dep) :: l, xs, h => by
    unfold its at h;split at h
    · rename_i x xs' hx hxs;injection h with h;subst h;refine⟨_,_,rfl,?_,qv8 hf hxs⟩;unfold itM at hx;simp only at hx;split at hx
      · rename_i e he;split at hx
        · rename_i hok;simp only[gnB] at hok;injection hx with hx;subst hx;obtain⟨g,cs,T,hg,hh,hty,hc⟩:=hf.m k _ he;obtain⟨h1,h2,h3⟩:=hok;rw[Ty.beq_iff] at h1;rw[h1] at hc;exact⟨g,cs,T,hg,hh,h1▸hty,(hc.same (qic h2)).mono fun y hy=>yk.1 (uO.1 h3 y hy)⟩
        · cases hx
      · cases hx
    · cases h
theorem qab{f:Item→Option X}:∀{l:List Item}{xs:List X},its f l=some xs→xs.length=l.length
 |[],xs,h=>by
  simp only[its,uI] at h;subst h;rfl
 | i :: l, xs, h => by
  unfold its at h;split at h
  ·rename_i x xs' hx hxs;injection h with h;subst h;simp[qab hxs]
  ·cases h
theorem q8l{e:Ev}(l m:List X):X.evs e (l++m)=X.evs e l++X.evs e m:=by
 induction l with
 |nil=>rfl
 |cons x l ih=>simp[X.evs,ih]
theorem zca{r:List (Nat×AV)}(hr:∀t x,lkA r t=some x→∃v,a.tmps[t]? =some v∧x.pd c p w v):∀{l:List Item}{n:Nat}{ds:List D},ItT c.snap c.A p w a l ds→(∀i,i<ds.length→c.v.E (n+i)=ds.getD i .u)→
    ∀t x,lkA (zfd l n r) t=some x→∃v,a.tmps[t]? =some v∧x.pd c p w v
  |[],n,ds,_,_,t,x,h=>hr t x h
  | (s, ty, own, dep) :: l, n, ds, h, hE, t, x, hx => by
    obtain⟨y,ys,rfl,⟨v,cs,hv,hp,hc,hsn⟩,hl⟩:=h;by_cases hst:s=t
    · subst hst;simp only[zfd] at hx;rw[qa] at hx;injection hx with hx;subst hx;have:=hE 0 (by simp);simp only[vC,kQ] at this;have hcon:Con c.A p w (c.v.E n) ty own dep cs:=by
        rw[this];exact hc
      refine⟨v,hv,?_⟩;split
      · rename_i hs;exact⟨hsn hs,cs,hp,hcon⟩
      · exact⟨cs,hp,hcon⟩
    · simp only[zfd] at hx;rw[qe hst] at hx;refine zca hr hl (n:=n+1) (fun i hi=>?_) t x hx;have:=hE (i+1) (by simp;omega);rw[show n+1+i=n+(i+1) by omega,this];simp
theorem zcz{r:List (Nat×Ent)}(hr:∀k e,lkA r k=some e→q1s c p w k e):∀{l:List Item}{n:Nat}{ds:List D},ItM c.A p w l ds→(∀i,i<ds.length→c.v.E (n+i)=ds.getD i .u)→
    ∀k e,lkA (zf3 l n r) k=some e→q1s c p w k e
  |[],n,ds,_,_,t,x,h=>hr t x h
  | (s, ty, own, dep) :: l, n, ds, h, hE, t, x, hx => by
    obtain⟨y,ys,rfl,⟨g,cs,T,hg,hh,hty,hc⟩,hl⟩:=h;by_cases hst:s=t
    · subst hst;simp only[zf3] at hx;rw[qa] at hx;injection hx with hx;subst hx;refine⟨g,cs,T,hg,hh,hty,?_⟩;have:=hE 0 (by simp);simp only[vC,kQ] at this
      show Con c.A p w (c.v.E n) ty own dep cs.toList
      rw[this];exact hc
    · simp only[zf3] at hx;rw[qe hst] at hx;refine zcz hr hl (n:=n+1) (fun i hi=>?_) t x hx;have:=hE (i+1) (by simp;omega);rw[show n+1+i=n+(i+1) by omega,this];simp
theorem z3k{sn:Nat→Value}:∀{l:List Item}{ds:List D},ItT sn A p w a l ds→ds.length=l.length
  |[],ds,h=>by cases h;rfl
  |(_,_,_,_)::l,ds,⟨x,r,e,_,h⟩=>by subst e;simp[z3k h]
theorem zbc:∀{l:List Item}{ds:List D},ItM A p w l ds→ds.length=l.length
  |[],ds,h=>by cases h;rfl
  |(_,_,_,_)::l,ds,⟨x,r,e,_,h⟩=>by subst e;simp[zbc h]
theorem qju{c':Cx}(hS:c.v.S=c'.v.S)(hA:c.A=c'.A)(hT:c.At=c'.At∧c.snap=c'.snap∧c.F=c'.F){ts ms:List Item}{n:Nat}{σ1:St}{da db:List D}(hE:∀k,k<n→c.v.E k=c'.v.E k)(hE':∀i,i<(da++db).length→c'.v.E (n+i)=(da++db).getD i .u)
  (hf:SF c (jv ts ms kill n σ1) p w a)(ht:ItT c.snap c.A p w a ts da)(hm:ItM c.A p w ms db):SF c' (q0z ts ms n (jv ts ms kill n σ1)) p w a:=by
 have hla:=z3k ht;rw[hA,hT.2.1] at ht;rw[hA] at hm;refine⟨zca (fun t x hx=>?_) ht (fun i hi=>?_),zcz (fun k e he=>?_) hm (fun i hi=>?_)⟩
 ·obtain⟨v,h1,h2⟩:=hf.t t x hx;have hq:=(qwj hx).2;simp only[gnB] at hq;exact⟨v,h1,AV.pd_upto hE hS hA hT x v hq.2.2.2 h2⟩
 ·rw[hE' i (by simp;omega)];simp[gnG,uF hi]
 ·have hq:=(qwj he).2;simp only[gnB] at hq;exact q1s.upto hE hS hA hT hq.2 (hf.m k e he)
 ·rw[show n+ts.length+i=n+(ts.length+i) by omega,hE' (ts.length+i) (by simp;omega)];rw[←hla];simp[gnG,uL]
theorem qfx{ts ms:List Item}{n:Nat}(hf:SF c σ p w a):SF c (jv ts ms kill n σ) p w a:=⟨fun t x hx=>hf.t t x (qwj hx).1,fun k e he=>hf.m k e (qwj he).1⟩
def Cx.at(c:Cx)(S:Nat→List D→Option (List D))(l:List D):Cx:=⟨evl S l,c.A,c.F,c.lo,c.At,c.new,c.snap⟩
theorem getD_take{l:List D}{n k:Nat}(h:k<n)(m:List D)(hn:n≤l.length):(l.take n++m).getD k .u=l.getD k .u:=by
 simp only[gnG];rw[uF (by simp;omega),uP h]
theorem zs0(ro:Option Nat)(nn:Nat){ops:Array Oper}{T:TypeId}(hT:zma uA z ops.toList=some T)(hq:∀a',a'.defers=d→Q (.panic (q98 T)) a' w)(hd:a.defers=d)(hz:a.tmps.size=z):
  (Code.region id ops false).wpIn (FR ro) nn uA Q a w:=by
 obtain⟨l⟩:=ops;have hT:zma uA z l=some T:=hT;unfold zma at hT;split at hT
 ·rename_i o1 o2 o3 _;split at hT
  ·rename_i T1 ps T2 a' b' a1 b1 e1 e2 e3 d1 d2;split at hT
   ·rename_i hok;injection hT with hT;subst hT;simp only[gnB] at hok;obtain⟨k1,k2,k3,k4,k5,k6,k7,k8,k9,k10⟩:=hok;obtain rfl:=gnN k1;obtain rfl:=gnN k2;obtain rfl:=gnN k3;have k4:ps= #[]:=kA (gnN k4);subst k4;rw[kT] at k5 k6;obtain⟨hbt,fs,hu⟩:uA.built T1 []=some #[]∧∃fs,uA.underlying T1=some (.struct fs):=by
     unfold zih at k7;split at k7
     ·rename_i c fs hc hu;exact⟨by rw[hc,kA (gnN k7)],fs,hu⟩
     ·cases k7
    refine wpIn_region ?_;have:wpOpsIn (FR ro) nn uA [o1,o2,o3].toArray Q (kO 0 3)=wpListIn (FR ro) nn uA [o1,o2,o3].toArray Q [o1,o2,o3]:=wpOpsIn_eq_wpListIn [o1,o2,o3] 0 (fun j=>by simp);rw[show vD (Array.mk [o1,o2,o3]).size=kO 0 3 by simp[List.range_eq_range']]
    show wpOpsIn (FR ro) nn uA [o1,o2,o3].toArray Q (kO 0 3) a w
    rw[this];have hw:∀{o:Oper}{y:Nat→Option Bool},o.guard.isNone=true→Region.wanted o y=true:=fun{o}{y}h=>by
     unfold Region.wanted;cases hg:o.guard with
     |none=>rfl
     |some g=>rw[hg] at h;cases h
    simp only[wpListIn,hw k8,hw k9,hw k10,if_true];refine Oper.wp_round ro (by rw[e1];simp) ?_;unfold Oper.wp;have r1:(execOp a.eval o1).run uA w=.ok (.value (.agg #[])) w:=by
     have:=run_build (P:=uA) w T1 #[] #[] hbt;simp[execOp,e1,this]
    rw[r1]
    show Oper.wpIn _ _ _ _ (a.put o1.dst _) w _ _
    refine Oper.wp_round ro (by rw[e2];simp) ?_;unfold Oper.wp;have v1:(a.put o1.dst (.agg #[])).eval (.tmp a1)=.agg #[]:=by
     rw[d1];simp[Act.put,Act.eval,hz,k5]
    have r2:(execOp (a.put o1.dst (.agg #[])).eval o2).run uA w=.ok (.value (.iface T1 (.agg #[]))) w:=by
     rw[show(a.put o1.dst (.agg #[])).eval=fun y=>(a.put o1.dst (.agg #[])).eval y from rfl];simp[execOp,e2,v1,Instr.makeInterface,run_underlying hu]
    rw[r2]
    show Oper.wpIn _ _ _ _ ((a.put o1.dst _).put o2.dst _) w _ _
    refine Oper.wp_round ro (by rw[e3];simp) ?_;unfold Oper.wp;have v2:((a.put o1.dst (.agg #[])).put o2.dst (.iface T1 (.agg #[]))).eval (.tmp b1)=.iface T1 (.agg #[]):=by
     rw[d1,d2];simp[Act.put,Act.eval,hz,k6]
    have r3:(execOp ((a.put o1.dst (.agg #[])).put o2.dst (.iface T1 (.agg #[]))).eval o3).run uA w=.halt (.panic (.iface T1 (.agg #[]))) w:=by
     simp[execOp,e3,v2,Instr.panic]
    rw[r3];exact hq _ (by rw[d1,d2];exact hd)
   ·cases hT
  ·cases hT
 ·cases hT
set_option maxHeartbeats 1000000 in
theorem qdg(ro:Option Nat)(nn:Nat)(htb:q0i tbl)(hfm:∀te,c.F.mx te≤flM tbl te){ann:Ann}:∀(cd:Code){ids:List Nat}{n:Nat}{σ:St}{k:Nat→ResD→St→Tree}{l:List D}{B:Nat→List D→Prop}{p:qg}{w:World}{a:Act}{Q:Exit→Act→World→Prop},
  (toT uA tbl ann c.lo z cd ids n σ k).go (qb tbl) R l B→l.length=n→Bs c.A c.F w0 S0 p w→SF (c.at (qb tbl) l) σ p w a→a.defers=d→a.tmps.size=z→qje tbl w0 S0 d Q→zvb tbl R w0 S0 d Q→
  (∀n' r σ' l' B' p' w' a',l'.length=n'→l'.take n=l→(∀id∈ids,B' id=B id)→(k n' r σ').go (qb tbl) R l' B'→Bs c.A c.F w0 S0 p' w'→SF (c.at (qb tbl) l') σ' p' w' a'→a'.defers=d→a'.tmps.size=z→Q r.exit' a' w')→cd.wpIn (FR ro) nn uA Q a w:=by
 intro cd
 induction cd with
 |skip=>
  intro ids n σ k l B p w a Q h hl hb hf hd hz hQ hR hk;exact wpIn_skip (hk n .normal σ l B p w a hl (by rw[←hl];exact uE) (fun _ _=>rfl) h hb hf hd hz)
 | region id ops dr =>
  intro ids n σ k l B p w a Q h hl hb hf hd hz hQ hR hk;simp only[toT] at h;split at h
  ·rename_i N σ1 h1;obtain⟨hN,hgo⟩:=qwp h;exact zkc ro nn (c:=c.at (qb tbl) l) htb ⟨rfl,hfm⟩ h1 hN hb hf hd hz hQ fun a' w'⟨p',hb',hf',hd',hz'⟩=>hk n .normal (prune ann.pub σ1) l B p' w' a' hl (by rw[←hl];exact uE) (fun _ _=>rfl) hgo hb' (zjb hf') hd' hz'
  ·split at h
   ·rename_i T hT;split at h
    ·rename_i hok;have hdr:dr=false:=by
      cases dr with
      |false=>rfl
      |true=>simp at hok
     subst hdr;have hok:=(Bool.and_eq_true_iff.1 hok).1;obtain⟨e,he,hp⟩:=kV.1 hok;have hp:e.1.pn=some T:=by
      unfold zvc at hp;split at hp
      ·rename_i T' hT';rw[hT',gnN hp]
      ·cases hp
     exact zs0 ro nn hT (fun a' h1=>hR h e he T hp a' w h1 hb.but) hd hz
    ·exact h.elim
   ·exact h.elim
 | seq x y ihx ihy =>
  intro ids n σ k l B p w a Q h hl hb hf hd hz hQ hR hk;simp only[toT] at h;refine wpIn_seq (ihx h hl hb hf hd hz hQ hR fun n' r σ' l' B' p' w' a' hl' hpre hB hgo hb' hf' hd' hz'=>?_);cases r with
  | normal =>
   refine ihy hgo hl' hb' hf' hd' hz' hQ hR fun n2 r2 σ2 l2 B2 p2 w2 a2 hl2 hpre2 hB2 hgo2 hb2 hf2 hd2 hz2=>hk n2 r2 σ2 l2 B2 p2 w2 a2 hl2 ?_ (fun id hid=>(hB2 id hid).trans (hB id hid)) hgo2 hb2 hf2 hd2 hz2;have hnn:n≤n':=by
    have:=congrArg uR hpre;simp at this;omega
   rw[←hpre,←hpre2,uK,uQ hnn]
  |ret=>exact hk n' .ret σ' l' B' p' w' a' hl' hpre hB hgo hb' hf' hd' hz'
  |exit i=>exact hk n' (.exit i) σ' l' B' p' w' a' hl' hpre hB hgo hb' hf' hd' hz'
 | cond b x y ihx ihy =>
  intro ids n σ k l B p w a Q h hl hb hf hd hz hQ hR hk;simp only[toT] at h;split at h
  ·rename_i hc;obtain⟨u,e1,e2⟩:=q2p (ql hf rfl hc);obtain rfl:true=u:=by have:D.b true=D.b u:=e1;injection this
   exact wpIn_cond_true e2 (ihx h hl hb hf hd hz hQ hR hk)
  ·rename_i hc;obtain⟨u,e1,e2⟩:=q2p (ql hf rfl hc);obtain rfl:false=u:=by have:D.b false=D.b u:=e1;injection this
   exact wpIn_cond_false e2 (ihy h hl hb hf hd hz hQ hR hk)
  ·rename_i q _ _ _ _ hc;obtain⟨u,e1,e2⟩:=q2p (ql hf rfl hc);have e1':(q.ev (evl (qb tbl) l))=.b u:=e1;cases u with
   |true=>exact wpIn_cond_true e2 (ihx (h.1 (by rw[e1'];rfl)) hl hb hf hd hz hQ hR hk)
   |false=>exact wpIn_cond_false e2 (ihy (h.2 (by rw[e1'];rfl)) hl hb hf hd hz hQ hR hk)
  ·rename_i q neg hc;obtain⟨u,e1,e2⟩:=ql hf rfl hc;cases u with
   |true=>exact wpIn_cond_true e1 (ihx (h.1 (fun hn=>e2 (by rw[hn];rfl))) hl hb hf hd hz hQ hR hk)
   |false=>exact wpIn_cond_false e1 (ihy (h.2 (fun hn=>e2 (by rw[hn];rfl))) hl hb hf hd hz hQ hR hk)
  ·exact h.elim
 | block id cd ih =>
  intro ids n σ k l B p w a Q h hl hb hf hd hz hQ hR hk;simp only[toT] at h;refine wpIn_block (ih h hl hb hf hd hz hQ hR fun n' r σ' l' B' p' w' a' hl' hpre hB hgo hb' hf' hd' hz'=>?_);cases r with
  |normal=>exact hk n' .normal σ' l' B' p' w' a' hl' hpre hB hgo hb' hf' hd' hz'
  |ret=>exact hk n' .ret σ' l' B' p' w' a' hl' hpre hB hgo hb' hf' hd' hz'
  | exit i =>
   show Exit.inBlock id Q (.exit i) a' w'
   simp only at hgo;by_cases hi:i=id
   ·rw[if_pos (by rw[hi];exact kM id)] at hgo;simp only[Exit.inBlock,if_pos hi];exact hk n' .normal σ' l' B' p' w' a' hl' hpre hB hgo hb' hf' hd' hz'
   ·rw[if_neg (fun e=>hi (gnN e))] at hgo;simp only[Exit.inBlock,if_neg hi];exact hk n' (.exit i) σ' l' B' p' w' a' hl' hpre hB hgo hb' hf' hd' hz'
 |exit id=>
  intro ids n σ k l B p w a Q h hl hb hf hd hz hQ hR hk;exact wpIn_exit (hk n (.exit id) σ l B p w a hl (by rw[←hl];exact uE) (fun _ _=>rfl) h hb hf hd hz)
 |ret=>
  intro ids n σ k l B p w a Q h hl hb hf hd hz hQ hR hk;exact wpIn_ret (hk n .ret σ l B p w a hl (by rw[←hl];exact uE) (fun _ _=>rfl) h hb hf hd hz)
 |label s=>
  intro ids n σ k l B p w a Q h hl hb hf hd hz hQ hR hk;exact wpIn_label (hk n .normal σ l B p w a hl (by rw[←hl];exact uE) (fun _ _=>rfl) h hb hf hd hz)
 |scope cd ih=>
  intro ids n σ k l B p w a Q h hl hb hf hd hz hQ hR hk;simp only[toT] at h;refine qhh (ih h hl hb hf hd hz hQ hR fun n' r σ' l' B' p' w' a' hl' hpre hB hgo hb' hf' hd' hz'=>?_);have:=hk n' r σ' l' B' p' w' a' hl' hpre hB hgo hb' hf' hd' hz';cases r<;>exact this
 | loop cd ih =>
  intro ids n σ k l B p w a Q h hl hb0 hf0 hd hz hQ hR hk;simp only[toT] at h;split at h
  ·rename_i hh hann;split at h
   ·exact h.elim
   ·rename_i hids;have hb:=hb0.un (qap hh.kill (q4v hh σ));have hf:=SF.un (c:=c.at (qb tbl) l) (q:=qap hh.kill (q4v hh σ)) hb0.inj hb0.pa (zac hh hf0);change (zgo _ (heads hh ((q4v hh σ).un (qap hh.kill (q4v hh σ)))) hh.kill n ((q4v hh σ).un (qap hh.kill (q4v hh σ))) _ k).go _ _ _ _ at h;generalize heads hh ((q4v hh σ).un (qap hh.kill (q4v hh σ)))=it at h;generalize (q4v hh σ).un (qap hh.kill (q4v hh σ))=σ at h hf;obtain⟨ts,ms⟩:=it;unfold zgo at h;simp only at h;split at h
    ·rename_i σ1 va vb hcv;unfold conv at hcv
     split at hcv
     ·rename_i hrb;split at hcv
      ·rename_i va' vb' hva hvb;simp only[gnS] at hcv;obtain⟨rfl,rfl,rfl⟩:=hcv;obtain⟨I,μ,hI,hbody⟩:=h;obtain⟨p1,hb1,hf1⟩:=qe2 (c:=c.at (qb tbl) l) hrb hb hf
       -- the rounds
       have key:∀(m:Nat)(da db:List D)(l2:List D)(p:qg)(w:World)(a:Act),n≤l2.length→l2.take n=l→I (da++db)→μ (da++db)<m→Bs c.A c.F w0 S0 p w→SF (c.at (qb tbl) l2) (jv ts ms hh.kill n (σ.ren (q3z σ ts ms))) p w a→ItT c.snap c.A p w a ts da→ItM c.A p w ms db→a.defers=d→a.tmps.size=z→
         Code.roundsIn (FR ro) nn uA cd Q m a w:=by
        intro m
        induction m with
        |zero=>intro da db l2 p w a _ _ _ hm;omega
        | succ m ihm =>
         intro da db l2 p w a hn2 hl2 hIs hm hb hf hta htb' hd hz;rw[roundsIn_succ];have hlen:(da++db).length=(va'++vb').length:=by
          rw[uZ,uZ,z3k hta,zbc htb',qab hva,qab hvb]
         have hgo:=hbody (da++db) hlen hIs;have hln:(l.take n++(da++db)).length=n+(va'++vb').length:=by
          rw[uZ,hlen];simp[hl]
         have hlt:l.take n=l:=by rw[←hl];exact uE
         have hhead:SF (c.at (qb tbl) (l.take n++(da++db))) (q0z ts ms n (jv ts ms hh.kill n (σ.ren (q3z σ ts ms)))) p w a:=
          qju (c:=c.at (qb tbl) l2) (c':=c.at (qb tbl) (l.take n++(da++db))) rfl rfl ⟨rfl,rfl,rfl⟩ (fun k hk=>by
           show l2.getD k .u=(l.take n++(da++db)).getD k .u
           rw[getD_take hk _ (by omega),←hl2];simp only[gnG];rw[uP hk]) (fun i hi=>by
           show(l.take n++(da++db)).getD (n+i) .u=_
           simp only[gnG];rw[uL (by simp;omega)]
           congr 2
           simp;omega) hf hta htb'
         refine ih hgo hln hb hhead hd hz hQ hR fun n' r σ' l' B' p' w' a' hl' hpre hB hgo' hb' hf' hd' hz'=>?_;have hpre':l'.take n=l:=by
          have h1:(l'.take (n+(va'++vb').length)).take n=(l.take n++(da++db)).take n:=by rw[hpre]
          rw[uK,uQ (Nat.le_add_right _ _)] at h1;rw[h1,uH (by simp;omega),uK,kL,hlt]
         have hBo:∀id∈ids,B' id=B id:=fun id hid=>by
          rw[hB id (uG _ hid)];unfold jg;rw[if_neg];intro e;subst e;exact hids (yk.2 hid)
         cases r with
         |ret=>exact hk n' .ret σ' l' B' p' w' a' hl' hpre' hBo hgo' hb' hf' hd' hz'
         |exit i=>exact hk n' (.exit i) σ' l' B' p' w' a' hl' hpre' hBo hgo' hb' hf' hd' hz'
         | normal =>
          simp only at hgo';have hf'':=SF.un (c:=c.at (qb tbl) l') (q:=qap hh.kill (qkc ts ms σ')) hb'.inj hb'.pa (z8f ts ms hf');have hb'':=hb'.un (qap hh.kill (qkc ts ms σ'));change SF _ ((qkc ts ms σ').drop hh.kill) _ _ _ at hf'';split at hgo'
          ·rename_i σ2 wa wb hcv2;split at hgo'
           ·rename_i hcov;unfold conv at hcv2
            split at hcv2
            ·rename_i hrb2;split at hcv2
             ·rename_i wa' wb' hwa hwb;simp only[gnS] at hcv2;obtain⟨rfl,rfl,rfl⟩:=hcv2;obtain⟨p2,hb2,hf2⟩:=qe2 (c:=c.at (qb tbl) l') hrb2 hb'' hf'';have hbk:B' (q2o cd - 1) (X.evs (evl (qb tbl) l') (wa'++wb')):=hgo';rw[hB _ uD] at hbk;unfold jg at hbk;rw[if_pos rfl,q8l] at hbk;have hnl:n≤l'.length:=by
               have:=congrArg uR hpre';simp at this;omega
              show Exit.then (Code.roundsIn (FR ro) nn uA cd Q m) Q .normal a' w'
              exact ihm (X.evs (evl (qb tbl) l') wa') (X.evs (evl (qb tbl) l') wb') l' p2 w' a' hnl hpre' hbk.1 (by have:=hbk.2;omega) hb2 (q2u hcov hf2) (z60 hf2 hwa) (qv8 hf2 hwb) hd' hz'
             ·cases hcv2
            ·cases hcv2
           ·exact hgo'.elim
          ·exact hgo'.2.elim
       rw[q8l] at hI;exact wpIn_loop_rounds _ (key (μ (X.evs (evl (qb tbl) l) va'++X.evs (evl (qb tbl) l) vb')+1) _ _ l p1 w a (by omega) (by rw[←hl];exact uE) hI (kW _) hb1 (qfx hf1) (z60 hf1 hva) (qv8 hf1 hvb) hd hz)
      ·cases hcv
     ·cases hcv
    ·exact h.2.elim
  ·have key:∀(m:Nat){n1:Nat}{σ:St}{l1:List D}{B1:Nat→List D→Prop}{p:qg}{w:World}{a:Act},(z1w (fun n' σ0=>toT uA tbl ann c.lo z cd ids n' σ0) k m n1 σ).go (qb tbl) R l1 B1→l1.length=n1→n≤n1→l1.take n=l→(∀id∈ids,B1 id=B id)→Bs c.A c.F w0 S0 p w→SF (c.at (qb tbl) l1) σ p w a→a.defers=d→a.tmps.size=z→Code.roundsIn (FR ro) nn uA cd Q m a w:=by
    intro m
    induction m with
    |zero=>intro n1 σ l1 B1 p w a h;exact h.elim
    | succ m ihm =>
     intro n1 σ l1 B1 p w a h hl1 hn1 hp1 hB1 hb hf hd hz;rw[roundsIn_succ];refine ih h hl1 hb hf hd hz hQ hR fun n' r σ' l' B' p' w' a' hl' hpre hB hgo' hb' hf' hd' hz'=>?_;have hpre':l'.take n=l:=by
      rw[←hp1,←hpre,uK,uQ hn1]
     have hBo:∀id∈ids,B' id=B id:=fun id hid=>(hB id hid).trans (hB1 id hid);have hle:n≤n':=by
      have h1:=congrArg uR hpre;rw[List.length_take,hl1] at h1;omega
     cases r with
     |ret=>exact hk n' .ret σ' l' B' p' w' a' hl' hpre' hBo hgo' hb' hf' hd' hz'
     |exit i=>exact hk n' (.exit i) σ' l' B' p' w' a' hl' hpre' hBo hgo' hb' hf' hd' hz'
     |normal=>exact ihm hgo' hl' hle hpre' hBo hb' hf' hd' hz'
   exact wpIn_loop_rounds _ (key 128 h hl (uJ _) (by rw[←hl];exact uE) (fun _ _=>rfl) hb0 hf0 hd hz)
 |_=>intro ids n σ k l B p w a Q h;exact h.elim
end
end
variable{c:Cx}{i:Nat}{V vs:List Value}{fn:Func}{tmps:Array Value}{x:X}{ds:List D}{tbl:Tbl}{F:Flr}{P:Ending→World→Prop}{d:D}{g:List D→Option (List D)}
section
abbrev Rs:=List (ResultVar×Ty×Bool)
def zta(σ:St):ResultVar→List (Nat×Nat)
 |.tmp s=>(match lkA σ.t s with
  |some (.v _ _ own _)=>own
  |_=>[])
 | .cell s _ => match lkA σ.t s with
  |some (.ref k _ _ _)=>(match lkA σ.m k with
   |some e=>e.own
   |none=>[])
  |_=>[]
def qcg(σ:St):Rs→Nat→List (Nat×Nat)
 |[],_=>[]
 |(rv,t,own)::l,n=>(if own then pairUp (zta σ rv) (qn n t) else[])++qcg σ l (n+1)
def q9h(σ:St):List (Nat×Ar)→List (Nat×Nat)
  |[]=>[]
  | (i, .ref t o) :: l => (match lkA σ.m i with
    |some e=>pairUp e.own (qmb o i t)
    |none=>[])++q9h σ l
  |(i,.mref t)::l=>pairUp (zt8 σ i) (qn i t)++q9h σ l
  |_::l=>q9h σ l
def q74:List (Nat×Ar)→List Nat
  |[]=>[]
  |(i,.ref _ _)::l=>i * 16::q74 l
  |_::l=>q74 l
mutual
/-- The value holds a pointer to the variable. -/
def AV.has(i:Nat):AV→Bool
 |.ref k _ _ _=>uN k i
 |.fn _ l=>z5o i l
 |.bx _ _ a=>AV.has i a
 |.fr _ a=>AV.has i a
 |.sn _ a=>AV.has i a
 |_=>false
def z5o(i:Nat):List AV→Bool
 |[]=>false
 |a::l=>AV.has i a||z5o i l
end
mutual
theorem AV.has_ok{w:World}:∀(a:AV){v:Value},a.has i=true→a.pd c p w v→∃g,p (i * 16)=some g∧c.At i g
 |.ref k _ _ _,v,h,hx=>by
  have h:=gnN h;subst h;obtain⟨g,hg,-,hat⟩:=hx;exact⟨g,hg,hat⟩
 |.fn _ l,v,h,hx=>by
  obtain⟨vs,-,hl⟩:=hx;exact z4s l (by simpa[AV.has] using h) hl
 |.bx _ _ a,v,h,hx=>by
  obtain⟨g,u,-,-,-,hu⟩:=hx;exact AV.has_ok a (by simpa[AV.has] using h) hu
 |.fr _ a,v,h,hx=>by
  obtain⟨g,u,-,-,-,-,hu⟩:=hx;exact AV.has_ok a (by simpa[AV.has] using h) hu
 |.ff _ _ _ _ _ _ _ _,v,h,_=>by simp[AV.has] at h
 |.sn _ a,v,h,hx=>AV.has_ok a (by simpa[AV.has] using h) hx.2
 |.any,v,h,_=>by simp[AV.has] at h
 |.undef,v,h,_=>by simp[AV.has] at h
 |.v _ _ _ _,v,h,_=>by simp[AV.has] at h
 |.nilS,v,h,_=>by simp[AV.has] at h
 |.nilP,v,h,_=>by simp[AV.has] at h
 |.rd _ _ _ _,v,h,_=>by simp[AV.has] at h
 |.tup _,v,h,_=>by simp[AV.has] at h
 |.gd _ _,v,h,_=>by simp[AV.has] at h
 |.nb _ _,v,h,_=>by simp[AV.has] at h
 |.pt _ _ _ _,v,h,_=>by simp[AV.has] at h
 |.ar _ _ _,v,h,_=>by simp[AV.has] at h
 |.lv _ _,v,h,_=>by simp[AV.has] at h
 |.ax _ _ _ _,v,h,_=>by simp[AV.has] at h
theorem z4s{w:World}:∀(l:List AV){vs:List Value},z5o i l=true→pds c p w l vs→∃g,p (i * 16)=some g∧c.At i g
 |[],vs,h,_=>by simp[z5o] at h
 |a::l,vs,h,hx=>by
  obtain⟨v,r,rfl,h1,h2⟩:=hx;simp only[z5o,Bool.or_eq_true] at h;rcases h with h|h
  ·exact AV.has_ok a h h1
  ·exact z4s l h h2
end
def q3q(σ:St):List ResultVar→List Nat
 |[]=>[]
 |.cell s _::l=>(match lkA σ.t s with
  |some (.ref k _ _ _)=>k * 16::q3q σ l
  |_=>q3q σ l)
 |_::l=>q3q σ l
def z2y(σ:St)(n:Nat)(rv:ResultVar)(t:Ty)(own:Bool):Option X:=match rv with
 |.tmp s=>itT σ (s,t,if own then qn n t else[],[])
 |.cell s T=>match lkA σ.t s with
  |some (.ref k [] 0 t')=>if qh6 T t&&Ty.beq t' t then itM σ (k,t,if own then qn n t else[],[]) else none
  |_=>none
def zj0(σ:St):Rs→Nat→Option (List X)
  |[],_=>some []
  | (rv, t, own) :: l, n => match z2y σ n rv t own, zj0 σ l (n + 1) with
    |some x,some xs=>some (x::xs)
    |_,_=>none
def zt4(σ:St)(n i:Nat):Bool:=(vD n).any fun t=>match lkA σ.t t with
 |some a=>a.has i
 |none=>false
def z3b(σ:St)(n:Nat):List (Nat×Ar)→Option (List X)
  |[]=>some []
  | (i, .ref t o) :: l => (match itM σ (i, t, qmb o i t, []), z3b σ n l with
    |some x,some xs=>if zt4 σ n i then some (x::xs) else none
    |_,_=>none)
  | (i, .mref t) :: l => (match itT σ (i, t, qn i t, [SNK]), z3b σ n l with
    |some x,some xs=>if kF i n&&(kF i VB&&(qbt t||qr0 t)) then some (x::xs) else none
    |_,_=>none)
  |_::l=>z3b σ n l
def fin(ct:Ct)(results:List ResultVar)(σ:St):Option (List X):=
 let z:=results.zip ct.rs
 let rr:=qcg σ z ct.ar.length++q9h σ ct.all
 let keep:=rr.map (·.1)++(q74 ct.all++q3q σ results)
 let σ2:=(σ.un fun y=> !zu keep y).ren rr
 if reB rr&&uN results.length ct.rs.length then match zj0 σ2 z ct.ar.length,z3b σ2 ct.ar.length ct.all with
  |some a,some b=>some (a++b)
  |_,_=>none
 else none
def qbs(ct:Ct)(results:List ResultVar):Nat→ResD→St→Tree:=fun _ r σ=>match r with
 |.exit i=>.bad (8000000+i)
 |_=>match fin ct results σ with
  |some xs=>.leaf xs
  |none=>.bad 9000000
def q6f:List Ar→Nat
 |[]=>0
 |.val _::l=>q6f l+1
 |.ref _ _::l=>q6f l+1
 |.rref _::l=>q6f l+1
 |.own _::l=>q6f l+1
 |.mref _::l=>q6f l+1
 |_::l=>q6f l
def Ct.ars(ct:Ct):List Ar:=ct.ar++ct.vr.map (·.2)
def qk7:Nat→List (Nat×Ar)→List (Nat×Nat×Ar)
 |_,[]=>[]
 |j,(i,r)::l=>(i,j,r)::qk7 (j+q6f [r]) l
def zaz(tb:List (Nat×Nat×Ar)):Nat→Nat→AV
 |0,q=>.sn q .any
 |f+1,q=>.sn q (match tb[q]? with
  |some (_,j,.val t)=>.v (.tok j) t [] []
  |some (i,_,.ref t _)=>.ref i [] 0 t
  |some (_,j,.rref t)=>.rd (.tok j) t [] none
  |some (i,j,.own t)=>.v (.tok j) t (qn i t) []
  |some (i,j,.mref t)=>.sn q (.v (.tok j) t (qn i t) [])
  |some (_,_,.nils)=>.nilS
  |some (_,_,.nilp)=>.nilP
  |some (_,_,.fn g ks)=>.fn g (ks.map (zaz tb f))
  |some (_,_,.cell T k)=>.fr T (zaz tb f k)
  |none=>.any)
def zgp:AV→AV
 |.sn q (.rd x t dep wr)=>.sn q (.rd x t dep wr)
 |.sn _ a=>a
 |a=>a
def zof(tb:List (Nat×Nat×Ar)):Nat→Nat→List (Nat×AV)
 |_,0=>[]
 |q,m+1=>(q,zgp (zaz tb 6 q))::zof tb (q+1) m
def zia:List (Nat×Nat×Ar)→List (Nat×Ent)
  |[]=>[]
  |(i,j,.ref t o)::l=>(i,⟨.tok j,t,qmb o i t,[]⟩)::zia l
  |_::l=>zia l
def qn1(ct:Ct):St:=⟨zof (qk7 0 ct.all) 0 ct.ar.length,zia (qk7 0 ct.all)⟩
def qgg(P:Program)(tbl:Tbl)(ann:Ann)(ct:Ct)(fn:Func)(cd:Code):Tree:=
 toT P tbl ann ct.ar.length fn.ntmps cd [] (q6f ct.ars) (qn1 ct) (qbs ct fn.results.toList)
def WfA:List Ar→List D→Prop
 |[],ds=>ds=[]
 |.val t::l,ds=>∃d r,ds=d::r∧Wf d t∧WfA l r
 |.ref t _::l,ds=>∃d r,ds=d::r∧Wf d t∧WfA l r
 |.rref t::l,ds=>∃d r,ds=d::r∧Wf d t∧WfA l r
 |.own t::l,ds=>∃d r,ds=d::r∧Wf d t∧WfA l r
 |.mref t::l,ds=>∃d r,ds=d::r∧Wf d t∧WfA l r
 |_::l,ds=>WfA l ds
section
variable{A:Nat→Prop}{F:Flr}{p:qg}{w:World}
theorem j7.wf:∀{all:List (Nat×Ar)}{vs:List Value}{ds:List D},j7 V A p w all vs ds→WfA (all.map (·.2)) ds∧ds.length=q6f (all.map (·.2))∧vs.length=all.length
  | [], vs, ds, h => by
    obtain⟨rfl,rfl⟩:=h;exact⟨rfl,rfl,rfl⟩
  | (_, .val t) :: l, vs, ds, h => by
    obtain⟨v,r,d,ds',rfl,rfl,⟨cs,hp,hr⟩,h⟩:=h;obtain⟨h1,h2,h3⟩:=j7.wf h;exact⟨⟨d,ds',rfl,⟨w,_,cs,hr⟩,h1⟩,by simp[q6f,h2],by simp[h3]⟩
  | (i, .ref t o) :: l, vs, ds, h => by
    obtain⟨v,r,d,ds',rfl,rfl,⟨g,cs,T,-,-,-,-,hc⟩,h⟩:=h;obtain⟨h1,h2,h3⟩:=j7.wf h;exact⟨⟨d,ds',rfl,⟨w,_,_,hc.rd (dep':=(qmb o i t).map (·.2)) (fun x hx=>by cases hx) (fun x hx=>hx)⟩,h1⟩,by simp[q6f,h2],by simp[h3]⟩
  | (_, .rref t) :: l, vs, ds, h => by
    obtain⟨v,r,d,ds',rfl,rfl,⟨b,o,cs,-,-,-,-,hr⟩,h⟩:=h;obtain⟨h1,h2,h3⟩:=j7.wf h;exact⟨⟨d,ds',rfl,⟨w,_,cs,hr⟩,h1⟩,by simp[q6f,h2],by simp[h3]⟩
  | (i, .own t) :: l, vs, ds, h => by
    obtain⟨v,r,d,ds',rfl,rfl,⟨cs,-,hc⟩,h⟩:=h;obtain⟨h1,h2,h3⟩:=j7.wf h;exact⟨⟨d,ds',rfl,⟨w,_,_,hc.rd (dep':=(qn i t).map (·.2)) (fun x hx=>by cases hx) (fun x hx=>hx)⟩,h1⟩,by simp[q6f,h2],by simp[h3]⟩
  | (i, .mref t) :: l, vs, ds, h => by
    obtain⟨v,r,d,ds',rfl,rfl,⟨cs,-,hc⟩,h⟩:=h;obtain⟨h1,h2,h3⟩:=j7.wf h;exact⟨⟨d,ds',rfl,⟨w,_,_,hc.rd (dep':=(qn i t).map (·.2)) (fun x hx=>by cases hx) (fun x hx=>hx)⟩,h1⟩,by simp[q6f,h2],by simp[h3]⟩
  | (_, .nils) :: l, vs, ds, h => by
    obtain⟨r,rfl,h⟩:=h;obtain⟨h1,h2,h3⟩:=j7.wf h;exact⟨h1,h2,by simp[h3]⟩
  | (_, .nilp) :: l, vs, ds, h => by
    obtain⟨r,rfl,h⟩:=h;obtain⟨h1,h2,h3⟩:=j7.wf h;exact⟨h1,h2,by simp[h3]⟩
  | (_, .fn f ks) :: l, vs, ds, h => by
    obtain⟨r,rfl,h⟩:=h;obtain⟨h1,h2,h3⟩:=j7.wf h;exact⟨h1,h2,by simp[h3]⟩
  | (_, .cell T j) :: l, vs, ds, h => by
    obtain⟨b,r,rfl,-,-,-,h⟩:=h;obtain⟨h1,h2,h3⟩:=j7.wf h;exact⟨h1,h2,by simp[h3]⟩
theorem z3v:∀(i:Nat)(l:List Ar),(idx i l).map (·.2)=l
 |_,[]=>rfl
 |i,a::l=>by simp[idx,z3v (i+1) l]
theorem all_map(ct:Ct):ct.all.map (·.2)=ct.ars:=by simp[Ct.all,Ct.ars,z3v]
theorem z2t:∀{i n:Nat}{l:List Ar}{e:Nat×Ar},e∈idx i l→i+l.length=n→i≤e.1∧e.1<n
 |_,_,[],e,h,_=>by cases h
 | i, n, a :: l, e, h, hn => by
  rcases uY.1 h with rfl|h
  ·simp at hn;exact⟨uJ _,by simp;omega⟩
  ·obtain⟨h1,h2⟩:=z2t (n:=n) h (by simp at hn;omega);exact⟨by omega,h2⟩
theorem qs1{ct:Ct}{e:Nat×Ar}(h:e∈ct.all):e.1<ct.ar.length∨VB≤e.1:=by
 rcases kC.1 h with h|h
 ·exact .inl (z2t (n:=ct.ar.length) h (by simp)).2
 ·exact .inr (z2t h rfl).1
def zoe(V:List Value)(A:Nat→Prop)(p:qg)(w:World)(i:Nat):Ar→Value→D→Prop
 |.val t,v,d=>∃cs,j9 t cs v∧Rd w (FFD A p []) d t cs
 |.ref t o,v,d=>∃g cs T,p (i * 16)=some g∧v=.pointer (some ⟨g,0,none⟩)∧w.heap[g]? =some (.cells cs T (0,0))∧qj T=some t∧Con A p w d t (qmb o i t) [] cs.toList
 |.rref t,v,d=>∃b o cs,v=.pointer (some ⟨b,o,none⟩)∧FFD A p [] b∧w.rangeAt b o cs∧0<cs.length∧Rd w (FFD A p []) d t cs
 |.own t,v,d=>∃cs,j9 t cs v∧Con A p w d t (qn i t) [] cs
 |.mref t,v,d=>∃cs,j9 t cs v∧Con A p w d t (qn i t) [] cs
 |.nils,v,_=>v=.slice none 0 0
 |.nilp,v,_=>v=.pointer none
 |.fn f ks,v,_=>v=.func (.func f) #[] (ks.map fun k=>V.getD k undef).toArray
 |.cell T j,v,_=>∃b,v=.pointer (some ⟨b,0,none⟩)∧A b∧q58 p b∧w.heap[b]? =some (.cells #[V.getD j undef] T (0,0))
theorem qwu:∀{all:List (Nat×Ar)}{j0:Nat}{vs:List Value}{ds:List D}{q i j:Nat}{r:Ar},j7 V A p w all vs ds→(qk7 j0 all)[q]? =some (i,j,r)→∃v,vs[q]? =some v∧j0≤j∧zoe V A p w i r v (ds.getD (j - j0) .u)
  |[],j0,vs,ds,q,i,j,r,h,hq=>by simp[qk7] at hq
  | (i', r') :: l, j0, vs, ds, q, i, j, r, h, hq => by
    cases q with
    | zero =>
      simp only[qk7,kJ,gnS] at hq;obtain⟨rfl,rfl,rfl⟩:=hq;cases r' with
      |val t=>obtain⟨v,r,d,ds',rfl,rfl,h1,-⟩:=h;exact⟨v,rfl,uJ _,by rw[uU];exact h1⟩
      |ref t o=>obtain⟨v,r,d,ds',rfl,rfl,h1,-⟩:=h;exact⟨v,rfl,uJ _,by rw[uU];exact h1⟩
      |rref t=>obtain⟨v,r,d,ds',rfl,rfl,h1,-⟩:=h;exact⟨v,rfl,uJ _,by rw[uU];exact h1⟩
      |own t=>obtain⟨v,r,d,ds',rfl,rfl,h1,-⟩:=h;exact⟨v,rfl,uJ _,by rw[uU];exact h1⟩
      |mref t=>obtain⟨v,r,d,ds',rfl,rfl,h1,-⟩:=h;exact⟨v,rfl,uJ _,by rw[uU];exact h1⟩
      |nils=>obtain⟨r,rfl,-⟩:=h;exact⟨_,rfl,uJ _,rfl⟩
      |nilp=>obtain⟨r,rfl,-⟩:=h;exact⟨_,rfl,uJ _,rfl⟩
      |fn f ks=>obtain⟨r,rfl,-⟩:=h;exact⟨_,rfl,uJ _,rfl⟩
      |cell T k=>obtain⟨b,r,rfl,h1,h2,h3,-⟩:=h;exact⟨_,rfl,uJ _,⟨b,rfl,h1,h2,h3⟩⟩
    | succ q =>
      simp only[qk7,uT] at hq;have one:∀{v:Value}{vs':List Value}{d:D}{ds':List D},j7 V A p w l vs' ds'→(qk7 (j0+1) l)[q]? =some (i,j,r)→∃u,(v::vs')[q+1]? =some u∧j0≤j∧zoe V A p w i r u ((d::ds').getD (j - j0) .u):=fun h hq=>by
        obtain⟨u,h1,h2,h3⟩:=qwu h hq;refine⟨u,by simpa using h1,by omega,?_⟩;rw[show j - j0=(j - (j0+1))+1 by omega];simpa using h3
      have non:∀{v:Value}{vs':List Value},j7 V A p w l vs' ds→(qk7 j0 l)[q]? =some (i,j,r)→∃u,(v::vs')[q+1]? =some u∧j0≤j∧zoe V A p w i r u (ds.getD (j - j0) .u):=fun h hq=>by
        obtain⟨u,h1,h2,h3⟩:=qwu h hq;exact⟨u,by simpa using h1,h2,h3⟩
      cases r' with
      |val t=>obtain⟨v,r,d,ds',rfl,rfl,-,h⟩:=h;exact one h hq
      |ref t o=>obtain⟨v,r,d,ds',rfl,rfl,-,h⟩:=h;exact one h hq
      |rref t=>obtain⟨v,r,d,ds',rfl,rfl,-,h⟩:=h;exact one h hq
      |own t=>obtain⟨v,r,d,ds',rfl,rfl,-,h⟩:=h;exact one h hq
      |mref t=>obtain⟨v,r,d,ds',rfl,rfl,-,h⟩:=h;exact one h hq
      |nils=>obtain⟨r,rfl,h⟩:=h;exact non h hq
      |nilp=>obtain⟨r,rfl,h⟩:=h;exact non h hq
      |fn f ks=>obtain⟨r,rfl,h⟩:=h;exact non h hq
      |cell T k=>obtain⟨b,r,rfl,-,-,-,h⟩:=h;exact non h hq
section
variable{c:Cx}{n0:Nat}{V:List Value}{all:List (Nat×Ar)}{ds:List D}
theorem qvr(hA:c.A=A)(hAt:c.At=fun k g=>(k<n0∨VB≤k)→p (k * 16)=some g)(hsn:c.snap=fun q=>V.getD q undef)(h:j7 V A p w all V ds)(hE:∀k,c.v.E k=ds.getD k .u):∀(f q:Nat),(zaz (qk7 0 all) f q).pd c p w (V.getD q undef)
 |0,q=>⟨by rw[hsn],trivial⟩
 | f + 1, q => by
  refine⟨by rw[hsn],?_⟩;have key:∀{i j:Nat}{r:Ar},(qk7 0 all)[q]? =some (i,j,r)→zoe V A p w i r (V.getD q undef) (c.v.E j):=fun hq=>by
   obtain⟨v,h1,-,h3⟩:=qwu h hq;rw[gnG,h1,hE];exact h3
  split
  ·rename_i i j t hq;obtain⟨cs,hp,hr⟩:=key hq;refine⟨cs,hp,?_⟩;rw[hA];exact Con.of_rd hr
  ·rename_i i j t hq;obtain⟨g,cs,T,hg,e,-⟩:=key hq;exact⟨g,hg,e,by rw[hAt];exact fun _=>hg⟩
  ·rename_i i j t hq;obtain⟨b,o,cs,e,hfb,hrg,h0,hr⟩:=key hq;refine⟨b,o,cs,e,by rw[hA];exact hfb,hrg,h0,?_,trivial⟩
   show Rd w (FFD c.A p []) (c.v.E j) t cs
   rw[hA];exact hr
  ·rename_i i j t hq;obtain⟨cs,hp,hr⟩:=key hq;refine⟨cs,hp,?_⟩
   show Con c.A p w (c.v.E j) t (qn i t) [] cs
   rw[hA];exact hr
  ·rename_i i j t hq;obtain⟨cs,hp,hr⟩:=key hq;refine⟨by rw[hsn],cs,hp,?_⟩
   show Con c.A p w (c.v.E j) t (qn i t) [] cs
   rw[hA];exact hr
  ·rename_i i j hq;exact key hq
  ·rename_i i j hq;exact key hq
  ·rename_i i j g ks hq;refine⟨_,key hq,?_⟩;clear hq
   induction ks with
   |nil=>rfl
   |cons k ks ih=>exact⟨_,_,rfl,qvr hA hAt hsn h hE f k,ih⟩
  ·rename_i i j T k hq;obtain⟨b,e,h1,h2,h3⟩:=key hq;exact⟨b,_,by rw[hA];exact h1,h2,e,h3,qvr hA hAt hsn h hE f k⟩
  ·trivial
theorem zh4{x:AV}{v:Value}(h:x.pd c p w v):(zgp x).pd c p w v:=by
 unfold zgp;split
 ·exact h
 ·exact h.2
 ·exact h
theorem qlo(hA:c.A=A)(hAt:c.At=fun k g=>(k<n0∨VB≤k)→p (k * 16)=some g)(hsn:c.snap=fun q=>V.getD q undef)(h:j7 V A p w all V ds)(hE:∀k,c.v.E k=ds.getD k .u):∀(m q t:Nat)(x:AV),lkA (zof (qk7 0 all) q m) t=some x→t<q+m∧x.pd c p w (V.getD t undef)
 |0,q,t,x,hx=>by cases hx
 | m + 1, q, t, x, hx => by
  unfold zof at hx;by_cases hqt:q=t
  ·subst hqt;rw[qa] at hx;injection hx with hx;subst hx;exact⟨by omega,zh4 (qvr hA hAt hsn h hE 6 q)⟩
  ·rw[qe hqt] at hx;obtain⟨h1,h2⟩:=qlo hA hAt hsn h hE m (q+1) t x hx;exact⟨by omega,h2⟩
theorem qls(hA:c.A=A)(hE:∀k,c.v.E k=ds.getD k .u)(h:j7 V A p w all V ds):∀{tb:List (Nat×Nat×Ar)},(∀e:Nat×Nat×Ar,e∈tb→∃q:Nat,(qk7 0 all)[q]? =some e)→∀k e,lkA (zia tb) k=some e→q1s c p w k e
  |[],_,k,e,he=>by cases he
  | (i, j, r) :: l, hm, k, e, he => by
    have go:=qls hA hE h (tb:=l) fun e he=>hm e (uG _ he);cases r with
    | ref t o =>
      have he':lkA ((i,⟨.tok j,t,qmb o i t,[]⟩)::zia l) k=some e:=he;by_cases hik:i=k
      · subst hik;rw[qa] at he';injection he' with he';subst he';obtain⟨q,hq⟩:=hm _ uD;obtain⟨v,-,-,⟨g,cs,T,hg,-,hh,hty,hc⟩⟩:=qwu h hq;refine⟨g,cs,T,hg,hh,hty,?_⟩
        show Con c.A p w (c.v.E j) t (qmb o i t) [] cs.toList
        rw[hE,hA];exact hc
      · rw[qe hik] at he';exact go k e he'
    |_=>exact go k e he
end
end
def qgu(tmps:Array Value):ResultVar→Sem Value
 |.tmp t=>pure (tmps.getD t undef)
 |.cell a t=>do loadVar t (←asAddr (tmps.getD a undef))
theorem results_read(fn:Func)(tmps:Array Value):results fn tmps=(do let vs←fn.results.mapM (qgu tmps);pure (if h:vs.size=1 then vs[0] else .tuple vs)):=by
 unfold results
 congr 1
def Reads(tmps:Array Value)(w:World):List ResultVar→List Value→Prop
 |[],l=>l=[]
 |r::rs,l=>∃v l',l=v::l'∧(qgu tmps r).run uA w=.ok v w∧Reads tmps w rs l'
theorem qc9{w:World}{l:List Value}(h:Reads tmps w fn.results.toList l):(results fn tmps).run uA w=.ok (qet l) w:=by
 have key:∀(rs:List ResultVar)(l:List Value),Reads tmps w rs l→(rs.mapM (qgu tmps)).run uA w=.ok l w:=by
  intro rs
  induction rs with
  |nil=>
   intro l h;cases h;simp
  |cons r rs ih=>
   rintro l⟨v,l',rfl,h1,h2⟩;simp only[List.mapM_cons,Sem.run_bind,h1,Result.andThen_ok,ih l' h2,Sem.run_pure]
 rw[results_read,Array.mapM_eq_mapM_toList];simp only[map_eq_pure_bind,Sem.run_bind,key _ _ h,Result.andThen_ok,Sem.run_pure]
 congr 1
 clear h key
 match l with
 |[]=>rfl
 |[v]=>rfl
 |_::_::_=>rfl
section
variable{c:Cx}{p:qg}{w w0:World}{S0:Nat→Prop}{a:Act}{σ σ':St}
theorem ztg{i:Item}(hf:SF c σ p w a)(h:itT σ i=some x):∃v cs,a.tmps[i.1]? =some v∧j9 i.2.1 cs v∧Con c.A p w (x.ev c.v) i.2.1 i.2.2.1 i.2.2.2 cs∧(snB i.2.1 i.2.2.2=true→v=c.snap i.1):=by
 obtain⟨t,ty,own,dep⟩:=i;have:=z60 hf (l:=[(t,ty,own,dep)]) (xs:=[x]) (by simp only[its,h]);obtain⟨y,r,e,h1,-⟩:=this;simp only[X.evs,List.cons.injEq] at e;rw[e.1];exact h1
theorem ztw{i:Item}(hf:SF c σ p w a)(h:itM σ i=some x):∃g cs T,p (i.1 * 16)=some g∧w.heap[g]? =some (.cells cs T (0,0))∧qj T=some i.2.1∧Con c.A p w (x.ev c.v) i.2.1 i.2.2.1 i.2.2.2 cs.toList:=by
 obtain⟨t,ty,own,dep⟩:=i;have:=qv8 hf (l:=[(t,ty,own,dep)]) (xs:=[x]) (by simp only[its,h]);obtain⟨y,r,e,h1,-⟩:=this;simp only[X.evs,List.cons.injEq] at e;rw[e.1];exact h1
theorem z9j(hf:SF c σ p w a){n:Nat}{rv:ResultVar}{own:Bool}(h:z2y σ n rv t own=some x):∃v,(qgu a.tmps rv).run uA w=.ok v w∧∃cs,j9 t cs v∧Con c.A p w (x.ev c.v) t (if own then qn n t else[]) [] cs:=by
 cases rv with
 |tmp s=>
  obtain⟨v,cs,hv,hp,hc,-⟩:=ztg (i:=(s,t,if own then qn n t else[],[])) hf h;exact⟨v,by simp[qgu,show a.tmps[s]? =some v from hv],cs,hp,hc⟩
 | cell s T =>
  simp only[z2y] at h;split at h
  ·rename_i k t' hl;split at h
   ·rename_i hok;simp only[gnB] at hok;obtain⟨v,hv,g,hg,rfl,-⟩:=hf.t s _ hl;obtain⟨g',cs,T',hg',hh,hty,hc⟩:=ztw (i:=(k,t,if own then qn n t else[],[])) hf h;obtain rfl:=gnI (hg.symm.trans hg');have hr:w.rangeAt g 0 cs.toList:=fun j u hj=>by
     rw[cell_of_row w g (0+j) cs T' (0,0) hh,←Array.getElem?_toList];simpa using hj
    obtain⟨u,hu,hp⟩:=q8n (q3m hok.1) hr (hc.rd (dep':=(if own then qn n t else[]).map (·.2)) (fun x hx=>by cases hx) (fun x hx=>hx));refine⟨u,?_,cs.toList,hp,hc⟩;simpa[qgu,show a.tmps[s]? =some _ from hv,asAddr,Instr.loadAt,Instr.sureAddr] using hu
   ·cases h
  ·cases h
theorem qk3(hf:SF c σ p w a):∀{rvs:List ResultVar}{ts:List (Ty×Bool)}{n:Nat}{xs:List X},rvs.length=ts.length→zj0 σ (rvs.zip ts) n=some xs→
  ∃l,Reads a.tmps w rvs l∧q91 c.A p w ts n l (X.evs c.v xs)∧xs.length=ts.length
 |[],[],n,xs,_,h=>by
  simp only[List.zip_nil_left,zj0,uI] at h;subst h;exact⟨[],rfl,rfl,rfl⟩
 | rv :: rvs, (t, own) :: ts, n, xs, hl, h => by
  simp only[List.zip_cons_cons,zj0] at h;split at h
  ·rename_i x xs' hx hxs;injection h with h;subst h;obtain⟨l,h1,h2,h3⟩:=qk3 hf (by simpa using hl) hxs;obtain⟨v,hv,hc⟩:=z9j hf hx;exact⟨v::l,⟨v,l,rfl,hv,h1⟩,⟨v,l,_,_,rfl,rfl,hc,h2⟩,by simp[h3]⟩
  ·cases h
 |[],_::_,_,_,hl,_=>by cases hl
 |_::_,[],_,_,hl,_=>by cases hl
theorem zlt(hf:SF c σ p w a){n:Nat}(h:zt4 σ n i=true):∃g,p (i * 16)=some g∧c.At i g:=by
 obtain⟨t,-,ht⟩:=kV.1 h;split at ht
 ·rename_i x hx;obtain⟨v,-,hv⟩:=hf.t t x hx;exact AV.has_ok x ht hv
 ·cases ht
theorem qk4{VV:List Value}{p0:qg}(hf:SF c σ p w a){n0 n:Nat}(hAt:c.At=fun k g=>(k<n0∨VB≤k)→p0 (k * 16)=some g):∀{all:List (Nat×Ar)}{xs:List X},(∀e∈all,e.1<n0∨VB≤e.1)→(∀i t,(i,Ar.mref t)∈all→i<n→i<VB→VV[i]? =some (c.snap i)∧(qbt t=true→∃g,c.snap i=.map (some g)∧p0 (i * 16+1)=some g))→z3b σ n all=some xs→q3k VV c.A p0 p w all (X.evs c.v xs)
  | [], xs, _, _, h => by
    simp only[z3b,uI] at h;subst h;rfl
  | (i, r) :: l, xs, hi, hMr, h => by
    have go:∀{xs},z3b σ n l=some xs→q3k VV c.A p0 p w l (X.evs c.v xs):=fun h=>qk4 hf hAt (all:=l) (fun e he=>hi e (uG _ he)) (fun i t hm=>hMr i t (uG _ hm)) h;cases r with
    | ref t o =>
      simp only[z3b] at h;split at h
      · rename_i x xs' hx hxs;split at h
        · rename_i hk;injection h with h;subst h;obtain⟨g,hg,hat⟩:=zlt hf hk;obtain⟨g',cs,T,hg',hh,hty,hc⟩:=ztw (i:=(i,t,qmb o i t,[])) hf hx;obtain rfl:=gnI (hg.symm.trans hg');rw[hAt] at hat;exact⟨_,_,rfl,⟨g,cs,T,hat (hi _ uD),hg,hh,hty,hc⟩,go hxs⟩
        · cases h
      · cases h
    | mref t =>
      simp only[z3b] at h;split at h
      · rename_i x xs' hx hxs;split at h
        · rename_i hk;injection h with h;subst h;simp only[gnB,kT] at hk;obtain⟨k1,k2,k3⟩:=hk;obtain⟨v,cs,hv,hpk,hc,hs⟩:=ztg (i:=(i,t,qn i t,[SNK])) hf hx;by_cases hrw:qr0 t=true
          · have hve:v=c.snap i:=hs (by simp only[snB,gnB];exact⟨k3,rfl⟩);exact⟨_,_,rfl,.inr ⟨hrw,v,cs,by rw[hve];exact(hMr i t uD k1 k2).1,hpk,hc.flat1 (k:=i) (fun _ h=>h) (qrz k3).1⟩,go hxs⟩
          have k3:qbt t=true:=(Bool.or_eq_true_iff.1 k3).resolve_right hrw;obtain⟨g,hg,hp0⟩:=(hMr i t uD k1 k2).2 k3;have hkv:∃K V,t=.map K V:=by
            cases t with
            |map K V=>exact⟨K,V,rfl⟩
            |_=>cases k3
          obtain⟨K,V',rfl⟩:=hkv;have hve:v=.map (some g):=(hs rfl).trans hg;have hc0:Con c.A p w (x.ev c.v) (.map K V') [(0,i * 16+1)] [SNK] cs:=hc;have hc1:Con c.A p w (x.ev c.v) (.map K V') [(0,i * 16+1)] [] cs:=by
            have h0:Fl c.A p w [SNK] (lkA [(0,i * 16+1)] 0) (x.ev c.v) (.map K V') cs:=hc0
            show Fl c.A p w [] (lkA [(0,i * 16+1)] 0) (x.ev c.v) (.map K V') cs
            rw[qa] at h0⊢;rcases h0 with⟨E,te,l,u,e0,-⟩|h0
            · cases e0
            · exact .inr h0
          have hc2:Fl c.A p w [] (lkA [(0,i * 16+1)] 0) (x.ev c.v) (.map K V') cs:=hc1;rw[qa] at hc2;rcases hc2 with⟨E,te,l,u,e0,-⟩|⟨K1,V1,kt,vt,l,g1,es,clock,e0,-,-,-,rfl,hg1,-⟩
          · cases e0
          · have hpv:[Value.map (some g1)]=[v]:=hpk;injection hpv with hpv;rw[hve] at hpv;injection hpv with hpv;injection hpv with hpv;subst hpv;exact⟨_,_,rfl,.inl ⟨g1,hp0,hg1,hc1⟩,go hxs⟩
        · cases h
      · cases h
    |_=>exact go h
theorem zki{w:World}{ct:Ct}(h:j7 V A p w ct.all vs ds)(i:Nat)(t:Ty)(hm:(i,Ar.mref t)∈ct.all)(h1:i<ct.ar.length)(h2:i<VB)(h3:qbt t=true):∃g,vs.getD i undef=.map (some g)∧p (i * 16+1)=some g:=by
 have key:∀{l:List Ar}{k n:Nat}{r:Ar},(n,r)∈idx k l→k≤n∧l[n - k]? =some r:=by
  intro l
  induction l with
  |nil=>intro k n r h;cases h
  | cons x l ih =>
   intro k n r h;rcases uY.1 h with h|h
   ·injection h with e1 e2;subst e1 e2;exact⟨uJ _,by simp⟩
   ·obtain⟨q1,q2⟩:=ih h;refine⟨by omega,?_⟩;rw[show n - k=(n - (k+1))+1 by omega];simpa using q2
 have pos:∀(l:List Ar)(k q:Nat),(idx k l)[q]? =l[q]?.map fun r=>(k+q,r):=by
  intro l
  induction l with
  |nil=>intro k q;simp[idx]
  | cons x l ih =>
   intro k q;cases q with
   |zero=>simp[idx]
   |succ q=>
    simp only[idx,uT,ih]
    congr 1
    funext r
    congr 1
    omega
 have hat:ct.all[i]? =some (i,.mref t):=by
  rcases kC.1 hm with hm|hm
  ·obtain⟨-,q⟩:=key hm;rw[Nat.sub_zero] at q;unfold Ct.all;rw[uF (by
    have:(idx 0 ct.ar).length=ct.ar.length:=by rw[←List.length_map (f:=(·.2)),z3v]
    omega),pos,q]
   simp
  ·have:=(key hm).1;omega
 have tab:∀(l:List (Nat×Ar))(j q:Nat)(e:Nat×Ar),l[q]? =some e→∃j',(qk7 j l)[q]? =some (e.1,j',e.2):=by
  intro l
  induction l with
  |nil=>intro j q e h;simp at h
  | cons x l ih =>
   intro j q e h;cases q with
   |zero=>
    simp only[kJ,uI] at h;subst h;exact⟨j,rfl⟩
   |succ q=>
    simp only[uT] at h;exact ih _ q e h
 obtain⟨j',hj⟩:=tab _ 0 _ _ hat;obtain⟨v,hv,-,cs,hpk,hc⟩:=qwu h hj;rw[gnG,hv];have hkv:∃K V,t=.map K V:=by
  cases t with
  |map K V=>exact⟨K,V,rfl⟩
  |_=>cases h3
 obtain⟨K,V',rfl⟩:=hkv;have hc2:Fl A p w [] (lkA [(0,i * 16+1)] 0) (ds.getD (j' - 0) .u) (.map K V') cs:=hc;rw[qa] at hc2;rcases hc2 with⟨E,te,l,u,e0,-⟩|⟨K1,V1,kt,vt,l,g1,es,clock,e0,-,-,-,rfl,hg1,-⟩
 ·cases e0
 ·have hpv:[Value.map (some g1)]=[v]:=hpk;injection hpv with hpv;exact⟨g1,hpv.symm,hg1⟩
end
def cxA(tbl:Tbl)(ct:Ct)(A:Nat→Prop)(F:Flr)(p:qg)(vs us:List Value)(ds:List D):Cx:=⟨evl (qb tbl) ds,A,F,ct.ar.length,fun k g=>(k<ct.ar.length∨VB≤k)→p (k * 16)=some g,fun k g hk h2 h=>absurd h (by omega),fun q=>(vs++us).getD q undef⟩
theorem qzu{ct:Ct}(hsz:ct.ar.length≤fn.ntmps){w:World}{us:List Value}(hfo:Flo F w w)(hpre:Pre ct.ar.length A F p w)(hvl:vs.length=ct.ar.length)(hargs:j7 (vs++us) A p w ct.all (vs++us) ds):
  Bs (cxA tbl ct A F p vs us ds).A (cxA tbl ct A F p vs us ds).F w (pinned p) p w∧SF ((cxA tbl ct A F p vs us ds).at (qb tbl) ds) (qn1 ct) p w {tmps:=vs.toArray++kB (fn.ntmps - vs.toArray.size) undef,defers:=[]}:=by
 have hb0:Bs (cxA tbl ct A F p vs us ds).A (cxA tbl ct A F p vs us ds).F w (pinned p) p w:=⟨hpre.inj,hpre.bd,But.refl _ _,fun x b hx=>.inl ⟨x,hx⟩,hpre.new,hpre.pa,hpre.obj,hfo⟩;refine⟨hb0,fun t x hx=>?_,qls (c:=(cxA tbl ct A F p vs us ds).at (qb tbl) ds) (A:=A) rfl (fun k=>rfl) hargs fun e he=>kN.1 he⟩;obtain⟨h1,h2⟩:=qlo (c:=(cxA tbl ct A F p vs us ds).at (qb tbl) ds) (A:=A) (n0:=ct.ar.length) rfl rfl rfl hargs (fun k=>rfl) _ _ t x hx;have hlt:t<vs.length:=by omega
 refine⟨(vs++us).getD t undef,?_,h2⟩
 show(vs.toArray++_)[t]? =_
 rw[kD (by simpa using hlt),gnG,uF hlt];simp[gnK hlt]
theorem zcw{ct:Ct}{p':qg}{w w':World}{us:List Value}{l':List D}{σ':St}{a':Act}(hcA:c.A=A)(hcAt:c.At=fun k g=>(k<ct.ar.length∨VB≤k)→p (k * 16)=some g)(hcs:∀i,i<VB→c.snap i=(vs++us).getD i undef)(hargs:j7 (vs++us) A p w ct.all (vs++us) ds)
  (hvl:vs.length=ct.ar.length)(hb':Bs c.A c.F w (pinned p) p' w')(hf':SF (c.at (qb tbl) l') σ' p' w' a'){xs:List X}(hfin:fin ct fn.results.toList σ'=some xs):
  ∃rs p2,(results fn a'.tmps).run uA w'=.ok (qet rs) w'∧Bs A c.F w (pinned p) p2 w'∧q91 A p2 w' ct.rs ct.ar.length rs ((X.evs (evl (qb tbl) l') xs).take ct.rs.length)∧q3k (vs++us) A p p2 w' ct.all ((X.evs (evl (qb tbl) l') xs).drop ct.rs.length):=by
 subst hcA;generalize houts:X.evs (evl (qb tbl) l') xs=outs;unfold fin at hfin;simp only at hfin;split at hfin
 ·rename_i hok;simp only[gnB] at hok;split at hfin
  ·rename_i xa xb hxa hxb;injection hfin with hfin;subst hfin;have hb1:=hb'.un (fun y=> !zu ((qcg σ' (fn.results.toList.zip ct.rs) ct.ar.length++q9h σ' ct.all).map (·.1)++(q74 ct.all++q3q σ' fn.results.toList)) y);have hf1:=SF.un (c:=c.at (qb tbl) l') (q:=fun y=> !zu ((qcg σ' (fn.results.toList.zip ct.rs) ct.ar.length++q9h σ' ct.all).map (·.1)++(q74 ct.all++q3q σ' fn.results.toList)) y) hb'.inj hb'.pa hf';obtain⟨p2,hb2,hf2⟩:=qe2 (c:=c.at (qb tbl) l') hok.1 hb1 hf1;obtain⟨l,h1,h2,h3⟩:=qk3 hf2 (gnN hok.2) hxa;have h4:=qk4 (p0:=p) (n0:=ct.ar.length) hf2 hcAt (fun e he=>qs1 he) (VV:=vs++us) (fun i t hm h1 h2=>⟨by
    show _=some (c.snap i)
    rw[hcs i h2,gnG,uF (by omega),gnK (by omega)];rfl,fun h3=>by
    obtain⟨g,e1,e2⟩:=zki hargs i t hm h1 h2 h3;exact⟨g,(hcs i h2).trans e1,e2⟩⟩) hxb
   have hev:X.evs (evl (qb tbl) l') xa++X.evs (evl (qb tbl) l') xb=outs:=by rw[←q8l];exact houts
   have hla:(X.evs (evl (qb tbl) l') xa).length=ct.rs.length:=by rw[q6n,h3]
   refine⟨l,p2,qc9 h1,hb2,?_,?_⟩
   ·rw[←hev,uH (by omega),←hla,uE];exact h2
   ·rw[←hev,←hla,kY];exact h4
  ·cases hfin
 ·cases hfin
theorem zqr{ct:Ct}(ann:Ann)(fn:Func)(cd:Code)(htb:q0i tbl)(hf:uA.funcs[ct.f]? =some fn)(hb:fn.body=some cd)(hsz:ct.ar.length≤fn.ntmps)
  {w:World}{us:List Value}(hfm:∀te,F.mx te≤flM tbl te)(hfo:Flo F w w)(hpre:Pre ct.ar.length A F p w)(hvl:vs.length=ct.ar.length)(hargs:j7 (vs++us) A p w ct.all (vs++us) ds)
  (h:WfA ct.ars ds→(qgg uA tbl ann ct fn cd).go (qb tbl) R ds fun _ _=>False)
  (hret:∀o rs p' w',R o→Bs A F w (pinned p) p' w'→q91 A p' w' ct.rs ct.ar.length rs (o.take ct.rs.length)→q3k (vs++us) A p p' w' ct.all (o.drop ct.rs.length)→P (.returned (qet rs)) w')
  (hQ:∀e∈tbl,∀T,e.1.pn=some T→(∃ds,e.2 ds=some [.u])→∀w',But (pinned p) w w'→P (.panicked (q98 T)) w')
  (hR:R [.u]→∀e∈tbl,∀T,e.1.pn=some T→∀w',But (pinned p) w w'→P (.panicked (q98 T)) w'):cd.wp uA (bodyPost uA fn P) {tmps:=vs.toArray++kB (fn.ntmps - vs.toArray.size) undef,defers:=[]} w:=by
 obtain⟨hwf,hdl,-⟩:=hargs.wf;rw[all_map] at hwf hdl;have hgo:=h hwf;obtain⟨hb0,hsf⟩:=qzu (tbl:=tbl) hsz hfo hpre hvl hargs;refine(wpIn_wide (n:=0)).1 ?_;refine qdg none 0 (c:=cxA tbl ct A F p vs us ds) (S0:=pinned p) (w0:=w) (d:=[]) (z:=fn.ntmps) htb hfm cd hgo hdl hb0 hsf rfl (by simp;omega) (fun e he T h1 h2 a w2 h3 h4=>⟨h3,hQ e he T h1 h2 w2 h4⟩) (fun h0 e he T h1 a w2 h3 h4=>⟨h3,hR h0 e he T h1 w2 h4⟩) fun n' r σ' l' B' p' w' a' hl' hpre' hB hgo' hb' hf' hd' hz'=>?_;have fin':∀xs,fin ct fn.results.toList σ'=some xs→R (X.evs (evl (qb tbl) l') xs)→a'.defers=[]∧∃v,(results fn a'.tmps).run uA w'=.ok v w'∧P (.returned v) w':=by
  intro xs hfin hout;obtain⟨rs,p2,h1,h2,h3,h4⟩:=zcw (c:=cxA tbl ct A F p vs us ds) rfl rfl (fun _ _=>rfl) hargs hvl hb' hf' hfin;exact⟨hd',_,h1,hret _ rs p2 w' hout h2 h3 h4⟩
 cases r with
 |exit i=>exact hgo'.elim
 | normal =>
  simp only[qbs] at hgo';split at hgo'
  ·rename_i xs hx;exact fin' xs hx hgo'
  ·exact hgo'.elim
 | ret =>
  simp only[qbs] at hgo';split at hgo'
  ·rename_i xs hx;exact fin' xs hx hgo'
  ·exact hgo'.elim
theorem qtb{ct:Ct}(ann:Ann)(fn:Func)(cd:Code)(htb:q0i tbl)(hf:uA.funcs[ct.f]? =some fn)(hb:fn.body=some cd)(hsz:ct.ar.length≤fn.ntmps)
  {w:World}{us:List Value}(hfm:∀te,F.mx te≤flM tbl te)(hfo:Flo F w w)(hpre:Pre ct.ar.length A F p w)(hvl:vs.length=ct.ar.length)(hargs:j7 (vs++us) A p w ct.all (vs++us) ds)
  (h:WfA ct.ars ds→(qgg uA tbl ann ct fn cd).go (qb tbl) R ds fun _ _=>False)
  (hret:∀o rs p' w',R o→Bs A F w (pinned p) p' w'→q91 A p' w' ct.rs ct.ar.length rs (o.take ct.rs.length)→q3k (vs++us) A p p' w' ct.all (o.drop ct.rs.length)→P (.returned (qet rs)) w')
  (hQ:∀e∈tbl,∀T,e.1.pn=some T→(∃ds,e.2 ds=some [.u])→∀w',But (pinned p) w w'→P (.panicked (q98 T)) w')
  (hR:R [.u]→∀e∈tbl,∀T,e.1.pn=some T→∀w',But (pinned p) w w'→P (.panicked (q98 T)) w'):Calls uA ct.f vs.toArray w P:=calls_of_wp hf hb (zqr ann fn cd htb hf hb hsz hfm hfo hpre hvl hargs h hret hQ hR)
def FlF(ct:Ct)(tbl:Tbl)(ds:List D):Prop:=∀F,qg3 ct F ds→∀te,F.mx te≤flM tbl te
theorem FlF.none{ct:Ct}(h:ct.fl=[]):FlF ct tbl ds:=fun F hF te=>by rw[hF.zero h];exact uX _
theorem FlF.of{ct:Ct}(h:∀k j te,(k,j,te)∈ct.fl→k≠999∧((ds.getD k .u).fld j).rs.length≤flM tbl te):FlF ct tbl ds:=fun F hF te=>by
 rcases hF te with h0|⟨k,j,hm,h1⟩
 ·rw[h0];exact uX _
 ·obtain⟨h2,h3⟩:=h k j te hm;exact uM (h1.resolve_left h2) h3
def ju(f:FuncId)(te:Ty):Ct:={f:=f,ar:=[.val (.st 4242424243)],rs:=[(te,false)]}
theorem zrg{w:World}{P:Nat→Prop}(h:Rd w P d (.st 4242424243) cs):False:=by
 cases d with
 |a l=>
  obtain⟨T,fs,e,hf,-⟩:=h;injection e with e;subst e;cases hf
 |u=>exact h
 |i n=>obtain⟨k,e,-⟩:=h;cases e
 |b x=>cases h.1
 |s x=>cases h.1
 |r l=>obtain⟨E,te,A,cap,e,-⟩:=h;cases e
 |mp l=>obtain⟨K,V,kt,vt,g,es,clock,e,-⟩:=h;cases e
theorem q1w(f:FuncId)(hen:∀args w,(callFunc f args).run uA w=.ok (.enter f args) w)(te:Ty)(m:Nat):FOk (ju f te) fun _=>some [.i m]:=
 ⟨hen,(fun A F p w vs us ds outs hg _ _ _ hvl hargs=>by
  obtain⟨v,r,d,ds',e1,e2,⟨cs,h1,h2⟩,-⟩:=hargs;exact(zrg h2).elim),fun h=>absurd rfl h⟩
theorem zgq{ct:Ct}(ann:Ann)(fn:Func)(cd:Code)(htb:q0i tbl)(hf:uA.funcs[ct.f]? =some fn)(hb:fn.body=some cd)
  (hen:∀args w,(callFunc ct.f args).run uA w=.ok (.enter ct.f args) w)(hsz:ct.ar.length≤fn.ntmps)
  (h:∀ds outs,WfA ct.ars ds→g ds=some outs→(qgg uA tbl ann ct fn cd).go (qb tbl) (fun o=>o=outs) ds fun _ _=>False)(hnp:q76 tbl=true:=by rfl)(hkp:ct.kp=[]:=by rfl)(hfl:ct.fl=[]:=by rfl):FOk ct g:=
 ⟨hen,fun A F p w vs us ds outs hg hfo0 hfo hpre hvl hargs=>qtb ann fn cd htb hf hb hsz (FlF.none hfl F hfo0) hfo hpre hvl hargs (fun hw=>h ds outs hw hg)
  (fun o rs p' w' ho h1 h2 h3=>.inr ⟨rs,p',rfl,h1,by rw[←ho];exact h2,by rw[←ho];exact h3⟩) (fun e he T hT=>(q8p hnp he hT).elim) (fun _ e he T hT=>(q8p hnp he hT).elim),fun h=>absurd hkp h⟩
def FAt(ct:Ct)(ds outs:List D):Prop:=∀(A:Nat→Prop)(F:Flr)(p:qg)(w:World)(vs us:List Value),qg3 ct F ds→Flo F w w→Pre ct.ar.length A F p w→vs.length=ct.ar.length→j7 (vs++us) A p w ct.all (vs++us) ds→
  Calls uA ct.f vs.toArray w fun e w'=>(∃T,ct.pn=some T∧outs=[.u]∧e=.panicked (q98 T)∧But (pinned p) w w')∨∃rs p',e=.returned (qet rs)∧Bs A F w (pinned p) p' w'∧q91 A p' w' ct.rs ct.ar.length rs (outs.take ct.rs.length)∧q3k (vs++us) A p p' w' ct.all (outs.drop ct.rs.length)
theorem FOk.of_at{ct:Ct}(hen:∀args w,(callFunc ct.f args).run uA w=.ok (.enter ct.f args) w)(h:∀ds outs,WfA ct.ars ds→g ds=some outs→FAt ct ds outs)(hkp:ct.kp=[]:=by rfl):FOk ct g:=
 ⟨hen,fun A F p w vs us ds outs hg hfl hfo hpre hvl hargs=>h ds outs (by rw[←all_map];exact hargs.wf.1) hg A F p w vs us hfl hfo hpre hvl hargs,fun h=>absurd hkp h⟩
theorem zl3{ct:Ct}{outs:List D}(tbl:Flr→Tbl)(ann:Ann)(fn:Func)(cd:Code)(htb:∀F,q0i (tbl F))(hf:uA.funcs[ct.f]? =some fn)(hb:fn.body=some cd)(hsz:ct.ar.length≤fn.ntmps)
  (h:∀F,(qgg uA (tbl F) ann ct fn cd).go (qb (tbl F)) (fun o=>o=outs) ds fun _ _=>False)(hnp:∀F,q76 (tbl F)=true)(hfm:∀F,qg3 ct F ds→∀te,F.mx te≤flM (tbl F) te):FAt ct ds outs:=
 fun A F p w vs us hfl hfo hpre hvl hargs=>qtb (tbl:=tbl F) ann fn cd (htb F) hf hb hsz (hfm F hfl) hfo hpre hvl hargs (fun _=>h F)
  (fun o rs p' w' ho h1 h2 h3=>.inr ⟨rs,p',rfl,h1,by rw[←ho];exact h2,by rw[←ho];exact h3⟩) (fun e he T hT=>(q8p (hnp F) he hT).elim) (fun _ e he T hT=>(q8p (hnp F) he hT).elim)
theorem z1i{ct:Ct}(ann:Ann)(fn:Func)(cd:Code)(htb:q0i tbl)(hf:uA.funcs[ct.f]? =some fn)(hb:fn.body=some cd)(hsz:ct.ar.length≤fn.ntmps)
  {outs:List D}(h:(qgg uA tbl ann ct fn cd).go (qb tbl) (fun o=>o=outs) ds fun _ _=>False)(hnp:q76 tbl=true)(hfm:FlF ct tbl ds):FAt ct ds outs:=
 fun A F p w vs us hfl hfo hpre hvl hargs=>qtb ann fn cd htb hf hb hsz (hfm F hfl) hfo hpre hvl hargs (fun _=>h)
  (fun o rs p' w' ho h1 h2 h3=>.inr ⟨rs,p',rfl,h1,by rw[←ho];exact h2,by rw[←ho];exact h3⟩) (fun e he T hT=>(q8p hnp he hT).elim) (fun _ e he T hT=>(q8p hnp he hT).elim)
theorem q0i.nil:q0i []:=fun e he=>by cases he
theorem q0i.cons{ct:Ct}{l:Tbl}(h:FOk ct g)(hl:q0i l):q0i ((ct,g)::l):=fun e he=>by
 rcases uY.1 he with rfl|he
 ·exact h
 ·exact hl e he
end
variable{E:TypeId}
theorem Wf.row(h:Wf d (.row E)):∃l te,d=.r l∧qj E=some te∧l.length≤LM te∧∀x∈l,Wf x te:=by
 obtain⟨w,F,cs,h⟩:=h;cases d with
 |r l=>
  obtain⟨E',te,A,cap,e,hte,e3,h1,h2,-,hR⟩:=h;injection e with e;subst e;refine⟨l,te,rfl,hte,h2,fun x hx=>?_⟩;obtain⟨i,hi,rfl⟩:=List.mem_iff_getElem.1 hx;obtain⟨b,o,c,-,-,-,hr⟩:=q0s.1 hR i hi;exact⟨w,F,c,hr⟩
 |u=>exact h.elim
 |i n=>obtain⟨k,e,-⟩:=h;cases e
 |b x=>cases h.1
 |s x=>cases h.1
 |a l=>obtain⟨T',fs0,e1,-⟩:=h;cases e1
 |mp l=>obtain⟨K,V,kt,vt,g,es,clock,e,-⟩:=h;cases e
theorem Wf.int{k:IntKind}(h:Wf d (.int k)):∃n,d=.i n∧yz k n=true:=by
 obtain⟨w,F,cs,h⟩:=h;cases d with
 |i n=>
  obtain⟨k',e,-,hr⟩:=h;injection e with e;subst e;exact⟨n,rfl,hr⟩
 |u=>exact h.elim
 |r l=>obtain⟨E,te,A,cap,e,-⟩:=h;cases e
 |b x=>cases h.1
 |s x=>cases h.1
 |a l=>obtain⟨T',fs0,e1,-⟩:=h;cases e1
 |mp l=>obtain⟨K,V,kt,vt,g,es,clock,e,-⟩:=h;cases e
theorem Wf.str(h:Wf d .str):∃x,d=.s x∧x.size≤LIM:=by
 obtain⟨w,F,cs,h⟩:=h;cases d with
 |s x=>exact⟨x,rfl,h.2.2⟩
 |u=>exact h.elim
 |r l=>obtain⟨E,te,A,cap,e,-⟩:=h;cases e
 |i n=>obtain⟨k,e,-⟩:=h;cases e
 |b x=>cases h.1
 |a l=>obtain⟨T',fs0,e1,-⟩:=h;cases e1
 |mp l=>obtain⟨K,V,kt,vt,g,es,clock,e,-⟩:=h;cases e
def WfL:List D→List Ty→Prop
 |[],fs=>fs=[]
 |d::ds,fs=>∃t ts,fs=t::ts∧Wf d t∧WfL ds ts
theorem RdF.wf{w:World}{F:Nat→Prop}:∀{ds:List D}{fs:List Ty}{cs:List Value},RdF w F ds fs cs→WfL ds fs
 |[],fs,cs,h=>h.1
 |d::ds,fs,cs,h=>by
  obtain⟨t,ts,c1,c2,e1,-,h1,h2⟩:=h;exact⟨t,ts,e1,⟨w,F,c1,h1⟩,RdF.wf h2⟩
theorem Wf.st{S:TypeId}(h:Wf d (.st S)):∃ds fs,d=.a ds∧flds S=some fs∧WfL ds fs:=by
 obtain⟨w,F,cs,h⟩:=h;cases d with
 |a l=>
  obtain⟨T',fs0,e1,e2,h⟩:=h;injection e1 with e1;subst e1;exact⟨l,fs0,rfl,e2,RdF.wf h⟩
 |u=>exact h.elim
 |r l=>obtain⟨E,te,A,cap,e,-⟩:=h;cases e
 |i n=>obtain⟨k,e,-⟩:=h;cases e
 |b x=>cases h.1
 |s x=>cases h.1
 |mp l=>obtain⟨K,V,kt,vt,g,es,clock,e,-⟩:=h;cases e
def zn7(e:Ev):List X→Bool
 |[]=>true
 |x::l=>(x.ev e).tt&&zn7 e l
theorem zd3{e:Ev}:∀{l:List X},zn7 e l=true→jy e l
 |[],_=>trivial
 |x::l,h=>by
  simp only[zn7,gnB] at h;exact⟨h.1,zd3 h.2⟩
def itf(f:List D→Option (Nat×List D))(id:Nat):Nat→List D→Option (Nat×List D)
 |0,_=>none
 |k+1,st=>match f st with
  |some (j,st')=>if uN j (id+1) then itf f id k st' else some (j,st')
  |none=>none
def z3e:Nat×List D→Nat×List D→Bool:=fun a b=>uN a.1 b.1&&D.beqs a.2 b.2
def Tree.den(S:Nat→List D→Option (List D))(fuel:Nat):Tree→List D→Option (Nat×List D)
 |.bad _,_=>none
 |.need ns t,l=>if zn7 (evl S l) ns then t.den S fuel l else none
 |.br x t e,l=>if(x.ev (evl S l)).tt then t.den S fuel l else e.den S fuel l
 | .amb x neg t e, l => if (x.ev (evl S l)).rs.isEmpty then (match t.den S fuel l, e.den S fuel l with
   |some a,some b=>if z3e a b then some a else none
   |_,_=>none) else if neg then t.den S fuel l else e.den S fuel l
 |.leaf xs,l=>some (0,X.evs (evl S l) xs)
 |.back id xs,l=>some (id+1,X.evs (evl S l) xs)
 |.loop id n init body,l=>itf (fun st=>body.den S fuel (l.take n++st)) id fuel (X.evs (evl S l) init)
def zpb(R:List D→Prop)(B:Nat→List D→Prop):Nat×List D→Prop
  |(0,xs)=>R xs
  |(id+1,xs)=>B id xs
theorem zbw:∀{l m:List D},D.beqs l m=true→l=m
 |[],[],_=>rfl
 |x::l,y::m,h=>by
  simp only[D.beqs,gnB] at h;rw[(D.beq_iff _ _).1 h.1,zbw h.2]
 |[],_::_,h=>by simp[D.beqs] at h
 |_::_,[],h=>by simp[D.beqs] at h
theorem z9n{a b:Nat×List D}(h:z3e a b=true):a=b:=by
 obtain⟨i,l⟩:=a;obtain⟨j,m⟩:=b;simp only[z3e,gnB] at h;rw[gnN h.1,zbw h.2]
theorem z7p{P:Nat→Prop}(h:∃k,P k):∃m,P m∧∀k,P k→m≤k:=by
 obtain⟨k,hk⟩:=h
 induction k using Nat.strongRecOn with
 | _ k ih =>
  by_cases hl:∃j,j<k∧P j
  ·obtain⟨j,hj,hp⟩:=hl;exact ih j hj hp
  ·exact⟨k,hk,fun j hj=>Nat.le_of_not_lt fun hlt=>hl ⟨j,hlt,hj⟩⟩
open Classical in
noncomputable def qig(P:Nat→Prop):Nat:=if h:∃k,P k then(z7p h).choose else 0
theorem z0q{P:Nat→Prop}(h:∃k,P k):P (qig P)∧∀k,P k→qig P≤k:=by
 unfold qig;rw[dif_pos h];exact(z7p h).choose_spec
variable{fuel:Nat}
theorem zed:∀(t:Tree){l:List D}{B:Nat→List D→Prop}{out:Nat×List D},t.den S fuel l=some out→zpb R B out→t.go S R l B:=by
 intro t
 induction t with
 |bad n=>intro l B out h;cases h
 | need ns t ih =>
  intro l B out h ho;unfold Tree.den at h;split at h
  ·rename_i hs;exact⟨zd3 hs,ih h ho⟩
  ·cases h
 | br x t e iht ihe =>
  intro l B out h ho;unfold Tree.den at h;refine⟨fun hx=>?_,fun hx=>?_⟩
  ·rw[if_pos hx] at h;exact iht h ho
  ·rw[if_neg (by rw[hx];decide)] at h;exact ihe h ho
 | amb x neg t e iht ihe =>
  intro l B out h ho;unfold Tree.den at h;split at h
  ·split at h
   ·rename_i a b ha hb;split at h
    ·rename_i hs;injection h with h;subst h;have:=z9n hs;subst this;exact⟨fun _=>iht ha ho,fun _=>ihe hb ho⟩
    ·cases h
   ·cases h
  ·rename_i hne;have hne':¬(x.ev (evl S l)).rs=[]:=fun e=>hne (by rw[e];rfl);split at h
   ·rename_i hn;exact⟨fun _=>iht h ho,fun hc=>absurd (hc hn) hne'⟩
   ·rename_i hn;exact⟨fun hc=>absurd (hc (by simpa using hn)) hne',fun _=>ihe h ho⟩
 |leaf xs=>
  intro l B out h ho;simp only[Tree.den,uI] at h;subst h;exact ho
 |back id xs=>
  intro l B out h ho;simp only[Tree.den,uI] at h;subst h;exact ho
 | loop id n init body ih =>
  intro l B out h ho;unfold Tree.den at h;generalize hf:(fun st=>body.den S fuel (l.take n++st))=f at h;have hfe:∀st,body.den S fuel (l.take n++st)=f st:=fun st=>by rw[←hf]
  -- more rounds answer alike
  have mono:∀k st o,itf f id k st=some o→itf f id (k+1) st=some o:=by
   intro k
   induction k with
   |zero=>intro st o h;cases h
   | succ k ihk =>
    intro st o h;unfold itf at h⊢;split at h
    ·rename_i j st' hj;split at h
     ·rename_i hb;rw[if_pos hb];exact ihk _ _ h
     ·rename_i hb;rw[if_neg hb];exact h
    ·cases h
  refine⟨fun st=>∃k o,itf f id k st=some o∧zpb R B o,fun st=>qig fun k=>(itf f id k st).isSome=true,⟨fuel,out,h,ho⟩,?_⟩;rintro st - ⟨k,o,hk,hoo⟩;have hex:∃k,(itf f id k st).isSome=true:=⟨k,by rw[hk];rfl⟩;obtain⟨hmin,-⟩:=z0q hex;obtain⟨o',ho'⟩:=kE.1 hmin;have up:∀a b st o,itf f id a st=some o→itf f id (a+b) st=some o:=by
   intro a b
   induction b with
   |zero=>intro st o h;exact h
   |succ b ihb=>intro st o h;exact mono _ _ _ (ihb st o h)
  have hoo':o'=o:=by
   have h1:=up _ k st o' ho';have h2:=up k (qig fun k=>(itf f id k st).isSome=true) st o hk;rw[Nat.add_comm] at h2;exact gnI (h1.symm.trans h2)
  rw[hoo'] at ho';cases hm:qig (fun k=>(itf f id k st).isSome=true) with
  |zero=>rw[hm] at ho';cases ho'
  | succ m =>
   rw[hm] at ho';unfold itf at ho';split at ho'
   ·rename_i j st' hj;refine ih ((hfe st).trans hj) ?_;split at ho'
    ·rename_i hb;obtain rfl:=gnN hb
     show jg B id _ id st'
     unfold jg;rw[if_pos rfl];refine⟨⟨m,o,ho',hoo⟩,?_⟩;have hex':∃k,(itf f id k st').isSome=true:=⟨m,by rw[ho'];rfl⟩
     show _<qig (fun k=>(itf f id k st).isSome=true)
     rw[hm];exact Nat.lt_succ_of_le ((z0q hex').2 m (by rw[ho'];rfl))
    ·rename_i hb;injection ho' with ho';subst ho';cases j with
     |zero=>exact hoo
     | succ j =>
      show jg B id _ j st'
      unfold jg;rw[if_neg]
      ·exact hoo
      ·intro e;subst e;exact hb (kM _)
   ·cases ho'
def zh6:Option (Nat×List D)→Option (List D)
 |some (0,xs)=>some xs
 |_=>none
theorem zhn{o:Option (Nat×List D)}{xs:List D}(h:zh6 o=some xs):o=some (0,xs):=by
 unfold zh6 at h;split at h
 ·injection h with h;rw[h]
 ·cases h
def qar(tbl:Tbl)(fuel:Nat)(t:Tree):List D→Option (List D):=fun ds=>zh6 (t.den (qb tbl) fuel ds)
theorem q18{t:Tree}{outs:List D}(h:qar tbl fuel t ds=some outs):t.go (qb tbl) (fun o=>o=outs) ds fun _ _=>False:=
 zed t (zhn h) rfl
def upN(G:(List D→Option (List D))→List D→Option (List D)):Nat→List D→Option (List D)
 |0=>fun _=>none
 |n+1=>G (upN G n)
variable{ct:Ct}
theorem FOk.none(hen:∀args w,(callFunc ct.f args).run uA w=.ok (.enter ct.f args) w):FOk ct fun _=>Option.none:=⟨hen,fun A F p w vs us ds outs h=>(by cases h),fun _ A F p w vs us ds outs h=>(by cases h)⟩
theorem qsz{G:(List D→Option (List D))→List D→Option (List D)}(hen:∀args w,(callFunc ct.f args).run uA w=.ok (.enter ct.f args) w)(h:∀g,FOk ct g→FOk ct (G g)):∀n,FOk ct (upN G n)
 |0=>FOk.none hen
 |n+1=>h _ (qsz hen h n)
def q3e(m:List D→Nat)(n:Nat)(g:List D→Option (List D)):List D→Option (List D):=fun ds=>if m ds<n then g ds else none
theorem qa2{m:List D→Nat}(hen:∀args w,(callFunc ct.f args).run uA w=.ok (.enter ct.f args) w)(h:∀n,FOk ct (q3e m n g)→FOk ct (q3e m (n+1) g)):FOk ct g:=by
 have key:∀n,FOk ct (q3e m n g):=by
  intro n
  induction n with
  |zero=>exact⟨hen,fun A F p w vs us ds outs h=>(by simp[q3e] at h),fun _ A F p w vs us ds outs h=>(by simp[q3e] at h)⟩
  |succ n ih=>exact h n ih
 refine⟨hen,fun A F p w vs us ds outs hg f1 f2 hp hl ha=>(key (m ds+1)).call A F p w vs us ds outs ?_ f1 f2 hp hl ha,fun hk A F p w vs us ds outs hg f1 f2 hp hl ha=>(key (m ds+1)).keep hk A F p w vs us ds outs ?_ f1 f2 hp hl ha⟩<;>
 ·simp only[q3e,if_pos (kW _)];exact hg
theorem FOk.sub{g':List D→Option (List D)}(h:FOk ct g)(hs:∀ds outs,g' ds=some outs→g ds=some outs):FOk ct g':=⟨h.enter,fun A F p w vs us ds outs hg f1 f2 hp hl ha=>h.call A F p w vs us ds outs (hs ds outs hg) f1 f2 hp hl ha,fun hk A F p w vs us ds outs hg f1 f2 hp hl ha=>h.keep hk A F p w vs us ds outs (hs ds outs hg) f1 f2 hp hl ha⟩
variable{σ:St}
section
section
variable{A A':Nat→Prop}{F:Flr}{p:qg}{w:World}(hA:∀b,b<w.heap.size→A b→A' b)
include hA
theorem FFD.chA{b:Nat}(hb:b<w.heap.size)(h:FFD A p dep b):FFD A' p dep b:=by
 rcases h with⟨h1,h2⟩|h
 ·exact .inl ⟨hA b hb h1,h2⟩
 ·exact .inr h
theorem Rd.chA(h:Rd w (FFD A p dep) d t cs):Rd w (FFD A' p dep) d t cs:=Rd.mono (fun b hb hf=>hf.chA hA hb) h
theorem Fl.chA{o:Option Nat}(h:Fl A p w dep o d t cs):Fl A' p w dep o d t cs:=by
 cases o with
 |none=>exact Rd.chA hA h
 | some pin =>
  rcases h with⟨E,te,l,v,e1,hte,e2,e3,hv⟩|h
  ·refine .inl ⟨E,te,l,v,e1,hte,e2,e3,?_⟩;rcases hv with hv|⟨g,cap,cur,e4,hg,hh,q1,q2,q3,q4,q5⟩
   ·exact .inl hv
   ·refine .inr ⟨g,cap,cur,e4,hg,hh,q1,q2,q3,q4,fun i hi=>?_⟩;obtain⟨vs,hr1,hd⟩:=q5 i hi;exact⟨vs,hr1,Rd.chA hA hd⟩
  ·exact .inr h
theorem Fls.chA{own:List (Nat×Nat)}:∀{ds:List D}{j:Nat}{fs:List Ty}{cs:List Value},Fls A p w dep own j ds fs cs→Fls A' p w dep own j ds fs cs
 |[],_,_,_,h=>h
 |d::ds,j,fs,cs,⟨t,ts,c1,c2,e1,e2,h1,h2⟩=>⟨t,ts,c1,c2,e1,e2,Fl.chA hA h1,Fls.chA h2⟩
theorem Con.chA{own:List (Nat×Nat)}(h:Con A p w d t own dep cs):Con A' p w d t own dep cs:=by
 unfold Con at h⊢;split
 ·obtain⟨fs,ds,hf,e,h⟩:=h;exact⟨fs,ds,hf,e,Fls.chA hA h⟩
 ·rename_i hne;split at h
  ·rename_i T;exact absurd rfl (hne T)
  ·exact Fl.chA hA h
end
mutual
/-- No word of a snapshot within. -/
def AV.plain:AV→Bool
 |.sn _ _=>false
 |.pt _ _ _ _=>false
 |.ar _ _ _=>false
 |.lv _ _=>false
 |.ax _ _ _ _=>false
 |.tup l=>qge l
 |.gd _ a=>AV.plain a
 |.fn _ l=>qge l
 |.bx _ _ a=>AV.plain a
 |.fr _ a=>AV.plain a
 |.ff _ _ _ _ _ _ _ _=>true
 |_=>true
def qge:List AV→Bool
 |[]=>true
 |a::l=>AV.plain a&&qge l
end
section
variable{c c':Cx}{p:qg}{w:World}
mutual
theorem AV.chA(hA:∀b,b<w.heap.size→c.A b→c'.A b)(hv:c.v=c'.v)(hT:c.At=c'.At)(hF:c.F=c'.F):∀(x:AV)(v:Value),x.plain=true→x.pd c p w v→x.pd c' p w v
 |.any,v,_,h=>h
 |.undef,v,_,h=>h
 |.nilS,v,_,h=>h
 |.nb x neg,v,_,⟨b,e,h⟩=>⟨b,e,by rw[←hv];exact h⟩
 |.nilP,v,_,h=>h
 |.ref k q o t,v,_,⟨g,hg,e,ha⟩=>⟨g,hg,e,by rw[←hT];exact ha⟩
 |.v x t own dep,v,_,⟨cs,hp,hc⟩=>⟨cs,hp,by rw[←hv];exact hc.chA hA⟩
 | .rd x t dep wr, v, _, ⟨b, o, cs, e, hf, hr, h0, hd, hw⟩ => by
  refine⟨b,o,cs,e,hf.chA hA (qdu hr h0),hr,h0,by rw[←hv];exact Rd.chA hA hd,?_⟩
  match wr,hw with
  |none,_=>trivial
  |some (pin,i,pt,q,te),hw=>
   refine⟨hw.1,?_⟩;rw[←hv];exact hw.2
 |.tup l,v,hb,⟨vs,e,h⟩=>⟨vs,e,z3i hA hv hT hF l vs (by simpa[AV.plain] using hb) h⟩
 |.gd cs a,v,hb,h=>by
  rw[show AV.pd c' p w (.gd cs a) v=((hold c'.v cs=true→AV.pd c' p w a v)∧(hold c'.v cs=false→v=Go.undef)) from rfl,←hv];exact⟨fun hc=>AV.chA hA hv hT hF a v (by simpa[AV.plain] using hb) (h.1 hc),h.2⟩
 |.fn f l,v,hb,⟨vs,e,h⟩=>⟨vs,e,z3i hA hv hT hF l vs (by simpa[AV.plain] using hb) h⟩
 |.bx k T a,v,hb,⟨g,u,hg,e,hh,h⟩=>⟨g,u,⟨hg.1,by rw[←hT];exact hg.2⟩,e,hh,AV.chA hA hv hT hF a u (by simpa[AV.plain] using hb) h⟩
 |.sn t a,v,hb,h=>by simp[AV.plain] at hb
 |.pt _ _ _ _,v,hb,h=>by simp[AV.plain] at hb
 |.ar _ _ _,v,hb,h=>by simp[AV.plain] at hb
 |.lv _ _,v,hb,h=>by simp[AV.plain] at hb
 |.ax _ _ _ _,v,hb,h=>by simp[AV.plain] at hb
 |.fr T a,v,hb,⟨g,u,ha,hf,e,hh,h⟩=>⟨g,u,hA g (uC.1 hh).1 ha,hf,e,hh,AV.chA hA hv hT hF a u (by simpa[AV.plain] using hb) h⟩
 |.ff f T1 x1 t1 T2 x2 t2 dep,v,_,⟨g,cs1,cs2,e,ha,hb,hfr,hg,hg2,r1,r2⟩=>⟨g,cs1,cs2,e,⟨hA g (qq hg) ha.1,ha.2⟩,⟨hA (g+1) (qq hg2) hb.1,hb.2⟩,by rw[←hF];exact hfr,hg,hg2,by rw[←hv];exact Rd.mono (fun b hb h=>⟨h.1.imp (fun y=>⟨hA b hb y.1,y.2⟩) id,h.2⟩) r1,by rw[←hv];exact Rd.mono (fun b hb h=>⟨h.1.imp (fun y=>⟨hA b hb y.1,y.2⟩) id,h.2⟩) r2⟩
theorem z3i(hA:∀b,b<w.heap.size→c.A b→c'.A b)(hv:c.v=c'.v)(hT:c.At=c'.At)(hF:c.F=c'.F):∀(l:List AV)(vs:List Value),qge l=true→pds c p w l vs→pds c' p w l vs
 |[],vs,_,h=>h
 |a::l,vs,hb,⟨v,r,e,ha,hl⟩=>by
  simp only[qge,gnB] at hb;exact⟨v,r,e,AV.chA hA hv hT hF a v hb.1 ha,z3i hA hv hT hF l r hb.2 hl⟩
end
theorem q1s.chA(hA:∀b,b<w.heap.size→c.A b→c'.A b)(hv:c.v=c'.v){k:Nat}{e:Ent}(h:q1s c p w k e):q1s c' p w k e:=by
 obtain⟨g,cs,T,hg,hh,hty,hc⟩:=h;exact⟨g,cs,T,hg,hh,hty,by rw[←hv];exact hc.chA hA⟩
def snT(l:List (Nat×AV)):List (Nat×AV):=l.map fun e=>(e.1,.sn e.1 e.2)
def unsn:AV→AV
 |.sn _ a=>a
 |a=>a
def unT(l:List (Nat×AV)):List (Nat×AV):=l.map fun e=>(e.1,unsn e.2)
def qoh(l:List (Nat×AV)):Bool:=l.all fun e=>e.2.plain
theorem z5i{β:Type}{f:Nat→α→β}{l:List (Nat×α)}{k:Nat}{y:β}(h:lkA (l.map fun e=>(e.1,f e.1 e.2)) k=some y):∃x,lkA l k=some x∧y=f k x:=by
 induction l with
 |nil=>cases h
 | cons e l ih =>
  obtain⟨m,x⟩:=e;by_cases hm:m=k
  ·subst hm;rw[kH,qa] at h;injection h with h;exact⟨x,qa,h.symm⟩
  ·rw[kH,qe hm] at h;rw[qe hm];exact ih h
theorem SF.snap(hA:∀b,b<w.heap.size→c.A b→c'.A b)(hv:c.v=c'.v)(hT:c.At=c'.At)(hF:c.F=c'.F)(hs:∀t v,a.tmps[t]? =some v→c'.snap t=v)(hp:qoh σ.t=true)(h:SF c σ p w a):SF c' ⟨snT σ.t,σ.m⟩ p w a:=by
 refine⟨fun t x hx=>?_,fun k e he=>(h.m k e he).chA hA hv⟩;obtain⟨y,hy,rfl⟩:=z5i (f:=fun t x=>AV.sn t x) hx;obtain⟨v,h1,h2⟩:=h.t t y hy;exact⟨v,h1,(hs t v h1).symm,AV.chA hA hv hT hF y v (uO.1 hp _ (qv hy)) h2⟩
theorem SF.unsnap(hA:∀b,b<w.heap.size→c.A b→c'.A b)(hv:c.v=c'.v)(hT:c.At=c'.At)(hF:c.F=c'.F)(hp:qoh (unT σ.t)=true)(h:SF c σ p w a):SF c' ⟨unT σ.t,σ.m⟩ p w a:=by
 refine⟨fun t x hx=>?_,fun k e he=>(h.m k e he).chA hA hv⟩;have hpl:=uO.1 hp _ (qv hx);obtain⟨y,hy,rfl⟩:=q7b (f:=unsn) hx;obtain⟨v,h1,h2⟩:=h.t t y hy;refine⟨v,h1,AV.chA hA hv hT hF _ v hpl ?_⟩;unfold unsn;split
 ·exact h2.2
 ·exact h2
theorem SF.other{b:Act}(hs:∀t,a.tmps[t]? =some (c.snap t)∨a.tmps[t]? =none)(hsz:b.tmps.size≤a.tmps.size)(hall:∀t x,lkA σ.t t=some x→∃y,x=.sn t y)(h:SF c σ p w b):SF c σ p w a:=by
 refine⟨fun t x hx=>?_,h.m⟩;obtain⟨y,rfl⟩:=hall t x hx;obtain⟨v,h1,h2,h3⟩:=h.t t _ hx;have hlt:=(uC.1 h1).1;rcases hs t with h4|h4
 ·exact⟨v,by rw[h4,h2],h2,h3⟩
 ·rw[Array.getElem?_eq_none_iff] at h4;omega
end
section
variable{A:Nat→Prop}{F:Flr}{p p':qg}{w w' w0:World}{S0:Nat→Prop}
theorem Bs.anew(h:Bs A F w0 S0 p w):Bs A F w (pinned p) p w:=
 ⟨h.inj,h.bd,But.refl _ _,fun x b hx=>.inl ⟨x,hx⟩,fun b hb=>h.new b (uM h.but.size hb),h.pa,h.obj,h.flo.anew⟩
theorem Bs.comp(h:Bs A F w0 S0 p w)(h':Bs A F w (pinned p) p' w'):Bs A F w0 S0 p' w':=by
 refine⟨h'.inj,h'.bd,⟨h'.but.os.trans h.but.os,h'.but.tape.trans h.but.tape,h'.but.output.trans h.but.output,uM h.but.size h'.but.size,fun k hk hn=>?_⟩,fun x b hx=>?_,h.new,h'.pa,h'.obj,h.flo.trans h'.flo⟩
 ·have hkw:k<w.heap.size:=kS hk h.but.size;refine(h'.but.block k hkw fun⟨x,hx⟩=>?_).trans (h.but.block k hk hn);rcases h.pin x k hx with h1|h1
  ·exact hn h1
  ·omega
 ·rcases h'.pin x b hx with⟨y,hy⟩|h1
  ·exact h.pin y b hy
  ·exact .inr (uM h.but.size h1)
theorem Bs.stays(h':Bs A F w (pinned p) p' w'){b:Nat}(hb:b<w.heap.size)(hf:q58 p b):w'.heap[b]? =w.heap[b]?∧q58 p' b:=by
 refine⟨h'.but.block b hb fun⟨x,hx⟩=>hf x hx,fun x hx=>?_⟩;rcases h'.pin x b hx with⟨y,hy⟩|h1
 ·exact hf y hy
 ·omega
end
end
def zos(l D:Nat)(w w':World):Prop:=w'.heap[l]? =w.heap[l]?∧w'.heap[D]? =w.heap[D]?
variable{nn:Nat}
theorem zrd{gf:FuncId}{te:Ty}(hin:ztn gf te)(hen:∀(args:Array Value)(w:World),(callFunc gf args).run uA w=.ok (.enter gf args) w)
  {g:Operand}{ti tx:Tmp}{assign body:Code}{w:World}(hn:3≤nn)
  {gc len cap:Nat}(hg:a.eval g=.func (.func gf) #[] #[.pointer (some ⟨gc,0,none⟩)]){A:Option Addr}{els:Nat→List Value}{ev:Nat→Value}(hlen:len<1152921504606846976)(hels:∀i,i<len→j9 te (els i) (ev i)∧(els i).length=te.w)
  (I:Nat→World→Prop)(M:Nat→Act→World→Prop)
  (hIr:∀k W,I k W→W.cell? ⟨gc,0,none⟩=some (.slice A len cap)∧∀i,i<len→∃b off,A=some ⟨b,off,none⟩∧W.rangeAt b (off+i * te.w) (els i))
  (hIw:∀k W o,I k W→w.heap.size+1<W.heap.size→I k (W.putObj (w.heap.size+1) o))
  (hMw:∀k a W o,M k a W→w.heap.size+1<W.heap.size→M k a (W.putObj (w.heap.size+1) o))
  (h0:∀o,I 0 ((w.alloc (.deferred (some []))).alloc o))
  (hassign:∀k W,I k W→k<len→assign.wpIn (FR (some (w.heap.size+1))) (nn - 1 - 1) uA (Exit.then (fun a1 W1=>M k a1 W1∧zos (w.heap.size+1) w.heap.size W W1) (fun _ _ _=>False))
   {tmps:=(a.tmps.setIfInBounds ti (.int .i64 ((len:Int) - 1 - k))).setIfInBounds tx (ev (len - 1 - k)),defers:=[]} W)
  (hbody:∀k a1 W1,M k a1 W1→k<len→body.wpIn (FR (some (w.heap.size+1))) (nn - 1 - 1) uA (fun e a2 W2=>e=.normal∧I (k+1) W2∧zos (w.heap.size+1) w.heap.size W1 W2) a1 W1)
  (hdone:∀W,I len W→W.heap[w.heap.size]? =some (.deferred (some []))→Q .normal {a with defers:={target:=.collected w.heap.size,args:= #[]}::a.defers} W):
  (Code.rangeFunc g #[ti,tx] assign body).wpIn (FR none) nn uA Q a w:=by
 refine wpIn_rangeFunc ?_;intro fn hfn;obtain⟨rec,hrec⟩:∃rec:LoopState→Option Code→Loop,rec=fun st pe=>{state:=st,pending:=pe,fn,tmps:=a.tmps,params:= #[ti,tx],assign,body,defers:=w.heap.size}:=⟨_,rfl⟩;have hD:∀o,(((w.alloc (.deferred (some []))).alloc o).heap[w.heap.size]? =some (.deferred (some []))):=fun o=>by
  rw[hget,if_neg (by simp),hget,if_pos rfl]
 have hL:∀o,(((w.alloc (.deferred (some []))).alloc o).heap[w.heap.size+1]? =some o):=fun o=>by
  rw[hget,if_pos (by simp)]
 refine⟨w.heap.size+1,[{target:=.collected w.heap.size,args:= #[]}],(w.alloc (.deferred (some []))).alloc (.loop (rec .ready none)),{target:=.fn (.func gf) #[.pointer (some ⟨gc,0,none⟩)],args:= #[.func (.yield (w.heap.size+1)) #[] #[]]},(w.alloc (.deferred (some []))).alloc (.loop (rec .ready none)),gf,
  #[.func (.yield (w.heap.size+1)) #[] #[]]++ #[.pointer (some ⟨gc,0,none⟩)],(w.alloc (.deferred (some []))).alloc (.loop (rec .ready none)),?_,?_,?_,?_,fun _=>by omega,?_⟩
 ·rw[hrec];exact run_enterLoop_outer _ _ _ _ _
 ·simp only[resolve,hg];simp[go_sem]
 ·intro f' hf';trivial
 ·simp[invoke,go_sem,hen]
 ·refine(hin (FR none) (nn - 1) (w.heap.size+1) gc len cap A els ev
   (fun k W=>I k W∧W.heap[w.heap.size+1]? =some (.loop (rec .ready none))∧W.heap[w.heap.size]? =some (.deferred (some [])))
   (fun _ _=>False) _ trivial rfl (by omega) hlen hels (fun k W hj=>hIr k W hj.1) ?_ ⟨h0 _,hL _,hD _⟩).mono ?_
  ·-- one round
   rintro k W⟨hi,hl,hk⟩hlt;have hsz:w.heap.size+1<W.heap.size:=(uC.1 hl).1;have hy:=run_yield (P:=uA) (args:= #[.int .i64 ((len:Int) - 1 - k),ev (len - 1 - k)]) hl (by rw[hrec];rfl);rw[hrec] at hy;have hz:((#[ti,tx]:Array Tmp).zip #[Value.int .i64 ((len:Int) - 1 - k),ev (len - 1 - k)]).foldl (fun tmps(x:Tmp×Value)=>tmps.setIfInBounds x.1 x.2) a.tmps=(a.tmps.setIfInBounds ti (.int .i64 ((len:Int) - 1 - k))).setIfInBounds tx (ev (len - 1 - k)):=by
    simp
   have ha:=hassign k W hi hlt;rw[←hz] at ha;refine⟨fn,_,assign,body,hy,roundIn_of_wpIn hfn (wpIn_mono ha ?_)⟩;rintro e a1 W1 h1;cases e with
   |normal=>
    obtain⟨hm,hk1,hk2⟩:=h1;have hl1:W1.heap[w.heap.size+1]? =some (.loop (rec .ready none)):=hk1.trans hl;have hsz1:w.heap.size+1<W1.heap.size:=(uC.1 hl1).1;have hlb:(W1.putObj (w.heap.size+1) (.loop {rec .ready none with state:=.busy})).heap[w.heap.size+1]? =some (.loop {rec .ready none with state:=.busy}):=kI hsz1;have hkb:(W1.putObj (w.heap.size+1) (.loop {rec .ready none with state:=.busy})).heap[w.heap.size]? =some (.deferred (some [])):=(uB (by omega)).trans (hk2.trans hk);refine⟨_,run_beginRound hl1 (by rw[hrec]),?_⟩;refine wpIn_mono (hbody k a1 _ (hMw _ _ _ _ hm hsz1) hlt) ?_;rintro e a3 W3⟨rfl,hi3,hk3,hk4⟩;have hl3:=hk3.trans hlb;have hsz3:w.heap.size+1<W3.heap.size:=(uC.1 hl3).1;have hr:=run_endRound (P:=uA) none hl3;refine⟨_,_,hr,.inl ⟨rfl,hIw _ _ _ hi3 hsz3,?_,(uB (by omega)).trans (hk4.trans hkb)⟩⟩;have:=kI (w:=W3) (o:=.loop {rec .ready none with state:=.ready,pending:=none}) hsz3;rw[hrec] at this⊢;exact this
   |_=>exact h1.elim
  ·-- behind the iterator
   rintro e W2⟨⟨v,rfl⟩,⟨hi,hl,hk⟩|⟨k,hf⟩⟩
   ·have hsz2:w.heap.size+1<W2.heap.size:=(uC.1 hl).1;exact⟨none,_,by have:=run_endLoop (P:=uA) hl (by rw[hrec];simp);rw[hrec] at this;exact this,hdone _ (hIw _ _ _ hi hsz2) ((uB (by omega)).trans hk)⟩
   ·exact hf.elim
variable{f:FuncId}{ann:Ann}
section
def bwG(g:FuncId):List (FuncId×FuncId×TypeId×TypeId)→Option (FuncId×FuncId×TypeId×TypeId)
 |[]=>none
 |e::l=>if uN e.2.1 g then some e else bwG g l
theorem zgv{g:FuncId}{e:FuncId×FuncId×TypeId×TypeId}:∀{l:List (FuncId×FuncId×TypeId×TypeId)},bwG g l=some e→e∈l∧e.2.1=g
 |[],h=>by cases h
 | x :: l, h => by
  unfold bwG at h;split at h
  ·rename_i hx;injection h with h;subst h;exact⟨uD,gnN hx⟩
  ·obtain⟨h1,h2⟩:=zgv h;exact⟨uG _ h1,h2⟩
def za4(σ:St)(g:Operand):Option (X×FuncId×TypeId):=match opd σ [] g with
 |some (.fn f [.fr _ (.v x (.row E) _ _)])=>some (x,f,E)
 |_=>none
def zqo(σh:St)(ti tx i:Nat)(x:X)(te:Ty):St:=⟨jw (jw σh.t ti (.v (.tok i) (.int .i64) [] [])) tx (.v (.get x (.tok i)) te [] []),σh.m⟩
def z8r(id:Nat)(ms:List Item)(kill:List Nat)(σk:St)(i:Nat):ResD→St→Tree:=fun r σb=>match r with
 |.normal=>(match conv [] ms (σb.drop kill) with
  |some (σc,_,vb)=>if covers σc σk then .back id (vb++[qr2 (.tok i) (.lit (.i 1))]) else .bad (3000000+id)
  |none=>.bad (4000000+id))
 |_=>.bad (10000000+id)
def z9r(P:Program)(tbl:Tbl)(ann:Ann)(lo z:Nat)(id:Nat)(ms:List Item)(kill:List Nat)(g:Operand)(ti tx:Nat)(assign body:Code)(n:Nat)(σ:St)(k:Nat→St→Tree):Tree:=match conv [] ms σ with
 | some (σ1, _, vb) => (match za4 (jv [] ms kill n ⟨snT σ1.t, σ1.m⟩) g with
  | some (x, f, E) => (match bwG f ql0, qj E with
   | some e, some te => if uN e.2.2.2 E && (zp 8 te && (X.upto n x && (qoh σ1.t && (qoh (unT (jv [] ms kill n ⟨snT σ1.t, σ1.m⟩).t) && (kF ti z && kF tx z))))) then
     .loop id n (vb++[qr2 (q6t x) (.lit (.i 1))])
      (.br (leX (.lit (.i 0)) (.tok (n+vb.length)))
       (toT P tbl ann lo z assign [id] (n+(vb.length+1)) (zqo (q0z [] ms n (jv [] ms kill n ⟨snT σ1.t,σ1.m⟩)) ti tx (n+vb.length) x te) fun n1 r1 σa=>match r1 with
        |.normal=>toT P tbl ann lo z body [id] n1 σa fun n2 r2 σb=>z8r id ms kill (jv [] ms kill n ⟨snT σ1.t,σ1.m⟩) (n+vb.length) r2 σb
        |_=>.bad (11000000+id))
       (k (n+(vb.length+1)) ⟨unT (q0z [] ms n (jv [] ms kill n ⟨snT σ1.t,σ1.m⟩)).t,(q0z [] ms n (jv [] ms kill n ⟨snT σ1.t,σ1.m⟩)).m⟩))
    else .bad (12000000+id)
   |_,_=>.bad (13000000+id))
  |none=>.bad (14000000+id))
 |none=>.need (z6h σ [] ms) (.bad (5000000+id))
section
variable{c:Cx}{p:qg}{w w' w0:World}{S0:Nat→Prop}{a:Act}{σ σ':St}{d:List Deferred}{z:Nat}{tbl:Tbl}{A:Nat→Prop}{F:Flr}
theorem qnv{l:Nat}(hA:¬A l)(pa:∀x b,p x=some b→A b)(o:Obj):Stab A no no p w p (w.putObj l o):=by
 refine⟨by simp,fun b hb ha hf=>⟨uB (fun e=>hA (e▸ha)),hf⟩,fun x b _ hx=>hx,fun x b _ hx=>uB (fun e=>hA (e▸pa x b hx))⟩
theorem zci{l:Nat}(hfz:∀te,F.mx te=0)(h:Bs A F w0 S0 p w)(hA:¬A l)(hS:S0 l)(o:Obj):Bs A F w0 S0 p (w.putObj l o):=by
 refine⟨h.inj,fun x b hx=>by simpa using h.bd x b hx,⟨h.but.os,h.but.tape,h.but.output,by simpa using h.but.size,fun k hk hn=>(uB (fun e=>hn (by rw[e];exact hS))).trans (h.but.block k hk hn)⟩,h.pin,h.new,h.pa,fun x b hx=>(h.obj x b hx).same (uB (fun e=>hA (e▸h.pa x b hx))),Flo.of0 hfz h.flo⟩
theorem SF.same(hs:Stab c.A no no p w p w')(h:SF c σ p w a):SF c σ p w' a:=by
 refine⟨fun t x hx=>?_,fun k e he=>(h.m k e he).kept hs (fun _ _=>⟨rfl,rfl⟩) ⟨rfl,rfl⟩⟩;obtain⟨v,h1,h2⟩:=h.t t x hx;exact⟨v,h1,AV.kept hs x v (fun _ _=>⟨rfl,rfl⟩) (fun _ _=>rfl) h2⟩
theorem z0j(hf:SF c σ p w a){g:Operand}(h:za4 σ g=some (x,f,E)):
  ∃gc T A1 cap te,a.eval g=.func (.func f) #[] #[.pointer (some ⟨gc,0,none⟩)]∧c.A gc∧q58 p gc∧w.heap[gc]? =some (.cells #[.slice A1 (x.ev c.v).rs.length cap] T (0,0))∧qj E=some te∧x.ev c.v=.r (x.ev c.v).rs∧(x.ev c.v).rs.length≤LM te∧∃F:Nat→Prop,RdE w F (x.ev c.v).rs te A1 0:=by
 unfold za4 at h;split at h
 ·rename_i f' T x' E' own dep hg;simp only[gnS] at h;obtain⟨rfl,rfl,rfl⟩:=h;obtain⟨vs,hev,v1,r,rfl,⟨gc,u,hA,hfr,rfl,hh,cs,hp,hc⟩,hr⟩:=ql hf rfl hg;have hr:r=[]:=hr;subst hr;obtain⟨v2,rfl⟩:∃v2,cs=[v2]:=by
   have:=hc.len.1
   match cs,this with
   |[v2],_=>exact⟨v2,rfl⟩
  have hp:[v2]=[u]:=hp;injection hp with hp;subst hp;obtain⟨te,A1,cap,hte,e1,e2,h1,h2,h3,h4⟩:=hc.row;subst e2;exact⟨gc,T,A1,cap,te,hev,hA,hfr,hh,hte,e1,h2,_,h4⟩
 ·cases h
theorem zg4{te:Ty}(hb:zp 8 te=true){F:Nat→Prop}{l:List D}{A1:Option Addr}(h:RdE w F l te A1 0):∃(els:Nat→List Value)(ev:Nat→Value),∀i(hi:i<l.length),(j9 te (els i) (ev i)∧(els i).length=te.w)∧(∃b off,A1=some ⟨b,off,none⟩∧w.rangeAt b (off+i * te.w) (els i))∧∀(w':World)(F':Nat→Prop),Rd w' F' l[i] te (els i):=by
 refine⟨fun i=>(qjd 8 te (l.getD i .u)).getD [],fun i=>(z6m te ((qjd 8 te (l.getD i .u)).getD [])).getD undef,fun i hi=>?_⟩;obtain⟨b,o,cs,e,-,hr,hd⟩:=q0s.1 h i hi;have henc:=qs5 8 hb hd;have hget:l.getD i .u=l[i]:=by simp[gnG,gnK hi]
 simp only[hget,henc,Option.getD_some];refine⟨⟨?_,(Rd.len _ hd).1⟩,⟨b,o,e,by simpa using hr⟩,fun w' F'=>zc7 8 henc⟩;cases hs:qg9 te with
 |true=>
  obtain⟨S,rfl⟩:∃S,te=.st S:=by cases te<;>first|exact⟨_,rfl⟩|(cases hs;done)
  rfl
 |false=>
  obtain⟨v,rfl⟩:=hd.single hs;have:j9 te [v] v:=qke hs;rw[qoi.2 this];exact this
set_option maxHeartbeats 1000000 in
theorem zei(hnn:3≤nn)(htb:q0i tbl)(hnp:q76 tbl=true)(hfz:∀te,c.F.mx te=0){ms:List Item}{g:Operand}{ti tx:Nat}{assign body:Code}{n:Nat}{k:Nat→St→Tree}{l:List D}
  (h:(z9r uA tbl ann c.lo z id ms kill g ti tx assign body n σ k).go (qb tbl) R l B)(hl:l.length=n)(hb:Bs c.A c.F w0 S0 p w)(hf:SF (c.at (qb tbl) l) σ p w a)(hz:a.tmps.size=z)
  (hen:∀e∈ql0,∀(args:Array Value)(w:World),(callFunc e.2.1 args).run uA w=.ok (.enter e.2.1 args) w)
  (hk:∀n' σ' l' B' p' w'(c2:Cx),l'.length=n'→l'.take n=l→(∀j,j≠id→B' j=B j)→(k n' σ').go (qb tbl) R l' B'→Bs c.A c.F w0 S0 p' w'→c2.lo=c.lo→c2.F=c.F→c2.At=c.At→(∀b,c2.A b→c.A b)→(∀b,w'.heap.size≤b→c2.A b∧c2.F.fr b)→(∀x b,p' x=some b→c2.A b)→¬c2.A w.heap.size→
   SF (c2.at (qb tbl) l') σ' p' w' {a with defers:={target:=.collected w.heap.size,args:= #[]}::a.defers}→w'.heap[w.heap.size]? =some (.deferred (some []))→
   Q .normal {a with defers:={target:=.collected w.heap.size,args:= #[]}::a.defers} w'):
  (Code.rangeFunc g #[ti,tx] assign body).wpIn (FR none) nn uA Q a w:=by
 unfold z9r at h;split at h
 ·rename_i σ1 va vb hcv;split at h
  ·rename_i x f E hbf;split at h
   ·rename_i e te hbw hte;split at h
    ·rename_i hok;simp only[gnB,kT] at hok;obtain⟨hE,hflat,hux,hp1,hp2,hti,htx⟩:=hok;obtain⟨hmem,hef⟩:=zgv hbw;have hE':=gnN hE;subst hef;obtain⟨IT,μ,hI0,hgo⟩:=h
     -- the change of names
     unfold conv at hcv
     split at hcv
     ·rename_i hrb;split at hcv
      ·rename_i va' vb' hva hvb;simp only[gnS] at hcv;obtain⟨rfl,rfl,rfl⟩:=hcv;obtain⟨p1,hb1,hf1⟩:=qe2 (c:=c.at (qb tbl) l) hrb hb hf;have hlt:l.take n=l:=by rw[←hl];exact uE
       obtain⟨A',hA'⟩:∃A':Nat→Prop,A'=fun b=>c.A b∧b≠w.heap.size∧b≠w.heap.size+1:=⟨_,rfl⟩;have hAn:∀b,w.heap.size+2≤b→A' b:=fun b hb'=>by
        rw[hA'];exact⟨(hb.new b (by have:=hb.but.size;omega)).1,by omega,by omega⟩
       have hAc:∀b,A' b→c.A b:=fun b h=>by rw[hA'] at h;exact h.1
       have hAD:¬A' w.heap.size:=fun h=>by rw[hA'] at h;exact h.2.1 rfl
       have hAL:¬A' (w.heap.size+1):=fun h=>by rw[hA'] at h;exact h.2.2 rfl
       have hAw:∀b,b<w.heap.size→c.A b→A' b:=fun b hlt ha=>by rw[hA'];exact⟨ha,by omega,by omega⟩
       clear hA';obtain⟨c',hcv',hcF',hcA',hclo',hcT',hcs'⟩:∃c':Cx,c'.v=c.v∧c'.F=c.F∧c'.A=A'∧c'.lo=c.lo∧c'.At=c.At∧c'.snap=fun t=>a.tmps.getD t undef:=⟨⟨c.v,A',c.F,c.lo,c.At,c.new,fun t=>a.tmps.getD t undef⟩,rfl,rfl,rfl,rfl,rfl,rfl⟩;have hsn:∀t v,a.tmps[t]? =some v→c'.snap t=v:=fun t v hv=>by
        rw[hcs']
        show a.tmps.getD t undef=v
        rw[Array.getD_eq_getD_getElem?,hv];rfl
       have hs1:SF (c'.at (qb tbl) l) ⟨snT (σ.ren (q3z σ [] ms)).t,(σ.ren (q3z σ [] ms)).m⟩ p1 w a:=
        SF.snap (c:=c.at (qb tbl) l) (c':=c'.at (qb tbl) l) (fun b hlt ha=>by show c'.A b;rw[hcA'];exact hAw b hlt ha) rfl hcT'.symm hcF'.symm hsn hp1 hf1
       have hsk:=qfx (ts:=[]) (ms:=ms) (kill:=kill) (n:=n) hs1;obtain⟨gc,T,A1,cap,te',hev,hgA,hgF,hgh,hte',hxr,hxl,F0,hRd⟩:=z0j hsk hbf;obtain rfl:=gnI (hte'.symm.trans hte);obtain⟨els,ev,hels⟩:=zg4 hflat hRd;have hgA:A' gc:=by have:c'.A gc:=hgA;rwa [hcA'] at this
       obtain⟨xs,hxs⟩:∃xs,(x.ev (evl (qb tbl) l)).rs=xs:=⟨_,rfl⟩;have hxs':(x.ev (c'.at (qb tbl) l).v).rs=xs:=hxs;rw[hxs'] at hgh hxl hRd;simp only[hxs'] at hels;obtain⟨w1,hw1⟩:∃w1:World,w1=(w.alloc (.deferred (some []))).alloc (.deferred none):=⟨_,rfl⟩;obtain⟨S1,hS1⟩:∃S1:Nat→Prop,S1=fun b=>pinned p1 b∨b=w.heap.size∨b=w.heap.size+1:=⟨_,rfl⟩;have hw1s:w1.heap.size=w.heap.size+2:=by rw[hw1];simp
       have hBs0:∀o,Bs A' c.F w1 S1 p1 ((w.alloc (.deferred (some []))).alloc o):=fun o=>by
        refine⟨hb1.inj,fun y b hy=>by have:=hb1.bd y b hy;simp;omega,⟨by rw[hw1];rfl,by rw[hw1];rfl,by rw[hw1];rfl,by rw[hw1s];simp,fun k hk hn=>?_⟩,fun y b hy=>.inl (by rw[hS1];exact .inl ⟨y,hy⟩),fun b hb'=>⟨hAn b (by omega),(hb.new b (by have:=hb.but.size;omega)).2⟩,fun y b hy=>hAw b (hb1.bd y b hy) (hb1.pa y b hy),fun y b hy=>?_,Flo.of0 hfz hb.flo⟩
        ·rw[hS1] at hn;have h1:k≠w.heap.size:=fun e=>hn (.inr (.inl e));have h2:k≠w.heap.size+1:=fun e=>hn (.inr (.inr e));have out:∀o,((w.alloc (.deferred (some []))).alloc o).heap[k]? =w.heap[k]? :=fun o=>by rw[hget,if_neg (by simpa using h2),hget,if_neg h1]
         rw[out,hw1,out]
        ·rcases hb1.obj y b hy with⟨cs',T',h2⟩|⟨es,clock,h2⟩
         ·exact .inl ⟨cs',T',q0a (q0a h2)⟩
         ·exact .inr ⟨es,clock,q0a (q0a h2)⟩
       have hSL:S1 (w.heap.size+1):=by rw[hS1];exact .inr (.inr rfl)
       have hlenv:∀{db:List D}{i:D},db.length=vb'.length→(db++[i]).length=(vb'++[qr2 (q6t x) (.lit (.i 1))]).length:=fun{db i}h=>by simp[h]
       have htok:∀{db:List D}{i:D},db.length=vb'.length→(l.take n++(db++[i])).getD (n+vb'.length) .u=i:=fun{db i}h=>by
        rw[hlt,gnG,uL (by omega),uL (by omega)];simp[hl,h]
       have hidx:∀{db:List D}{i:D}{l1:List D},db.length=vb'.length→l1.take (n+(vb'.length+1))=l.take n++(db++[i])→(X.tok (n+vb'.length)).ev (evl (qb tbl) l1)=i:=fun{db i l1}h h1=>by
        show l1.getD (n+vb'.length) .u=i
        rw[←htok (i:=i) h,←h1];simp only[gnG];rw[uP (by omega)]
       have hread:∀{db:List D}{i:D}{p:qg}{W:World},SF (c'.at (qb tbl) (l.take n++(db++[i]))) (q0z [] ms n (jv [] ms kill n ⟨snT (σ.ren (q3z σ [] ms)).t,(σ.ren (q3z σ [] ms)).m⟩)) p W a→W.heap[gc]? =some (.cells #[.slice A1 xs.length cap] T (0,0))→
         W.cell? ⟨gc,0,none⟩=some (.slice A1 xs.length cap)∧∀i,i<xs.length→∃b off,A1=some ⟨b,off,none⟩∧W.rangeAt b (off+i * te'.w) (els i):=fun{db i p W}hf hg=>by
        obtain⟨gc2,T2,A2,cap2,te2,hev2,-,-,hgh2,hte2,-,-,F2,hRd2⟩:=z0j (x:=x) (f:=e.2.1) (E:=E) hf hbf;rw[hev] at hev2;obtain rfl:gc=gc2:=by
         injection hev2 with _ _ h3;injection h3 with h3;injection h3 with h3;injection h3 with h3;injection h3 with h3;injection h3
        rw[hg] at hgh2;have hx2:(x.ev (c'.at (qb tbl) (l.take n++(db++[i]))).v).rs=xs:=by
         rw[←hxs]
         congr 1
         refine X.ev_upto (n:=n) (e:=evl (qb tbl) (l.take n++(db++[i]))) (e':=evl (qb tbl) l) (fun k hk=>?_) rfl x hux
         show(l.take n++(db++[i])).getD k .u=l.getD k .u
         exact getD_take hk _ (by omega)
        rw[hx2] at hgh2 hRd2;injection hgh2 with hgh2;injection hgh2 with hgh2;injection hgh2 with hgh2;injection hgh2 with hgh2;injection hgh2 with e1 e2 e3;subst e1 e3;obtain rfl:=gnI (hte2.symm.trans hte);refine⟨by rw[cell_of_row W gc 0 _ T (0,0) hg];rfl,fun j hj=>?_⟩;obtain⟨b,o,cs,e1,-,hr,hd⟩:=q0s.1 hRd2 j hj;have q1:=qs5 8 hflat hd;have q2:=qs5 8 hflat ((hels j hj).2.2 W F2);rw[q1] at q2;injection q2 with q2;subst q2;exact⟨b,o,e1,by simpa using hr⟩
       have hhead:∀{db:List D}{i:D}{l2:List D}{p:qg}{W:World},db.length=vb'.length→n≤l2.length→l2.take n=l→SF (c'.at (qb tbl) l2) (jv [] ms kill n ⟨snT (σ.ren (q3z σ [] ms)).t,(σ.ren (q3z σ [] ms)).m⟩) p W a→ItM c'.A p W ms db→SF (c'.at (qb tbl) (l.take n++(db++[i]))) (q0z [] ms n (jv [] ms kill n ⟨snT (σ.ren (q3z σ [] ms)).t,(σ.ren (q3z σ [] ms)).m⟩)) p W a:=fun{db i l2 p W}h1 h2 h3 h4 h5=>
        qju (c:=c'.at (qb tbl) l2) (c':=c'.at (qb tbl) (l.take n++(db++[i]))) (da:=[]) (db:=db) rfl rfl ⟨rfl,rfl,rfl⟩ (fun k hk=>by
         show l2.getD k .u=(l.take n++(db++[i])).getD k .u
         rw[getD_take hk _ (by omega),←h3];simp only[gnG];rw[uP hk]) (fun j hj=>by
         have hj:j<db.length:=by simpa using hj
         show(l.take n++(db++[i])).getD (n+j) .u=_
         simp only[gnG];rw[uL (by simp;omega)];have e1:n+j - (l.take n).length=j:=by simp;omega
         rw[e1,uF hj];rfl) h4 rfl h5
       have hgcL:gc≠w.heap.size+1:=fun e=>hAL (by rw[←e];exact hgA)
       refine zrd (zua e hmem te' (by rw[hE'];exact hte)) (hen e hmem) hnn (gc:=gc) (len:=xs.length) (cap:=cap) (A:=A1) (els:=els) (ev:=ev) hev (by have hxl:=uM hxl (z0v _);unfold LIM at hxl;omega) (fun i hi=>(hels i hi).1)
        (fun k W=>∃(p:qg)(db:List D),db.length=vb'.length∧IT (db++[.i ((xs.length:Int) - 1 - k)])∧Bs A' c.F w1 S1 p W∧SF (c'.at (qb tbl) (l.take n++(db++[.i ((xs.length:Int) - 1 - k)]))) (q0z [] ms n (jv [] ms kill n ⟨snT (σ.ren (q3z σ [] ms)).t,(σ.ren (q3z σ [] ms)).m⟩)) p W a∧W.heap[gc]? =some (.cells #[.slice A1 xs.length cap] T (0,0))∧q58 p gc)
        (fun k a1 W=>∃(p:qg)(db:List D)(n1:Nat)(σa:St)(l1:List D)(B1:Nat→List D→Prop),db.length=vb'.length∧l1.length=n1∧l1.take (n+(vb'.length+1))=l.take n++(db++[.i ((xs.length:Int) - 1 - k)])∧B1 id=(fun st'=>IT st'∧μ st'<μ (db++[.i ((xs.length:Int) - 1 - k)]))∧
         (toT uA tbl ann c.lo z body [id] n1 σa (fun n2 r2 σb=>z8r id ms kill (jv [] ms kill n ⟨snT (σ.ren (q3z σ [] ms)).t,(σ.ren (q3z σ [] ms)).m⟩) (n+vb'.length) r2 σb)).go (qb tbl) R l1 B1∧Bs A' c.F w1 S1 p W∧SF (c'.at (qb tbl) l1) σa p W a1∧a1.defers=[]∧a1.tmps.size=z∧W.heap[gc]? =some (.cells #[.slice A1 xs.length cap] T (0,0))∧q58 p gc)
        (fun k W⟨p,db,h1,h2,h3,h4,h5,h6⟩=>hread h4 h5) ?_ ?_ ?_ ?_ ?_ ?_
       ·rintro k W o⟨p,db,h1,h2,h3,h4,h5,h6⟩ -;exact⟨p,db,h1,h2,zci hfz h3 hAL hSL o,SF.same (by show Stab c'.A no no p W p _;rw[hcA'];exact qnv hAL h3.pa o) h4,(uB hgcL).trans h5,h6⟩
       ·rintro k a1 W o⟨p,db,n1,σa,l1,B1,h1,h2,h3,h4,h5,h6,h7,h8,h9,h10,h11⟩ -;exact⟨p,db,n1,σa,l1,B1,h1,h2,h3,h4,h5,zci hfz h6 hAL hSL o,SF.same (by show Stab c'.A no no p W p _;rw[hcA'];exact qnv hAL h6.pa o) h7,h8,h9,(uB hgcL).trans h10,h11⟩
       ·intro o;have hit:=qv8 hs1 hvb;have hst:Stab c'.A no no p1 w p1 ((w.alloc (.deferred (some []))).alloc o):=by
         refine⟨by simp;omega,fun b hb ha hf=>⟨by rw[hget,if_neg (by simp;omega),hget,if_neg (by omega)],hf⟩,fun y b _ hy=>hy,fun y b _ hy=>?_⟩;have:=hb1.bd y b hy;rw[hget,if_neg (by simp;omega),hget,if_neg (by omega)]
        refine⟨p1,_,q6n _,?_,hBs0 o,SF.same hst (hhead (q6n _) (by omega) hlt hsk hit),q0a (q0a hgh),hgF⟩;rw[q8l] at hI0;have e1:X.evs (evl (qb tbl) l) [qr2 (q6t x) (.lit (.i 1))]=[.i ((xs.length:Int) - 1 - (0:Nat))]:=by
         show[(qr2 (q6t x) (.lit (.i 1))).ev (evl (qb tbl) l)]=_
         rw[qrw]
         show[D.i (((q6t x).ev (evl (qb tbl) l)).int - 1)]=_
         rw[q3x]
         show[D.i (((x.ev (evl (qb tbl) l)).rs.length:Int) - 1)]=_
         rw[hxs];simp
        rw[e1] at hI0;exact hI0
       ·rintro k W⟨p,db,h1,h2,h3,h4,h5,h6⟩hk1;have hcond:((leX (.lit (.i 0)) (.tok (n+vb'.length))).ev (evl (qb tbl) (l.take n++(db++[D.i ((xs.length:Int) - 1 - k)])))).tt=true:=by
         rw[qg7,hidx (db:=db) (i:=.i ((xs.length:Int) - 1 - k)) h1 (by rw[kK (by simp[h1];omega)])]
         show decide ((0:Int)≤(xs.length:Int) - 1 - k)=true
         simp;omega
        have hgk:=(hgo _ (hlenv h1) h2).1 hcond;have hli:(l.take n++(db++[D.i ((xs.length:Int) - 1 - k)])).length=n+(vb'.length+1):=by simp[h1];omega
        have htk:(X.tok (n+vb'.length)).ev (c'.at (qb tbl) (l.take n++(db++[D.i ((xs.length:Int) - 1 - k)]))).v=.i ((xs.length:Int) - 1 - k):=htok h1;have hx2:(x.ev (c'.at (qb tbl) (l.take n++(db++[D.i ((xs.length:Int) - 1 - k)]))).v).rs=xs:=by
         refine Eq.trans (congrArg D.rs ?_) hxs;refine X.ev_upto (n:=n) (e:=evl (qb tbl) (l.take n++(db++[D.i ((xs.length:Int) - 1 - k)]))) (e':=evl (qb tbl) l) (fun k hk=>?_) rfl x hux;exact getD_take hk _ (by omega)
        have hr0:SF (c'.at (qb tbl) (l.take n++(db++[D.i ((xs.length:Int) - 1 - k)]))) (q0z [] ms n (jv [] ms kill n ⟨snT (σ.ren (q3z σ [] ms)).t,(σ.ren (q3z σ [] ms)).m⟩)) p W {tmps:=a.tmps,defers:=[]}:=⟨h4.t,h4.m⟩;have hr1:=hr0.put (t:=ti) (x:=.v (.tok (n+vb'.length)) (.int .i64) [] []) (v:=.int .i64 ((xs.length:Int) - 1 - k)) (by show ti<a.tmps.size;omega) (q3c htk (by have hxl:=uM hxl (z0v _);unfold LIM at hxl;simp[yz];omega));have hel:=hels (xs.length - 1 - k) (by omega);have hr2:=hr1.put (t:=tx) (x:=.v (.get x (.tok (n+vb'.length))) te' [] []) (v:=ev (xs.length - 1 - k)) (by show tx<(a.tmps.setIfInBounds ti _).size;simp;omega) ⟨els (xs.length - 1 - k),hel.1.1,Con.of_rd (by
         have e1:(X.get x (.tok (n+vb'.length))).ev (c'.at (qb tbl) (l.take n++(db++[D.i ((xs.length:Int) - 1 - k)]))).v=xs[xs.length - 1 - k]'(by omega):=by
          show(x.ev (c'.at (qb tbl) (l.take n++(db++[D.i ((xs.length:Int) - 1 - k)]))).v).get ((X.tok (n+vb'.length)).ev (c'.at (qb tbl) (l.take n++(db++[D.i ((xs.length:Int) - 1 - k)]))).v).int=_
          rw[htk]
          show(x.ev (c'.at (qb tbl) (l.take n++(db++[D.i ((xs.length:Int) - 1 - k)]))).v).rs.getD ((xs.length:Int) - 1 - k).toNat .u=_
          rw[hx2];have e2:((xs.length:Int) - 1 - k).toNat=xs.length - 1 - k:=by omega
          rw[e2];simp[gnG,gnK (show xs.length - 1 - k<xs.length by omega)]
         rw[e1];exact hel.2.2 W _)⟩
        have h3':Bs c'.A c'.F W (pinned p) p W:=by rw[hcA',hcF'];exact h3.anew
        rw[←hclo'] at hgk;refine qdg (some (w.heap.size+1)) (nn - 1 - 1) (c:=c') (w0:=W) (S0:=pinned p) (d:=[]) (z:=z) htb (fun te=>by rw[hcF',hfz];exact uX _) assign hgk hli h3' hr2 rfl (by simp;exact hz) (q3l hnp) (qbz hnp) fun n1 r1 σa l1 B1 p2 W2 a2 q1 q2 q3 q4 q5 q6 q7 q8=>?_;cases r1 with
        |normal=>
         have q5':Bs A' c.F W (pinned p) p2 W2:=by rw[←hcA',←hcF'];exact q5
         have hfl:∀b,¬A' b→q58 p b:=fun b hb x hx=>hb (h3.pa x b hx);have hWs:w.heap.size+2≤W.heap.size:=by have:=h3.but.size;omega
         have hgs:=q5'.stays (b:=gc) (uC.1 h5).1 h6;rw[hclo'] at q4;exact⟨⟨p2,db,n1,σa,l1,B1,h1,q1,q2,(q3 id uD).trans (by unfold jg;rw[if_pos rfl]),q4,h3.comp q5',q6,q7,q8,hgs.1.trans h5,hgs.2⟩,(q5'.stays (by omega) (hfl _ hAL)).1,(q5'.stays (by omega) (hfl _ hAD)).1⟩
        |ret=>exact q4.elim
        |exit i=>exact q4.elim
       ·rintro k a1 W⟨p,db,n1,σa,l1,B1,h1,h2,h3,h4,h5,h6,h7,h8,h9,h10,h11⟩hk1;rw[←hclo'] at h5;have h6':Bs c'.A c'.F W (pinned p) p W:=by rw[hcA',hcF'];exact h6.anew
        refine qdg (some (w.heap.size+1)) (nn - 1 - 1) (c:=c') (w0:=W) (S0:=pinned p) (d:=[]) (z:=z) htb (fun te=>by rw[hcF',hfz];exact uX _) body h5 h2 h6' h7 h8 h9 (q3l hnp) (qbz hnp) fun n2 r2 σb l2 B2 p2 W2 a2 q1 q2 q3 q4 q5 q6 q7 q8=>?_;cases r2 with
        | normal =>
         have q5':Bs A' c.F W (pinned p) p2 W2:=by rw[←hcA',←hcF'];exact q5
         unfold z8r at q4;simp only at q4;have hf2:=SF.un (c:=c'.at (qb tbl) l2) (q:=qap kill σb) q5.inj q5.pa q6;have hb2:=q5.un (qap kill σb);change SF _ (σb.drop kill) _ _ _ at hf2;split at q4
         ·rename_i σc va2 vb2 hcv2;split at q4
          ·rename_i hcov;unfold conv at hcv2
           split at hcv2
           ·rename_i hrb2;split at hcv2
            ·rename_i wa wb hwa hwb;simp only[gnS] at hcv2;obtain⟨rfl,rfl,rfl⟩:=hcv2;obtain⟨p3,hb3,hf3⟩:=qe2 (c:=c'.at (qb tbl) l2) hrb2 hb2 hf2;have hb3':Bs A' c.F W (pinned p) p3 W2:=by rw[←hcA',←hcF'];exact hb3
             have hit:=qv8 hf3 hwb;have hlen1:n+(vb'.length+1)≤n1:=by
              have:=congrArg uR h3;simp[h1,h2] at this;omega
             have hl2:l2.take (n+(vb'.length+1))=l.take n++(db++[D.i ((xs.length:Int) - 1 - k)]):=by
              rw[←h3,←q2,uK,uQ hlen1]
             have hl2n:l2.take n=l:=by
              have h1:(l2.take (n+(vb'.length+1))).take n=(l.take n++(db++[D.i ((xs.length:Int) - 1 - k)])).take n:=by rw[hl2]
              rw[uK,uQ (by omega)] at h1;rw[h1,uH (by simp;omega),uK,kL,hlt]
             have hnl:n≤l2.length:=by
              have:=congrArg uR hl2n;simp at this;omega
             have hbk:B2 id (X.evs (evl (qb tbl) l2) (wb++[qr2 (.tok (n+vb'.length)) (.lit (.i 1))])):=q4;rw[q3 id uD,h4,q8l] at hbk;have e1:X.evs (evl (qb tbl) l2) [qr2 (.tok (n+vb'.length)) (.lit (.i 1))]=[.i ((xs.length:Int) - 1 - (k+1:Nat))]:=by
              show[(qr2 (.tok (n+vb'.length)) (.lit (.i 1))).ev (evl (qb tbl) l2)]=_
              rw[qrw,hidx h1 hl2]
              show[D.i (((xs.length:Int) - 1 - k) - 1)]=_
              congr 2
              omega
             rw[e1] at hbk;have hcvr:=q2u hcov hf3;have hoth:=SF.other (a:=a) (b:=a2) (fun t=>by
              show a.tmps[t]? =some (c'.snap t)∨_
              cases hv:a.tmps[t]? with
              |none=>exact .inr rfl
              |some v=>exact .inl (by rw[hsn t v hv])) (by omega) (fun t y hy=>by
              obtain⟨u,-,e⟩:=z5i (f:=fun t x=>AV.sn t x) (qwj hy).1;exact⟨u,e⟩) hcvr
             have hgs:=hb3'.stays (b:=gc) (uC.1 h10).1 h11;have hfl:∀b,¬A' b→q58 p b:=fun b hb x hx=>hb (h6.pa x b hx);have hWs:w.heap.size+2≤W.heap.size:=by have:=h6.but.size;omega
             exact⟨rfl,⟨p3,_,by rw[q6n,qab hwb,qab hvb],hbk.1,h6.comp hb3',hhead (by rw[q6n,qab hwb,qab hvb]) hnl hl2n hoth hit,hgs.1.trans h10,hgs.2⟩,(hb3'.stays (by omega) (hfl _ hAL)).1,(hb3'.stays (by omega) (hfl _ hAD)).1⟩
            ·cases hcv2
           ·cases hcv2
          ·exact q4.elim
         ·exact q4.elim
        |ret=>exact q4.elim
        |exit i=>exact q4.elim
       ·rintro W⟨p,db,h1,h2,h3,h4,h5,h6⟩hD;have hcond:((leX (.lit (.i 0)) (.tok (n+vb'.length))).ev (evl (qb tbl) (l.take n++(db++[D.i ((xs.length:Int) - 1 - (xs.length:Nat))])))).tt=false:=by
         rw[qg7,hidx (db:=db) (i:=.i ((xs.length:Int) - 1 - (xs.length:Nat))) h1 (by rw[kK (by simp[h1];omega)])]
         show decide ((0:Int)≤(xs.length:Int) - 1 - (xs.length:Nat))=false
         simp;omega
        have hgk:=(hgo _ (hlenv h1) h2).2 hcond;have hun:=SF.unsnap (σ:=q0z [] ms n (jv [] ms kill n ⟨snT (σ.ren (q3z σ [] ms)).t,(σ.ren (q3z σ [] ms)).m⟩)) (c:=c'.at (qb tbl) (l.take n++(db++[D.i ((xs.length:Int) - 1 - (xs.length:Nat))]))) (c':=c'.at (qb tbl) (l.take n++(db++[D.i ((xs.length:Int) - 1 - (xs.length:Nat))]))) (fun b _ ha=>ha) rfl rfl rfl hp2 h4;have hWs:w.heap.size+2≤W.heap.size:=by have:=h3.but.size;omega
        refine hk _ _ _ _ p W c' (by simp[h1];omega) (by rw[uH (by simp;omega),uK,kL,hlt]) (fun j hj=>by unfold jg;rw[if_neg hj]) hgk ?_ hclo' hcF' hcT' (fun b hb'=>hAc b (by rwa [hcA'] at hb')) (fun b hb'=>⟨by rw[hcA'];exact hAn b (by omega),by rw[hcF'];exact(hb.new b (by have:=hb.but.size;omega)).2⟩) (fun x b hx=>by rw[hcA'];exact h3.pa x b hx) (fun h=>hAD (by rwa [hcA'] at h)) ⟨hun.t,hun.m⟩ hD;have hws:w0.heap.size≤w.heap.size:=hb1.but.size;have hSn:∀b,S1 b→S0 b∨w0.heap.size≤b:=fun b hb'=>by
         rw[hS1] at hb';rcases hb' with⟨x,hx⟩|e|e
         ·exact hb1.pin x b hx
         ·exact .inr (by omega)
         ·exact .inr (by omega)
        refine⟨h3.inj,h3.bd,⟨?_,?_,?_,by have:=h3.but.size;omega,fun j hj hn=>?_⟩,fun x b hx=>?_,hb.new,fun x b hx=>hAc b (h3.pa x b hx),h3.obj,Flo.of0 hfz hb.flo⟩
        ·exact(h3.but.os.trans (by rw[hw1];rfl)).trans hb1.but.os
        ·exact(h3.but.tape.trans (by rw[hw1];rfl)).trans hb1.but.tape
        ·exact(h3.but.output.trans (by rw[hw1];rfl)).trans hb1.but.output
        ·refine(h3.but.block j (by omega) fun hs=>?_).trans ?_
         ·rcases hSn j hs with h|h
          ·exact hn h
          ·omega
         ·rw[hw1,hget,if_neg (by simp;omega),hget,if_neg (by omega)];exact hb1.but.block j hj hn
        ·rcases h3.pin x b hx with h|h
         ·exact hSn b h
         ·exact .inr (by omega)
      ·cases hcv
     ·cases hcv
    ·exact h.elim
   ·exact h.elim
  ·exact h.elim
 ·exact h.2.elim
end
end
variable{S0:Nat→Prop}
section
def qom(D:Nat):Deferred:={target:=.collected D,args:= #[]}
def Dfs(A:Nat→Prop)(lb:Nat)(d:List Deferred)(w:World)(ds:List Deferred):Prop:=∃Ds:List Nat,ds=Ds.map qom++d∧Ds.Nodup∧∀D∈Ds,lb≤D∧w.heap[D]? =some (.deferred (some []))∧¬A D
def toU(P:Program)(tbl:Tbl)(ann:Ann)(lo z:Nat):Code→Nat→St→(Nat→ResD→St→Tree)→Tree
 |.seq x y,n,σ,k=>toU P tbl ann lo z x n σ fun n' r σ'=>match r with
  |.normal=>toU P tbl ann lo z y n' σ' k
  |.ret=>k n' .ret σ'
  |.exit i=>k n' (.exit i) σ'
 |.cond c x y,n,σ,k=>(match opd σ [] c with
  |some (.v b .bool _ _)=>.br b (toU P tbl ann lo z x n σ k) (toU P tbl ann lo z y n σ k)
  |_=>.bad (1000000+q2o x))
 |.block id c,n,σ,k=>toU P tbl ann lo z c n σ fun n' r σ'=>match r with
  |.exit i=>if uN i id then k n' .normal σ' else k n' (.exit i) σ'
  |.ret=>k n' .ret σ'
  |.normal=>k n' .normal σ'
 |.rangeFunc g ps assign body,n,σ,k=>(match lkA ann.heads (q2o assign - 1),ps.toList with
  |some h,[ti,tx]=>z9r P tbl ann lo z (q2o assign - 1) (heads h (σ.drop h.kill)).2 h.kill g ti tx assign body n (σ.drop h.kill) fun n' σ'=>k n' .normal σ'
  |_,_=>.bad (15000000+q2o assign))
 |cd,n,σ,k=>toT P tbl ann lo z cd [] n σ k
theorem Bs.up{A':Nat→Prop}{p':qg}{w w' w0:World}(h:Bs A F w0 S0 p w)(h':Bs A' F w (pinned p) p' w')(hA:∀b,A' b→A b):Bs A F w0 S0 p' w':=
 h.comp ⟨h'.inj,h'.bd,h'.but,h'.pin,fun b hb=>h.new b (uM h.but.size hb),fun x b hx=>hA b (h'.pa x b hx),h'.obj,h'.flo⟩
section
variable{lo z:Nat}{tbl:Tbl}
theorem zpr(hnn:3≤nn)(htb:q0i tbl)(hnp:q76 tbl=true)(hen:∀e∈ql0,∀(args:Array Value)(w:World),(callFunc e.2.1 args).run uA w=.ok (.enter e.2.1 args) w):
  ∀(cd:Code){c:Cx}{n:Nat}{σ:St}{k:Nat→ResD→St→Tree}{l:List D}{B:Nat→List D→Prop}{p:qg}{w:World}{a:Act}{Q:Exit→Act→World→Prop},
  (toU uA tbl ann lo z cd n σ k).go (qb tbl) R l B→c.lo=lo→(∀te,c.F.mx te=0)→l.length=n→Bs c.A c.F w (pinned p) p w→SF (c.at (qb tbl) l) σ p w a→a.tmps.size=z→
  (∀n' r σ' l' B' p' w' a'(c2:Cx),l'.length=n'→l'.take n=l→(k n' r σ').go (qb tbl) R l' B'→c2.lo=lo→c2.F=c.F→c2.At=c.At→(∀b,c2.A b→c.A b)→Bs c.A c.F w (pinned p) p' w'→Bs c2.A c2.F w' (pinned p') p' w'→SF (c2.at (qb tbl) l') σ' p' w' a'→Dfs c2.A w.heap.size a.defers w' a'.defers→a'.tmps.size=z→Q r.exit' a' w')→cd.wpIn (FR none) nn uA Q a w:=by
 intro cd
 induction cd with
 | seq x y ihx ihy =>
  intro c n σ k l B p w a Q h hlo hfz hl hb hf hz hk;simp only[toU] at h;refine wpIn_seq (ihx h hlo hfz hl hb hf hz fun n' r σ' l' B' p' w' a' c1 hl' hpre hgo hlo1 hF1 hT1 hA1 hb' hbn hf' hd' hz'=>?_);cases r with
  | normal =>
   refine ihy hgo hlo1 (fun te=>by rw[hF1];exact hfz te) hl' hbn hf' hz' fun n2 r2 σ2 l2 B2 p2 w2 a2 c2 hl2 hpre2 hgo2 hlo2 hF2 hT2 hA2 hb2 hbn2 hf2 hd2 hz2=>hk n2 r2 σ2 l2 B2 p2 w2 a2 c2 hl2 ?_ hgo2 hlo2 (hF2.trans hF1) (hT2.trans hT1) (fun b h=>hA1 b (hA2 b h)) (hb'.up (by rw[←hF1];exact hb2) hA1) hbn2 hf2 ?_ hz2
   ·have hnn:n≤n':=by
     have:=congrArg uR hpre;simp at this;omega
    rw[←hpre,←hpre2,uK,uQ hnn]
   ·obtain⟨D1,e1,n1,g1⟩:=hd';obtain⟨D2,e2,n2,g2⟩:=hd2;have hlt:∀D∈D1,D<w'.heap.size:=fun D hD=>(uC.1 (g1 D hD).2.1).1;refine⟨D2++D1,by rw[e2,e1];simp,List.nodup_append.2 ⟨n2,n1,fun x hx y hy e=>?_⟩,fun D hD=>?_⟩
    ·have h1:=(g2 x hx).1;have h2:=hlt y hy;omega
    ·rcases kC.1 hD with h1|h1
     ·exact⟨uM hb'.but.size (g2 D h1).1,(g2 D h1).2⟩
     ·have hs:=hb2.stays (hlt D h1) (fun x hx=>(g1 D h1).2.2 (hbn.pa x D hx));exact⟨(g1 D h1).1,hs.1.trans (g1 D h1).2.1,fun h=>(g1 D h1).2.2 (hA2 D h)⟩
  |ret=>exact hk n' .ret σ' l' B' p' w' a' c1 hl' hpre hgo hlo1 hF1 hT1 hA1 hb' hbn hf' hd' hz'
  |exit i=>exact hk n' (.exit i) σ' l' B' p' w' a' c1 hl' hpre hgo hlo1 hF1 hT1 hA1 hb' hbn hf' hd' hz'
 | cond b x y ihx ihy =>
  intro c n σ k l B p w a Q h hlo hfz hl hb hf hz hk;simp only[toU] at h;split at h
  ·rename_i q _ _ hc;obtain⟨u,e1,e2⟩:=q2p (ql hf rfl hc);have e1':(q.ev (evl (qb tbl) l))=.b u:=e1;cases u with
   |true=>exact wpIn_cond_true e2 (ihx (h.1 (by rw[e1'];rfl)) hlo hfz hl hb hf hz hk)
   |false=>exact wpIn_cond_false e2 (ihy (h.2 (by rw[e1'];rfl)) hlo hfz hl hb hf hz hk)
  ·exact h.elim
 | block id cd ih =>
  intro c n σ k l B p w a Q h hlo hfz hl hb hf hz hk;simp only[toU] at h;refine wpIn_block (ih h hlo hfz hl hb hf hz fun n' r σ' l' B' p' w' a' c1 hl' hpre hgo hlo1 hF1 hT1 hA1 hb' hbn hf' hd' hz'=>?_);cases r with
  |normal=>exact hk n' .normal σ' l' B' p' w' a' c1 hl' hpre hgo hlo1 hF1 hT1 hA1 hb' hbn hf' hd' hz'
  |ret=>exact hk n' .ret σ' l' B' p' w' a' c1 hl' hpre hgo hlo1 hF1 hT1 hA1 hb' hbn hf' hd' hz'
  | exit i =>
   show Exit.inBlock id Q (.exit i) a' w'
   simp only at hgo;by_cases hi:i=id
   ·rw[if_pos (by rw[hi];exact kM id)] at hgo;simp only[Exit.inBlock,if_pos hi];exact hk n' .normal σ' l' B' p' w' a' c1 hl' hpre hgo hlo1 hF1 hT1 hA1 hb' hbn hf' hd' hz'
   ·rw[if_neg (fun e=>hi (gnN e))] at hgo;simp only[Exit.inBlock,if_neg hi];exact hk n' (.exit i) σ' l' B' p' w' a' c1 hl' hpre hgo hlo1 hF1 hT1 hA1 hb' hbn hf' hd' hz'
 | rangeFunc g ps assign body iha ihb =>
  intro c n σ k l B p w a Q h hlo hfz hl hb hf hz hk;simp only[toU] at h;split at h
  ·rename_i hh ti tx hann hps;have hps':ps= #[ti,tx]:=by
    apply Array.ext';exact hps
   subst hps';have hb1:=hb.un (qap hh.kill σ);have hf1:=SF.un (c:=c.at (qb tbl) l) (q:=qap hh.kill σ) hb.inj hb.pa hf;rw[←hlo] at h;refine zei (c:=c) (σ:=σ.drop hh.kill) hnn htb hnp hfz h hl hb1 hf1 hz hen fun n' σ' l' B' p' w' c2 hl' hpre _ hgo hb' hlo2 hF2 hT2 hA2 hnew hpa hnD hf' hD=>?_;exact hk n' .normal σ' l' B' p' w' _ c2 hl' hpre hgo (hlo2.trans hlo) hF2 hT2 hA2 hb' ⟨hb'.inj,hb'.bd,But.refl _ _,fun x b hx=>.inl ⟨x,hx⟩,hnew,hpa,hb'.obj,by rw[hF2];exact hb'.flo.anew⟩ hf' ⟨[w.heap.size],rfl,by simp,fun D hD'=>by
    obtain rfl:D=w.heap.size:=by simpa using hD'
    exact⟨uJ _,hD,hnD⟩⟩ hz
  ·exact h.elim
 |_=>
  intro c n σ k l B p w a Q h hlo hfz hl hb hf hz hk;subst hlo;exact qdg none nn (c:=c) (w0:=w) (S0:=pinned p) (d:=a.defers) (z:=z) htb (fun te=>by rw[hfz];exact uX _) _ h hl hb hf rfl hz (q3l hnp) (qbz hnp) fun n' r σ' l' B' p' w' a' hl' hpre _ hgo hb' hf' hd' hz'=>hk n' r σ' l' B' p' w' a' c hl' hpre hgo rfl rfl rfl (fun b h=>h) hb' hb'.anew hf' ⟨[],by rw[hd'];rfl,by simp,fun D hD=>by cases hD⟩ hz'
end
end
def zpk(P:Program)(tbl:Tbl)(ann:Ann)(ct:Ct)(fn:Func)(cd:Code):Tree:=
 toU P tbl ann ct.ar.length fn.ntmps cd (q6f ct.ars) (qn1 ct) (qbs ct fn.results.toList)
def shut(w:World)(D:Nat):World:=w.putObj D (.deferred none)
def ji(w:World)(Ds:List Nat):World:=Ds.foldl shut w
theorem qmi{F:Fence}{n:Nat}{R:Ending→World→Prop}:∀(Ds:List Nat)(w:World),Ds.Nodup→(∀D∈Ds,w.heap[D]? =some (.deferred (some [])))→LeavesIn F n uA fn tmps R [] .returning (ji w Ds)→LeavesInM F n uA fn tmps R (Ds.map qom) .returning w
 |[],w,_,_,h=>h
 |D::Ds,w,hn,hd,h=>by
  obtain⟨h1,h2⟩:=List.nodup_cons.1 hn;exact⟨by simp,.inl ⟨D,_,rfl,run_takeDeferred (hd D uD),qmi Ds _ h2 (fun D' hD'=>(uB (fun e=>h1 (by rw[←e];exact hD'))).trans (hd D' (uG _ hD'))) h⟩⟩
theorem qdt(pa:∀x b,p x=some b→A b):∀(Ds:List Nat)(w:World),(∀D∈Ds,¬A D)→Stab A no no p w p (ji w Ds)
 |[],w,_=>Stab.refl _ _ _ _ _
 |D::Ds,w,h=>by
  have h1:=qnv (w:=w) (h D uD) pa (.deferred none);have h2:=qdt pa Ds (w.putObj D (.deferred none)) fun D' hD'=>h D' (uG _ hD');exact⟨uM h1.size h2.size,fun b hb ha hf=>⟨(h2.free b (kS hb h1.size) ha hf).1.trans (h1.free b hb ha hf).1,hf⟩,fun x b _ hx=>hx,fun x b _ hx=>(h2.con x b rfl hx).trans (h1.con x b rfl hx)⟩
theorem qlp{A':Nat→Prop}(hfz:∀te,F.mx te=0){w0:World}(pa:∀x b,p x=some b→A' b):∀(Ds:List Nat)(w:World),Bs A F w0 S0 p w→(∀D∈Ds,w0.heap.size≤D∧¬A' D)→Bs A F w0 S0 p (ji w Ds)
 |[],w,h,_=>h
 |D::Ds,w,h,hD=>by
  obtain⟨h1,h2⟩:=hD D uD;refine qlp hfz pa Ds (w.putObj D (.deferred none)) ⟨h.inj,fun x b hx=>by simpa using h.bd x b hx,⟨h.but.os,h.but.tape,h.but.output,by simpa using h.but.size,fun k hk hn=>(uB (by omega)).trans (h.but.block k hk hn)⟩,h.pin,h.new,h.pa,fun x b hx=>(h.obj x b hx).same (uB (fun e=>h2 (by rw[←e];exact pa x b hx))),Flo.of0 hfz h.flo⟩ fun D' hD'=>hD D' (uG _ hD')
theorem q91.chA{A':Nat→Prop}{w:World}(hA:∀b,b<w.heap.size→A b→A' b):∀{rs:List (Ty×Bool)}{k:Nat}{vs:List Value}{ds:List D},q91 A p w rs k vs ds→q91 A' p w rs k vs ds
  |[],_,_,_,h=>h
  |(t,own)::l,k,vs,ds,⟨v,r,d,ds',e1,e2,⟨cs,hp,hc⟩,h⟩=>⟨v,r,d,ds',e1,e2,⟨cs,hp,hc.chA hA⟩,q91.chA hA h⟩
theorem q3k.chA{A':Nat→Prop}{p':qg}{w:World}(hA:∀b,b<w.heap.size→A b→A' b):∀{all:List (Nat×Ar)}{ds:List D},q3k V A p p' w all ds→q3k V A' p p' w all ds
  |[],_,h=>h
  | (i, r) :: l, ds, h => by
    cases r with
    | ref t o =>
      obtain⟨d,ds',e,⟨g,cs,T,h1,h2,h3,hty,hc⟩,h⟩:=h;exact⟨d,ds',e,⟨g,cs,T,h1,h2,h3,hty,hc.chA hA⟩,q3k.chA hA h⟩
    | mref t =>
      obtain⟨d,ds',e,hq,h⟩:=h;exact⟨d,ds',e,hq.imp (fun⟨g,h1,h2,hc⟩=>⟨g,h1,h2,hc.chA hA⟩) (fun⟨h0,v,cs,h1,h2,hc⟩=>⟨h0,v,cs,h1,h2,hc.chA hA⟩),q3k.chA hA h⟩
    |_=>exact q3k.chA hA (all:=l) h
def zqg:Ar→Bool
 |.mref _=>false
 |_=>true
set_option maxHeartbeats 1000000 in
theorem zlc(ann:Ann)(fn:Func)(cd:Code)(htb:q0i tbl)(hbw:∀e∈ql0,∀(args:Array Value)(w:World),(callFunc e.2.1 args).run uA w=.ok (.enter e.2.1 args) w)(hf:uA.funcs[ct.f]? =some fn)(hb:fn.body=some cd)
  (hen:∀args w,(callFunc ct.f args).run uA w=.ok (.enter ct.f args) w)(hsz:ct.ar.length≤fn.ntmps)
  (h:∀ds outs,WfA ct.ars ds→g ds=some outs→(zpk uA tbl ann ct fn cd).go (qb tbl) (fun o=>o=outs) ds fun _ _=>False)(hnp:q76 tbl=true:=by rfl)(hmr:(ct.all.all fun e=>zqg e.2)=true:=by rfl)(hkp:ct.kp=[]:=by rfl)(hfl:ct.fl=[]:=by rfl):FOk ct g:=by
 refine⟨hen,fun A F p w vs us ds outs hg hfl0 hfo hpre hvl hargs=>callsIn_wide.1 (callsIn_of_wp_marks (F:=FR none) (n:=5) hf hb trivial ?_),fun h=>absurd hkp h⟩;obtain⟨hwf,hdl,-⟩:=hargs.wf;rw[all_map] at hwf hdl;have hgo:=h ds outs hwf hg;have hfz:=hfl0.zero hfl
 let c:Cx:=⟨evl (qb tbl) ds,A,F,ct.ar.length,fun k g=>(k<ct.ar.length∨VB≤k)→p (k * 16)=some g,fun k g hk h2 h=>absurd h (by omega),fun q=>(vs++us).getD q undef⟩
 have hb0:Bs c.A c.F w (pinned p) p w:=⟨hpre.inj,hpre.bd,But.refl _ _,fun x b hx=>.inl ⟨x,hx⟩,hpre.new,hpre.pa,hpre.obj,hfo⟩;have hsf:SF (c.at (qb tbl) ds) (qn1 ct) p w {tmps:=vs.toArray++kB (fn.ntmps - vs.toArray.size) undef,defers:=[]}:=by
  refine⟨fun t x hx=>?_,qls (c:=c.at (qb tbl) ds) (A:=A) rfl (fun k=>rfl) hargs fun e he=>kN.1 he⟩;obtain⟨h1,h2⟩:=qlo (c:=c.at (qb tbl) ds) (A:=A) (n0:=ct.ar.length) rfl rfl rfl hargs (fun k=>rfl) _ _ t x hx;have hlt:t<vs.length:=by omega
  refine⟨(vs++us).getD t undef,?_,h2⟩
  show(vs.toArray++_)[t]? =_
  rw[kD (by simpa using hlt),gnG,uF hlt];simp[gnK hlt]
 refine zpr (nn:=5) (by omega) htb hnp hbw cd (c:=c) hgo rfl hfz hdl hb0 hsf (by simp;omega) fun n' r σ' l' B' p' w' a' c2 hl' hpre' hgo' hlo2 hF2 hT2 hA2 hb' hbn hf' hd' hz'=>?_;obtain⟨Ds,hds,hnd,hDs⟩:=hd';have hds:a'.defers=Ds.map qom:=by rw[hds];simp
 have hst:=qdt hbn.pa Ds w' fun D hD=>(hDs D hD).2.2;have hbF:=qlp hfz hbn.pa Ds w' hb' fun D hD=>⟨(hDs D hD).1,(hDs D hD).2.2⟩;have hfF:SF (c2.at (qb tbl) l') σ' p' (ji w' Ds) a':=SF.same hst hf';have hbnF:Bs c2.A c2.F (ji w' Ds) (pinned p') p' (ji w' Ds):=⟨hbF.inj,hbF.bd,But.refl _ _,fun x b hx=>.inl ⟨x,hx⟩,fun b hb=>hbn.new b (uM hst.size hb),hbn.pa,hbF.obj,by rw[hF2];exact hbF.flo.anew⟩;have fin':∀xs,fin ct fn.results.toList σ'=some xs→X.evs (evl (qb tbl) l') xs=outs→∃v,(results fn a'.tmps).run uA (ji w' Ds)=.ok v (ji w' Ds)∧((∃T,ct.pn=some T∧outs=[.u]∧(Ending.returned v)=.panicked (q98 T)∧But (pinned p) w (ji w' Ds))∨∃rs p2,(Ending.returned v)=.returned (qet rs)∧Bs A F w (pinned p) p2 (ji w' Ds)∧q91 A p2 (ji w' Ds) ct.rs ct.ar.length rs (outs.take ct.rs.length)∧q3k (vs++us) A p p2 (ji w' Ds) ct.all (outs.drop ct.rs.length)):=by
  intro xs hfin hout;unfold fin at hfin;simp only at hfin;split at hfin
  ·rename_i hok;simp only[gnB] at hok;split at hfin
   ·rename_i xa xb hxa hxb;injection hfin with hfin;subst hfin;have hb1:=hbnF.un (fun y=> !zu ((qcg σ' (fn.results.toList.zip ct.rs) ct.ar.length++q9h σ' ct.all).map (·.1)++(q74 ct.all++q3q σ' fn.results.toList)) y);have hf1:=SF.un (c:=c2.at (qb tbl) l') (q:=fun y=> !zu ((qcg σ' (fn.results.toList.zip ct.rs) ct.ar.length++q9h σ' ct.all).map (·.1)++(q74 ct.all++q3q σ' fn.results.toList)) y) hbnF.inj hbnF.pa hfF;obtain⟨p2,hb2,hf2⟩:=qe2 (c:=c2.at (qb tbl) l') hok.1 hb1 hf1;obtain⟨l,h1,h2,h3⟩:=qk3 hf2 (gnN hok.2) hxa;have h4:=qk4 (VV:=vs++us) (p0:=p) (n0:=ct.ar.length) hf2 hT2 (fun e he=>qs1 he) (fun i t hm=>(uO.1 hmr _ hm|>fun h=>by cases h)) hxb;have hev:X.evs (evl (qb tbl) l') xa++X.evs (evl (qb tbl) l') xb=outs:=by rw[←q8l];exact hout
    have hla:(X.evs (evl (qb tbl) l') xa).length=ct.rs.length:=by rw[q6n,h3]
    refine⟨_,qc9 h1,.inr ⟨l,p2,rfl,hbF.up (show Bs c2.A c.F _ _ _ _ from hF2▸hb2) hA2,q91.chA (A:=c2.A) (fun b _ h=>hA2 b h) ?_,q3k.chA (A:=c2.A) (fun b _ h=>hA2 b h) ?_⟩⟩
    ·rw[←hev,uH (by omega),←hla,uE];exact h2
    ·rw[←hev,←hla,kY];exact h4
   ·cases hfin
  ·cases hfin
 have last:∀xs,fin ct fn.results.toList σ'=some xs→X.evs (evl (qb tbl) l') xs=outs→LeavesInM (FR none) 5 uA fn a'.tmps (fun e w'=>(∃T,ct.pn=some T∧outs=[.u]∧e=.panicked (q98 T)∧But (pinned p) w w')∨∃rs p',e=.returned (qet rs)∧Bs A F w (pinned p) p' w'∧q91 A p' w' ct.rs ct.ar.length rs (outs.take ct.rs.length)∧q3k (vs++us) A p p' w' ct.all (outs.drop ct.rs.length)) a'.defers .returning w':=fun xs hx ho=>by
  rw[hds];exact qmi Ds w' hnd (fun D hD=>(hDs D hD).2.1) (fin' xs hx ho)
 cases r with
 |exit i=>exact hgo'.elim
 | normal =>
  simp only[qbs] at hgo';split at hgo'
  ·rename_i xs hx;exact last xs hx hgo'
  ·exact hgo'.elim
 | ret =>
  simp only[qbs] at hgo';split at hgo'
  ·rename_i xs hx;exact last xs hx hgo'
  ·exact hgo'.elim
variable{K:Act→World→Prop}
section
def zwc(o:Oper):Bool:=match o.op with
 |.defer _=>true
 |_=>false
def qhi:Code→Option (List Code×Nat×List Oper×Code)
 |.seq (.region id ops false) y=>if ops.toList.any zwc then some ([],id,ops.toList,y) else(qhi y).map fun r=>(.region id ops false::r.1,r.2)
 |.seq x y=>(qhi y).map fun r=>(x::r.1,r.2)
 |_=>none
def zj1(P:Program)(Q:Exit→Act→World→Prop):List Code→(Act→World→Prop)→Act→World→Prop
 |[],K=>K
 |x::xs,K=>fun a w=>x.wp P (Exit.then (zj1 P Q xs K) Q) a w
theorem z3n{P:Program}:∀{cd:Code}{xs:List Code}{id:Nat}{ops:List Oper}{post:Code},qhi cd=some (xs,id,ops,post)→∀{a:Act}{w:World},zj1 P Q xs (fun a w=>(Code.seq (.region id ops.toArray false) post).wp P Q a w) a w→cd.wp P Q a w
 | .seq x y, xs, id, ops, post, h, a, w, hw => by
  unfold qhi at h;split at h
  ·rename_i id' ops' y' e;injection e with e1 e2;subst e1 e2;split at h
   ·simp only[gnS] at h;obtain⟨rfl,rfl,rfl,rfl⟩:=h;exact hw
   ·obtain⟨⟨xs1,r1⟩,h1,h2⟩:=kG.1 h;simp only[Prod.mk.injEq] at h2;obtain⟨rfl,rfl⟩:=h2;refine wp_seq (wp_mono hw fun e a w hq=>?_);cases e with
    |normal=>exact z3n h1 hq
    |_=>exact hq
  ·rename_i x' y' hne e;injection e with e1 e2;subst e1 e2;obtain⟨⟨xs1,r1⟩,h1,h2⟩:=kG.1 h;simp only[Prod.mk.injEq] at h2;obtain⟨rfl,rfl⟩:=h2;refine wp_seq (wp_mono hw fun e a w hq=>?_);cases e with
   |normal=>exact z3n h1 hq
   |_=>exact hq
  ·cases h
 |.skip,_,_,_,_,h,_,_,_=>by simp[qhi] at h
 |.region _ _ _,_,_,_,_,h,_,_,_=>by simp[qhi] at h
 |.cond _ _ _,_,_,_,_,h,_,_,_=>by simp[qhi] at h
 |.block _ _,_,_,_,_,h,_,_,_=>by simp[qhi] at h
 |.exit _,_,_,_,_,h,_,_,_=>by simp[qhi] at h
 |.ret,_,_,_,_,h,_,_,_=>by simp[qhi] at h
 |.loop _,_,_,_,_,h,_,_,_=>by simp[qhi] at h
 |.label _,_,_,_,_,h,_,_,_=>by simp[qhi] at h
 |.scope _,_,_,_,_,h,_,_,_=>by simp[qhi] at h
 |.goto _,_,_,_,_,h,_,_,_=>by simp[qhi] at h
 |.rangeFunc _ _ _ _,_,_,_,_,h,_,_,_=>by simp[qhi] at h
def zkh(o:Oper):Option Nat:=match o.op,o.dst,o.guard with
 |.defer c,none,none=>(match c.callee,c.args.toList with
  |.value (.tmp t),[]=>some t
  |_,_=>none)
 |_,_,_=>none
mutual
def q9v:AV→Bool
 |.sn _ _=>false
 |.tup l=>z50 l
 |.gd _ a=>q9v a
 |.fn _ l=>z50 l
 |.bx _ _ a=>q9v a
 |.ax _ _ _ a=>q9v a
 |.fr _ a=>q9v a
 |.pt _ _ _ a=>q9v a
 |_=>true
def z50:List AV→Bool
 |[]=>true
 |a::l=>q9v a&&z50 l
end
section
variable{c:Cx}{s:Nat→Value}{p:qg}{w:World}
mutual
theorem qc7:∀(a:AV)(v:Value),q9v a=true→AV.pd c p w a v→AV.pd {c with snap:=s} p w a v
 |.sn _ _,v,h,_=>by simp[q9v] at h
 |.tup l,v,h,hp=>by
  obtain⟨vs,e,hl⟩:=hp;exact⟨vs,e,qva l vs (by simpa[q9v] using h) hl⟩
 |.gd cs a,v,h,hp=>⟨fun hh=>qc7 a v (by simpa[q9v] using h) (hp.1 hh),hp.2⟩
 |.fn f l,v,h,hp=>by
  obtain⟨vs,e,hl⟩:=hp;exact⟨vs,e,qva l vs (by simpa[q9v] using h) hl⟩
 |.bx k T a,v,h,hp=>by
  obtain⟨g,u,h1,h2,h3,h4⟩:=hp;exact⟨g,u,h1,h2,h3,qc7 a u (by simpa[q9v] using h) h4⟩
 |.ax k T n a,v,h,hp=>by
  obtain⟨g,cs,h1,h2,h3,h4,h5⟩:=hp;exact⟨g,cs,h1,h2,h3,h4,qc7 a _ (by simpa[q9v] using h) h5⟩
 |.fr T a,v,h,hp=>by
  obtain⟨g,u,h1,h2,h3,h4,h5⟩:=hp;exact⟨g,u,h1,h2,h3,h4,qc7 a u (by simpa[q9v] using h) h5⟩
 |.ff _ _ _ _ _ _ _ _,v,_,hp=>hp
 |.pt pin i E a,v,h,hp=>⟨hp.1,qc7 a v (by simpa[q9v] using h) hp.2⟩
 |.any,v,_,hp=>hp
 |.undef,v,_,hp=>hp
 |.v _ _ _ _,v,_,hp=>hp
 |.nilS,v,_,hp=>hp
 |.nilP,v,_,hp=>hp
 |.ref _ _ _ _,v,_,hp=>hp
 |.rd _ _ _ _,v,_,hp=>hp
 |.nb _ _,v,_,hp=>hp
 |.ar _ _ _,v,_,hp=>hp
 |.lv _ _,v,_,hp=>hp
theorem qva:∀(l:List AV)(vs:List Value),z50 l=true→pds c p w l vs→pds {c with snap:=s} p w l vs
 |[],vs,_,hp=>hp
 |a::l,vs,h,hp=>by
  simp only[z50,gnB] at h;obtain⟨v,r,e,h1,h2⟩:=hp;exact⟨v,r,e,qc7 a v h.1 h1,qva l r h.2 h2⟩
end
end
def q5p(P:Program)(tbl:Tbl)(ann:Ann)(lo z:Nat):List Code→Nat→St→(Nat→ResD→St→Tree)→Tree
 |[],n,σ,k=>k n .normal σ
 |x::xs,n,σ,k=>toT P tbl ann lo z x [] n σ fun n' r σ'=>match r with
  |.normal=>q5p P tbl ann lo z xs n' σ' k
  |.ret=>k n' .ret σ'
  |.exit i=>k n' (.exit i) σ'
section
variable{c:Cx}{p:qg}{w w0:World}{S0:Nat→Prop}{a:Act}{σ σ':St}{d:List Deferred}{z:Nat}{tbl:Tbl}
theorem zbf(htb:q0i tbl)(hfm:∀te,c.F.mx te≤flM tbl te)(hnp:q76 tbl=true):∀(xs:List Code){n:Nat}{σ:St}{k:Nat→ResD→St→Tree}{l:List D}{B:Nat→List D→Prop}{p:qg}{w:World}{a:Act},
  (q5p uA tbl ann c.lo z xs n σ k).go (qb tbl) R l B→l.length=n→Bs c.A c.F w0 S0 p w→SF (c.at (qb tbl) l) σ p w a→a.defers=d→a.tmps.size=z→
  (∀n' r σ' l' B' p' w' a',l'.length=n'→(k n' r σ').go (qb tbl) R l' B'→Bs c.A c.F w0 S0 p' w'→SF (c.at (qb tbl) l') σ' p' w' a'→a'.defers=d→a'.tmps.size=z→Exit.then K Q r.exit' a' w')→zj1 uA Q xs K a w
 |[],n,σ,k,l,B,p,w,a,h,hl,hb,hf,hd,hz,hk=>hk n .normal σ l B p w a hl h hb hf hd hz
 |x::xs,n,σ,k,l,B,p,w,a,h,hl,hb,hf,hd,hz,hk=>by
  refine(wpIn_wide (n:=0)).1 ?_;refine qdg none 0 htb hfm x h hl hb hf hd hz (q3l hnp) (qbz hnp) fun n' r σ' l' B' p' w' a' hl' _ _ hgo hb' hf' hd' hz'=>?_;cases r with
  |normal=>exact zbf htb hfm hnp xs hgo hl' hb' hf' hd' hz' hk
  |ret=>exact hk n' .ret σ' l' B' p' w' a' hl' hgo hb' hf' hd' hz'
  |exit i=>exact hk n' (.exit i) σ' l' B' p' w' a' hl' hgo hb' hf' hd' hz'
theorem zc3{o:Oper}{t:Nat}(h:zkh o=some t){caps:Array Value}(hv:a.eval (.tmp t)=.func (.func f) #[] caps)(hk:K {a with defers:={target:=.fn (.func f) caps,args:= #[]}::a.defers} w):
  o.guard=none∧o.wp uA a w K Q:=by
 unfold zkh at h;split at h
 ·rename_i cl ho hdst hg;split at h
  ·rename_i t' hcal hargs;injection h with h;subst h;refine⟨hg,?_⟩;obtain⟨callee,⟨args⟩,tys⟩:=cl;simp only at hcal hargs;subst hcal hargs;have hrun:(execOp a.eval o).run uA w=.ok (.defer {target:=.fn (.func f) caps,args:= #[]}) w:=by
    generalize a.eval=r at *;simp[execOp,ho,resolve,Deferred.ofValue,hv]
   unfold Oper.wp;rw[hrun]
   show K ({a with defers:=_::a.defers}.put o.dst undef) w
   rw[hdst];exact hk
  ·cases h
 ·cases h
end
end
end Go.Proofs.YtdaadonfbnedaaaGreat
