/-
 Lemmas of the walk and plain laws, put together. No condition.
-/
import Derived.Defers
import Derived.Laws.Tables
import Derived.Test.YtdaadonfbnedaaaGreatKc
namespace Go.Proofs.YtdaadonfbnedaaaGreat
open Go.RowKit
set_option linter.unusedVariables false
set_option linter.unusedSimpArgs false
set_option maxRecDepth 100000
open _root_.Go.Proofs.Tryz renaming prog→uA
open _root_.List renaming mem_cons_of_mem→uB,take_length→uC,mem_cons_self→uD,all_eq_true→uH,getElem?_append_left→uJ,mem_cons→uL,getElem?_cons_succ→uM,range→uN,mem_append_right→uP,take_take→uQ,mem_append_left→uR,length_append→uT,take_append_of_le_length→uV,mem_range→uZ,getElem?_append_right→kA,getElem?_take_of_lt→kC,getElem?_cons_zero→kD,range'→kE,length→kF,getD_cons_zero→kH,filter_cons→kK,any_eq_true→kL,mem_append→kO,map_cons→kQ
open _root_.Option.some renaming injEq→uE
open _root_.Nat renaming le_refl→uF,beq→uI,le_trans→uK,sub_self→uO,min_eq_left→uX,lt_of_lt_of_le→kI,blt→kJ,lt_succ_self→kN,beq_refl→kT,add_zero→kU,zero_le→kV,blt_eq→kW
open World renaming putObj_heap_other→uG
open _root_.Array renaming eq_empty_of_size_eq_zero→uU,replicate→kM
open _root_.Option renaming isSome_iff_exists→uY,map_eq_some_iff→kB
variable{α:Type}{p:qi}{e:Ev}{S:Nat→List D→Option (List D)}{R:List D→Prop}{B:Nat→List D→Prop}{A:Nat→Prop}{dep kill:List Nat}{t:Ty}{cs:List Value}{Q:Exit→Act→World→Prop}
section
inductive Tree where
 |bad(n:Nat)
 |need(ns:List X)(t:Tree)
 |br(x:X)(t e:Tree)
 |amb(x:X)(neg:Bool)(t e:Tree)
 |leaf(xs:List X)
 |back(id:Nat)(xs:List X)
 |loop(id n:Nat)(init:List X)(body:Tree)
def evl(S:Nat→List D→Option (List D))(l:List D):Ev:=⟨fun k=>l.getD k .u,S⟩
def q06(e:Ev):List X→Prop
 |[]=>True
 |x::l=>x.says e∧q06 e l
def q2r(B:Nat→List D→Prop)(id:Nat)(I:List D→Prop):Nat→List D→Prop:=fun j=>if j=id then I else B j
def Tree.go(S:Nat→List D→Option (List D))(R:List D→Prop):Tree→List D→(Nat→List D→Prop)→Prop
 |.bad _,_,_=>False
 |.need ns t,l,B=>q06 (evl S l) ns∧t.go S R l B
 |.br x t e,l,B=>((x.ev (evl S l)).tt=true→t.go S R l B)∧((x.ev (evl S l)).tt=false→e.go S R l B)
 |.amb x neg t e,l,B=>((neg=false→(x.ev (evl S l)).rs=[])→t.go S R l B)∧((neg=true→(x.ev (evl S l)).rs=[])→e.go S R l B)
 |.leaf xs,l,B=>R (X.evs (evl S l) xs)
 |.back id xs,l,B=>B id (X.evs (evl S l) xs)
 | .loop id n init body, l, B => ∃ (I : List D → Prop) (μ : List D → Nat), I (X.evs (evl S l) init) ∧
   ∀st,st.length=init.length→I st→body.go S R (l.take n++st) (q2r B id fun st'=>I st'∧μ st'<μ st)
abbrev Item:=Nat×Ty×List (Nat×Nat)×List Nat
structure Head where
 ts:List (Nat×Ty×Bool)
 ms:List Nat
 kill:List Nat
 dep:List Nat
structure Ann where
 pub:List Nat
 heads:List (Nat×Head)
def prune(l:List Nat)(σ:St):St:=⟨σ.t.filter fun e=>y7 l e.1,σ.m⟩
theorem zdv{q:Nat→Bool}{l:List (Nat×α)}{k:Nat}{e:α}(h:lkA (l.filter fun y=>q y.1) k=some e):lkA l k=some e:=by
 induction l with
 |nil=>cases h
 | cons a l ih =>
  obtain⟨j,x⟩:=a
  by_cases hjk:j=k
  ·subst hjk
   rw[kK] at h
   split at h
   ·rw[qa] at h⊢
    exact h
   ·rename_i hq
    exfalso
    have:=List.mem_filter.1 (qx h)
    exact hq this.2
  ·rw[qd hjk]
   rw[kK] at h
   split at h
   ·rw[qd hjk] at h
    exact ih h
   ·exact ih h
theorem zjt{c:Cx}{l:List Nat}{σ:St}{w:World}{a:Act}(h:SF c σ p w a):SF c (prune l σ) p w a:=⟨fun t x hx=>h.t t x (zdv (q:=y7 l) hx),h.m⟩
def sel{α:Type}(q:Nat→α→Bool):List (Nat×α)→List (Nat×α)
  |[]=>[]
  |(k,e)::l=>if q k e then(k,e)::sel q l else(sel q l).filter fun y=>y.1 !=k
theorem z2j{q:Nat→α→Bool}{l:List (Nat×α)}{k:Nat}{e:α}(h:lkA (sel q l) k=some e):lkA l k=some e∧q k e=true:=by
 induction l with
 |nil=>cases h
 | cons a l ih =>
  obtain⟨j,x⟩:=a
  unfold sel at h
  by_cases hjk:j=k
  ·subst hjk
   split at h
   ·rename_i hq
    rw[qa] at h
    injection h with h
    subst h
    exact⟨qa,hq⟩
   ·rw[z5] at h
    cases h
  ·rw[qd hjk]
   split at h
   ·rw[qd hjk] at h
    exact ih h
   ·rw[q39 hjk] at h
    exact ih h
def z20(a b:List (Nat×Nat)):Bool:=a.all fun e=>match lkA b e.1 with
 |some x=>uI x e.2
 |none=>false
def qkk(a b:List (Nat×Nat)):Bool:=q64 a&&(q64 b&&(z20 a b&&z20 b a))
def SNK:Nat:=4000000000
def snB(ty:Ty)(dep:List Nat):Bool:=qd2 ty&&y7 dep SNK
def itT(σ:St):Item→Option X
  | (t, ty, own, dep) => match lkA σ.t t with
    |some (.v x ty' own' dep')=>if !snB ty dep&&(Ty.beq ty' ty&&(qkk own' own&&dep'.all (y7 dep))) then some x else none
    |some (.sn q (.v x ty' own' dep'))=>if snB ty dep&&(uI q t&&(Ty.beq ty' ty&&(qkk own' own&&dep'.all (y7 dep)))) then some x else none
    | some .nilS => (match ty with
      |.row E=>if(qk E).isSome then some (.lit (.r [])) else none
      |_=>none)
    |_=>none
def itM(σ:St):Item→Option X
  | (k, ty, own, dep) => match lkA σ.m k with
    |some e=>if Ty.beq e.t ty&&(qkk e.own own&&e.dep.all (y7 dep)) then some e.x else none
    |none=>none
def its(f:Item→Option X):List Item→Option (List X)
 |[]=>some []
 |i::l=>match f i,its f l with
  |some x,some xs=>some (x::xs)
  |_,_=>none
def pairUp(own:List (Nat×Nat)):List (Nat×Nat)→List (Nat×Nat)
  |[]=>[]
  | (i, q) :: l => match lkA own i with
    |some x=>(x,q)::pairUp own l
    |none=>pairUp own l
def ztg(σ:St)(t:Nat):List (Nat×Nat):=match lkA σ.t t with
 |some (.v _ _ own _)=>own
 |some (.sn _ (.v _ _ own _))=>own
 |_=>[]
def zwn(σ:St)(k:Nat):List (Nat×Nat):=match lkA σ.m k with
 |some e=>e.own
 |none=>[]
def zgp(f:Nat→List (Nat×Nat)):List Item→List (Nat×Nat)
  |[]=>[]
  |(k,_,own,_)::l=>pairUp (f k) own++zgp f l
def qp4(σ:St)(ts ms:List Item):List (Nat×Nat):=zgp (ztg σ) ts++zgp (zwn σ) ms
def conv(ts ms:List Item)(σ:St):Option (St×List X×List X):=if reB (qp4 σ ts ms) then match its (itT (σ.ren (qp4 σ ts ms))) ts,its (itM (σ.ren (qp4 σ ts ms))) ms with
  |some a,some b=>some (σ.ren (qp4 σ ts ms),a,b)
  |_,_=>none
 else none
def tgt(k:Nat)(ty:Ty)(own:List (Nat×Nat)):List (Nat×Nat):=(qq k ty).filter fun e=>(lkA own e.1).isSome
def zuz(σ:St):List (Nat×Ty×Bool)→List Item
  |[]=>[]
  | (t, ty, rd) :: l => (t, ty, (match lkA σ.t t with
    |some (.v _ _ own _)=>tgt t ty own
    |some (.sn _ (.v _ _ own _))=>tgt t ty own
    |some .nilS=>if rd then[] else qq t ty
    |_=>[]),[])::zuz σ l
def zsw(σ:St):List Nat→List Item
 |[]=>[]
 |k::l=>match lkA σ.m k with
  |some e=>(k,e.t,tgt k e.t e.own,[])::zsw σ l
  |none=>zsw σ l
def z1z(f:Nat→List Nat)(x:List Nat):List Item→List Item
  |[]=>[]
  |(k,ty,own,_)::l=>(k,ty,own,f k++x)::z1z f x l
def zqj(σ:St)(t:Nat):List Nat:=match lkA σ.t t with
 |some (.v _ _ _ dep)=>dep
 |some (.sn _ (.v _ _ _ dep))=>SNK::dep
 |_=>[]
def zsc(σ:St)(k:Nat):List Nat:=match lkA σ.m k with
 |some e=>e.dep
 |none=>[]
def heads(h:Head)(σ:St):List Item×List Item:=
 let ts:=zuz σ h.ts
 let ms:=zsw σ h.ms
 let σ1:=σ.ren (qp4 σ ts ms)
 (z1z (zqj σ1) h.dep ts,z1z (zsc σ1) h.dep ms)
def keys(l:List Item):List Nat:=l.map (·.1)
def isAny:AV→Bool
 |.any=>true
 |_=>false
def q2t(ts ms:List Item)(kill:List Nat)(n:Nat)(σ:St):St:=
 ⟨sel (fun t a=> !isAny a&&(!y7 (keys ts) t&&(!y7 kill t&&a.upto n))) σ.t,sel (fun k e=> !y7 (keys ms) k&&X.upto n e.x) σ.m⟩
def zjv:List Item→Nat→List (Nat×AV)→List (Nat×AV)
  |[],_,r=>r
  |(t,ty,own,dep)::l,n,r=>(t,if snB ty dep then .sn t (.v (.tok n) ty own dep) else .v (.tok n) ty own dep)::zjv l (n+1) r
def zh5:List Item→Nat→List (Nat×Ent)→List (Nat×Ent)
  |[],_,r=>r
  |(k,ty,own,dep)::l,n,r=>(k,⟨.tok n,ty,own,dep⟩)::zh5 l (n+1) r
def q3l(ts ms:List Item)(n:Nat)(σ:St):St:=⟨zjv ts n σ.t,zh5 ms (n+ts.length) σ.m⟩
inductive ResD where
 |normal
 |ret
 |exit(id:Nat)
def ResD.exit':ResD→Exit
 |.normal=>.normal
 |.ret=>.ret
 |.exit id=>.exit id
def q43:Code→Nat
 |.region id _ _=>id+1
 |.seq x y=>(match q43 x with
  |0=>q43 y
  |n+1=>n+1)
 |.cond _ x y=>(match q43 x with
  |0=>q43 y
  |n+1=>n+1)
 |.block _ c=>q43 c
 |.loop c=>q43 c
 |.scope c=>q43 c
 |_=>0
def z6h(N:List X)(t:Tree):Tree:=match N with
 |[]=>t
 |_=>.need N t
mutual
/-- The slices that a value owns. -/
def z8a:AV→List Nat
 |.v _ _ own _=>own.map (·.2)
 |.rd _ _ _ wr=>(match wr with
  |some (pin,_)=>[pin]
  |none=>[])
 |.tup l=>zhb l
 |.gd _ a=>z8a a
 |.fn _ l=>zhb l
 |.bx _ _ a=>z8a a
 |.ax _ _ _ a=>z8a a
 |.fr _ a=>z8a a
 |.sn _ a=>z8a a
 |.pt pin _ _ a=>pin::z8a a
 |_=>[]
def zhb:List AV→List Nat
 |[]=>[]
 |a::l=>z8a a++zhb l
end
def zai(kill:List Nat):List (Nat×AV)→List Nat
  |[]=>[]
  |(t,a)::l=>if y7 kill t then zai kill l else z8a a++zai kill l
def z9x(kill:List Nat):List (Nat×Ent)→List Nat
  |[]=>[]
  |(k,e)::l=>if y7 kill k then z9x kill l else e.own.map (·.2)++z9x kill l
def qf4(kill:List Nat)(σ:St):Nat→Bool:=fun y=> !Nat.beq (y % 16) 0&& !y7 (zai kill σ.t++z9x kill σ.m) y
def St.drop(kill:List Nat)(σ:St):St:=σ.un (qf4 kill σ)
def ziq(l:List Nat):D:=.r (l.map fun y=>.i (Int.ofNat y))
def zpp(own:List (Nat×Nat))(dep:List Nat):X:=.lit (.a [ziq (own.map (·.1)),ziq (own.map (·.2)),ziq dep])
def zdd(σ:St)(ts ms:List Item):List X:=(ts.map fun e=>match lkA σ.t e.1 with
 |some (.v _ _ own dep)=>zpp own dep
 |some .nilS=>.lit (.s ⟨#[]⟩)
 |some _=>.lit (.b false)
 |none=>.lit .u)++(ms.map fun e=>match lkA σ.m e.1 with
 |some e=>zpp e.own e.dep
 |none=>.lit .u)
def qkt:AV→AV
 |.v x ty own dep=>.v x ty [] (own.map (·.2)++dep)
 |a=>a
def qrz(e:Ent):Ent:=⟨e.x,e.t,[],e.own.map (·.2)++e.dep⟩
def z1y(ts:List Item)(k:Nat):Bool:=ts.any fun i=>uI i.1 k&&i.2.2.1.isEmpty
def qks(ts ms:List Item)(σ:St):St:=⟨σ.t.map fun e=>(e.1,if z1y ts e.1 then qkt e.2 else e.2),σ.m.map fun e=>(e.1,if z1y ms e.1 then qrz e.2 else e.2)⟩
def rdB(ts:List (Nat×Ty×Bool))(k:Nat):Bool:=ts.any fun i=>uI i.1 k&&i.2.2
def q4x(h:Head)(σ:St):St:=⟨σ.t.map fun e=>(e.1,if rdB h.ts e.1 then qkt e.2 else e.2),σ.m.map fun e=>(e.1,if y7 h.kill (1000000+e.1) then qrz e.2 else e.2)⟩
def zjg(id:Nat)(it:List Item×List Item)(kill:List Nat)(n:Nat)(σ:St)(body:Nat→St→(Nat→ResD→St→Tree)→Tree)(k:Nat→ResD→St→Tree):Tree:=match conv it.1 it.2 σ with
 | some (σ1, va, vb) => .loop (id - 1) n (va ++ vb) (body (n + (va ++ vb).length) (q3l it.1 it.2 n (q2t it.1 it.2 kill n σ1)) fun n' r σ' => match r with
  |.normal=>(match conv it.1 it.2 ((qks it.1 it.2 σ').drop kill) with
   |some (σ2,va',vb')=>if covers σ2 (q2t it.1 it.2 kill n σ1) then .back (id - 1) (va'++vb') else .bad (3000000+id)
   |none=>.need (zdd σ' it.1 it.2++((.lit (.b true))::zdd (σ'.ren (qp4 σ' it.1 it.2)) it.1 it.2)) (.bad (4000000+id)))
  |.ret=>k n' .ret σ'
  |.exit i=>k n' (.exit i) σ')
 |none=>.need (zdd σ it.1 it.2) (.bad (5000000+id))
def z9e(P:Program)(tbl:Tbl)(ds:List (Option Tmp)):Nat→St→List Oper→Nat
 |_,_,[]=>900
 |i,σ,o::l=>match stepG P tbl ds σ o with
  |some (_,σ')=>z9e P tbl ds (i+1) σ' l
  |none=>i
def zi8(P:Program)(T:TypeId):Bool:=match P.built T [],P.underlying T with
 |some c,some (.struct _)=>uI c.size 0
 |_,_=>false
def zkq(P:Program)(z:Nat):List Oper→Option TypeId
 |[o1,o2,o3]=>(match o1.op,o2.op,o3.op,o1.dst,o2.dst with
  |.build T ps,.makeInterface T' (.tmp a'),.panic (.tmp b'),some a,some b=>if uI T T'&&(uI a a'&&(uI b b'&&(uI ps.size 0&&(kJ a z&&(kJ b z&&(zi8 P T&&(o1.guard.isNone&&(o2.guard.isNone&&o3.guard.isNone)))))))) then some T else none
  |_,_,_,_,_=>none)
 |_=>none
def zv8(o:Option TypeId)(T:TypeId):Bool:=match o with
 |some T1=>uI T1 T
 |none=>false
def z2k(body:Nat→St→(Nat→ResD→St→Tree)→Tree)(k:Nat→ResD→St→Tree):Nat→Nat→St→Tree
 |0,_,_=>.bad 6000000
 |f+1,n,σ=>body n σ fun n' r σ'=>match r with
  |.normal=>z2k body k f n' σ'
  |.ret=>k n' .ret σ'
  |.exit i=>k n' (.exit i) σ'
def toT(P:Program)(tbl:Tbl)(ann:Ann)(lo z:Nat):Code→List Nat→Nat→St→(Nat→ResD→St→Tree)→Tree
 |.skip,_,n,σ,k=>k n .normal σ
 | .region id ops d, _, n, σ, k => (match zrl P tbl lo z σ ops.toList d with
  |some (N,σ')=>z6h N (k n .normal (prune ann.pub σ'))
  |none=>(match zkq P z ops.toList with
   |some T=>if tbl.any (fun e=>zv8 e.1.pn T)&& !d then .leaf [.lit .u] else .bad (id * 1000+z9e P tbl (dsts ops.toList) 0 σ ops.toList)
   |none=>.bad (id * 1000+z9e P tbl (dsts ops.toList) 0 σ ops.toList)))
 |.seq x y,ids,n,σ,k=>toT P tbl ann lo z x ids n σ fun n' r σ'=>match r with
  |.normal=>toT P tbl ann lo z y ids n' σ' k
  |.ret=>k n' .ret σ'
  |.exit i=>k n' (.exit i) σ'
 |.cond c x y,ids,n,σ,k=>(match opd σ [] c with
  |some (.v (.lit (.b true)) .bool _ _)=>toT P tbl ann lo z x ids n σ k
  |some (.v (.lit (.b false)) .bool _ _)=>toT P tbl ann lo z y ids n σ k
  |some (.v b .bool _ _)=>.br b (toT P tbl ann lo z x ids n σ k) (toT P tbl ann lo z y ids n σ k)
  |some (.nb b neg)=>.amb b neg (toT P tbl ann lo z x ids n σ k) (toT P tbl ann lo z y ids n σ k)
  |_=>.bad (1000000+q43 x))
 |.block id c,ids,n,σ,k=>toT P tbl ann lo z c ids n σ fun n' r σ'=>match r with
  |.exit i=>if uI i id then k n' .normal σ' else k n' (.exit i) σ'
  |.ret=>k n' .ret σ'
  |.normal=>k n' .normal σ'
 |.exit id,_,n,σ,k=>k n (.exit id) σ
 |.ret,_,n,σ,k=>k n .ret σ
 |.loop c,ids,n,σ,k=>(match lkA ann.heads (q43 c - 1) with
  |some h=>if y7 ids (q43 c - 1) then .bad (2000000+q43 c) else zjg (q43 c) (heads h ((q4x h σ).drop h.kill)) h.kill n ((q4x h σ).drop h.kill) (fun n' σ0=>toT P tbl ann lo z c ((q43 c - 1)::ids) n' σ0) k
  |none=>z2k (fun n' σ0=>toT P tbl ann lo z c ids n' σ0) k 128 n σ)
 |.label _,_,n,σ,k=>k n .normal σ
 |.scope c,ids,n,σ,k=>toT P tbl ann lo z c ids n σ k
 |_,_,_,_,_=>.bad 7000000
section
variable{c:Cx}{p:qi}{w w0:World}{S0:Nat→Prop}{a:Act}{σ σ':St}{d:List Deferred}{z:Nat}{tbl:Tbl}
theorem qv8:∀(x:AV){v:Value},x.pd c p w v→(qkt x).pd c p w v:=fun x v h=>by
 cases x with
 |v x ty own dep=>
  obtain⟨cs,hp,hc⟩:=h
  exact⟨cs,hp,Con.of_rd (hc.rd (fun _ h=>uP _ h) (fun _ h=>uR _ h))⟩
 |_=>exact h
theorem qt3(f:α→α)(q:Nat→Bool){t:Nat}:∀(l:List (Nat×α)){x:α},lkA (l.map fun e=>(e.1,if q e.1 then f e.2 else e.2)) t=some x→∃y,lkA l t=some y∧(x=y∨x=f y)
 |[],x,h=>by cases h
 | e :: l, x, h => by
  simp only[kQ,lkA] at h⊢
  split at h
  ·rename_i hk
   injection h with h
   subst h
   refine⟨e.2,if_pos hk,?_⟩
   split
   ·exact .inr rfl
   ·exact .inl rfl
  ·rename_i hk
   rw[if_neg hk]
   exact qt3 f q l h
theorem zan(ts ms:List Item)(hf:SF c σ p w a):SF c (qks ts ms σ) p w a:=by
 refine⟨fun t x hx=>?_,fun k e he=>?_⟩
 ·obtain⟨y,hy,h⟩:=qt3 qkt (z1y ts) σ.t hx
  obtain⟨u,h1,h2⟩:=hf.t t y hy
  refine⟨u,h1,?_⟩
  rcases h with rfl|rfl
  ·exact h2
  ·exact qv8 y h2
 ·obtain⟨y,hy,h⟩:=qt3 qrz (z1y ms) σ.m he
  obtain⟨g,cs,T,h1,h2,hty,h3⟩:=hf.m k y hy
  rcases h with rfl|rfl
  ·exact⟨g,cs,T,h1,h2,hty,h3⟩
  ·exact⟨g,cs,T,h1,h2,hty,Con.of_rd (h3.rd (fun _ h=>uP _ h) (fun _ h=>uR _ h))⟩
theorem zap(h:Head)(hf:SF c σ p w a):SF c (q4x h σ) p w a:=by
 refine⟨fun t x hx=>?_,fun k e he=>?_⟩
 ·obtain⟨y,hy,h⟩:=qt3 qkt (rdB h.ts) σ.t hx
  obtain⟨u,h1,h2⟩:=hf.t t y hy
  refine⟨u,h1,?_⟩
  rcases h with rfl|rfl
  ·exact h2
  ·exact qv8 y h2
 ·obtain⟨y,hy,h⟩:=qt3 qrz (fun k=>y7 h.kill (1000000+k)) σ.m he
  obtain⟨g,cs,T,h1,h2,hty,h3⟩:=hf.m k y hy
  rcases h with rfl|rfl
  ·exact⟨g,cs,T,h1,h2,hty,h3⟩
  ·exact⟨g,cs,T,h1,h2,hty,Con.of_rd (h3.rd (fun _ h=>uP _ h) (fun _ h=>uR _ h))⟩
theorem z1i:∀{ns:List X},q06 e ns→∀n∈ns,n.says e
 |[],_,n,hn=>by cases hn
 |x::l,h,n,hn=>by
  rcases uL.1 hn with rfl|hn
  ·exact h.1
  ·exact z1i h.2 n hn
theorem qwx{N:List X}{t:Tree}{l:List D}(h:(z6h N t).go S R l B):(∀n∈N,n.says (evl S l))∧t.go S R l B:=by
 unfold z6h at h
 split at h
 ·exact⟨(fun n hn=>by cases hn),h⟩
 ·exact⟨z1i h.1,h.2⟩
def ItT(sn:Nat→Value)(A:Nat→Prop)(p:qi)(w:World)(a:Act):List Item→List D→Prop
  |[],ds=>ds=[]
  |(t,ty,own,dep)::l,ds=>∃x r,ds=x::r∧(∃v cs,a.tmps[t]? =some v∧jd ty cs v∧Con A p w x ty own dep cs∧(snB ty dep=true→v=sn t))∧ItT sn A p w a l r
def ItM(A:Nat→Prop)(p:qi)(w:World):List Item→List D→Prop
  |[],ds=>ds=[]
  |(k,ty,own,dep)::l,ds=>∃x r,ds=x::r∧(∃g cs T,p (k * 16)=some g∧w.heap[g]? =some (.cells cs T (0,0))∧qk T=some ty∧Con A p w x ty own dep cs.toList)∧ItM A p w l r
theorem qj9{a b:List (Nat×Nat)}(h:qkk a b=true)(j:Nat):lkA a j=lkA b j:=by
 simp only[qkk,gnB] at h
 have sub:∀{a b:List (Nat×Nat)},z20 a b=true→∀{x},lkA a j=some x→lkA b j=some x:=fun{a b}h{x}hx=>by
  have:=uH.1 h _ (qx hx)
  split at this
  ·rename_i y hy
   have hy':lkA b j=some y:=hy
   rw[hy',gnN this]
  ·cases this
 cases ha:lkA a j with
 |some x=>exact(sub h.2.2.1 ha).symm
 |none=>
  cases hb:lkA b j with
  |none=>rfl
  |some x=>rw[sub h.2.2.2 hb] at ha;cases ha
theorem Con.same{own own':List (Nat×Nat)}(ho:∀j,lkA own j=lkA own' j){x:D}(h:Con A p w x t own dep cs):Con A p w x t own' dep cs:=by
 have hF:∀{ds:List D}{j:Nat}{fs:List Ty}{cs:List Value},Fls A p w dep own j ds fs cs→Fls A p w dep own' j ds fs cs:=by
  intro ds
  induction ds with
  |nil=>intro j fs cs h;exact h
  |cons d ds ih=>
   rintro j fs cs⟨t,ts,c1,c2,e1,e2,h1,h2⟩
   exact⟨t,ts,c1,c2,e1,e2,by rw[←ho];exact h1,ih h2⟩
 unfold Con at h⊢
 split
 ·obtain⟨fs,ds,hf,e,h⟩:=h
  exact⟨fs,ds,hf,e,hF h⟩
 ·rename_i hne
  split at h
  ·rename_i T;exact absurd rfl (hne T)
  ·rw[←ho]
   exact h
theorem z5k(hf:SF c σ p w a):∀{l:List Item}{xs:List X},its (itT σ) l=some xs→ItT c.snap c.A p w a l (X.evs c.v xs)
  | [], xs, h => by
    simp only[its,uE] at h
    subst h
    rfl
  | (t, ty, own, dep) :: l, xs, h => by
    unfold its at h
    split at h
    · rename_i x xs' hx hxs
      injection h with h
      subst h
      refine⟨_,_,rfl,?_,z5k hf hxs⟩
      unfold itT at hx
      simp only at hx
      split at hx
      · rename_i x' ty' own' dep' hl
        split at hx
        · rename_i hok
          simp only[gnB] at hok
          injection hx with hx
          subst hx
          obtain⟨v,hv,cs,hp,hc⟩:=hf.t t _ hl
          obtain⟨h0,h1,h2,h3⟩:=hok
          rw[Ty.beq_iff] at h1
          subst h1
          exact⟨v,cs,hv,hp,(hc.same (qj9 h2)).mono fun y hy=>yp.1 (uH.1 h3 y hy),fun hs=>by rw[hs] at h0;cases h0⟩
        · cases hx
      · rename_i q x' ty' own' dep' hl
        split at hx
        · rename_i hok
          simp only[gnB] at hok
          injection hx with hx
          subst hx
          obtain⟨v,hv,he,cs,hp,hc⟩:=hf.t t _ hl
          obtain⟨h0,hq,h1,h2,h3⟩:=hok
          rw[Ty.beq_iff] at h1
          subst h1
          obtain rfl:=gnN hq
          exact⟨v,cs,hv,hp,(hc.same (qj9 h2)).mono fun y hy=>yp.1 (uH.1 h3 y hy),fun _=>he⟩
        · cases hx
      · rename_i hl
        split at hx
        · rename_i E
          split at hx
          · rename_i hE
            injection hx with hx
            subst hx
            obtain⟨te,hte⟩:=uY.1 hE
            obtain⟨v,hv,rfl⟩:=hf.t t _ hl
            refine⟨_,[.slice none 0 0],hv,qsu rfl,?_,fun hs=>by cases hs⟩
            show Fl c.A p w dep (lkA own 0) (.r []) (.row E) _
            cases lkA own 0 with
            |none=>exact⟨E,te,none,0,rfl,hte,rfl,by simp,by simp,by simp[maxLen],by simp[RdE]⟩
            |some pin=>exact .inl ⟨E,te,[],_,rfl,hte,rfl,rfl,.inl ⟨rfl,rfl⟩⟩
          · cases hx
        · cases hx
      · cases hx
    · cases h
theorem z7q(hf:SF c σ p w a):∀{l:List Item}{xs:List X},its (itM σ) l=some xs→ItM c.A p w l (X.evs c.v xs)
  | [], xs, h => by
    simp only[its,uE] at h
    subst h
    rfl
  | (k, ty, own, dep) :: l, xs, h => by
    unfold its at h
    split at h
    · rename_i x xs' hx hxs
      injection h with h
      subst h
      refine⟨_,_,rfl,?_,z7q hf hxs⟩
      unfold itM at hx
      simp only at hx
      split at hx
      · rename_i e he
        split at hx
        · rename_i hok
          simp only[gnB] at hok
          injection hx with hx
          subst hx
          obtain⟨g,cs,T,hg,hh,hty,hc⟩:=hf.m k _ he
          obtain⟨h1,h2,h3⟩:=hok
          rw[Ty.beq_iff] at h1
          rw[h1] at hc
          exact⟨g,cs,T,hg,hh,h1▸hty,(hc.same (qj9 h2)).mono fun y hy=>yp.1 (uH.1 h3 y hy)⟩
        · cases hx
      · cases hx
    · cases h
theorem qlt{f:Item→Option X}:∀{l:List Item}{xs:List X},its f l=some xs→xs.length=l.length
 |[],xs,h=>by
  simp only[its,uE] at h
  subst h
  rfl
 | i :: l, xs, h => by
  unfold its at h
  split at h
  ·rename_i x xs' hx hxs
   injection h with h
   subst h
   simp[qlt hxs]
  ·cases h
theorem qdr(l m:List X):X.evs e (l++m)=X.evs e l++X.evs e m:=by
 induction l with
 |nil=>rfl
 |cons x l ih=>simp[X.evs,ih]
theorem zcl{r:List (Nat×AV)}(hr:∀t x,lkA r t=some x→∃v,a.tmps[t]? =some v∧x.pd c p w v):∀{l:List Item}{n:Nat}{ds:List D},ItT c.snap c.A p w a l ds→(∀i,i<ds.length→c.v.E (n+i)=ds.getD i .u)→
    ∀t x,lkA (zjv l n r) t=some x→∃v,a.tmps[t]? =some v∧x.pd c p w v
  |[],n,ds,_,_,t,x,h=>hr t x h
  | (s, ty, own, dep) :: l, n, ds, h, hE, t, x, hx => by
    obtain⟨y,ys,rfl,⟨v,cs,hv,hp,hc,hsn⟩,hl⟩:=h
    by_cases hst:s=t
    · subst hst
      simp only[zjv] at hx
      rw[qa] at hx
      injection hx with hx
      subst hx
      have:=hE 0 (by simp)
      simp only[kU,kH] at this
      have hcon:Con c.A p w (c.v.E n) ty own dep cs:=by
        rw[this]
        exact hc
      refine⟨v,hv,?_⟩
      split
      · rename_i hs
        exact⟨hsn hs,cs,hp,hcon⟩
      · exact⟨cs,hp,hcon⟩
    · simp only[zjv] at hx
      rw[qd hst] at hx
      refine zcl hr hl (n:=n+1) (fun i hi=>?_) t x hx
      have:=hE (i+1) (by simp;omega)
      rw[show n+1+i=n+(i+1) by omega,this]
      simp
theorem zb4{r:List (Nat×Ent)}(hr:∀k e,lkA r k=some e→q1j c p w k e):∀{l:List Item}{n:Nat}{ds:List D},ItM c.A p w l ds→(∀i,i<ds.length→c.v.E (n+i)=ds.getD i .u)→
    ∀k e,lkA (zh5 l n r) k=some e→q1j c p w k e
  |[],n,ds,_,_,t,x,h=>hr t x h
  | (s, ty, own, dep) :: l, n, ds, h, hE, t, x, hx => by
    obtain⟨y,ys,rfl,⟨g,cs,T,hg,hh,hty,hc⟩,hl⟩:=h
    by_cases hst:s=t
    · subst hst
      simp only[zh5] at hx
      rw[qa] at hx
      injection hx with hx
      subst hx
      refine⟨g,cs,T,hg,hh,hty,?_⟩
      have:=hE 0 (by simp)
      simp only[kU,kH] at this
      show Con c.A p w (c.v.E n) ty own dep cs.toList
      rw[this]
      exact hc
    · simp only[zh5] at hx
      rw[qd hst] at hx
      refine zb4 hr hl (n:=n+1) (fun i hi=>?_) t x hx
      have:=hE (i+1) (by simp;omega)
      rw[show n+1+i=n+(i+1) by omega,this]
      simp
theorem z4j{sn:Nat→Value}:∀{l:List Item}{ds:List D},ItT sn A p w a l ds→ds.length=l.length
  |[],ds,h=>by cases h;rfl
  |(_,_,_,_)::l,ds,⟨x,r,e,_,h⟩=>by subst e;simp[z4j h]
theorem zc5:∀{l:List Item}{ds:List D},ItM A p w l ds→ds.length=l.length
  |[],ds,h=>by cases h;rfl
  |(_,_,_,_)::l,ds,⟨x,r,e,_,h⟩=>by subst e;simp[zc5 h]
theorem qs8{c':Cx}(hS:c.v.S=c'.v.S)(hA:c.A=c'.A)(hT:c.At=c'.At∧c.snap=c'.snap∧c.F=c'.F){ts ms:List Item}{n:Nat}{σ1:St}{da db:List D}(hE:∀k,k<n→c.v.E k=c'.v.E k)(hE':∀i,i<(da++db).length→c'.v.E (n+i)=(da++db).getD i .u)
  (hf:SF c (q2t ts ms kill n σ1) p w a)(ht:ItT c.snap c.A p w a ts da)(hm:ItM c.A p w ms db):SF c' (q3l ts ms n (q2t ts ms kill n σ1)) p w a:=by
 have hla:=z4j ht
 rw[hA,hT.2.1] at ht
 rw[hA] at hm
 refine⟨zcl (fun t x hx=>?_) ht (fun i hi=>?_),zb4 (fun k e he=>?_) hm (fun i hi=>?_)⟩
 ·obtain⟨v,h1,h2⟩:=hf.t t x hx
  have hq:=(z2j hx).2
  simp only[gnB] at hq
  exact⟨v,h1,AV.pd_upto hE hS hA hT x v hq.2.2.2 h2⟩
 ·rw[hE' i (by simp;omega)]
  simp[gnG,uJ hi]
 ·have hq:=(z2j he).2
  simp only[gnB] at hq
  exact q1j.upto hE hS hA hT hq.2 (hf.m k e he)
 ·rw[show n+ts.length+i=n+(ts.length+i) by omega,hE' (ts.length+i) (by simp;omega)]
  rw[←hla]
  simp[gnG,kA]
theorem qkd{ts ms:List Item}{n:Nat}(hf:SF c σ p w a):SF c (q2t ts ms kill n σ) p w a:=⟨fun t x hx=>hf.t t x (z2j hx).1,fun k e he=>hf.m k e (z2j he).1⟩
def Cx.at(c:Cx)(S:Nat→List D→Option (List D))(l:List D):Cx:=⟨evl S l,c.A,c.F,c.lo,c.At,c.new,c.snap⟩
theorem getD_take{l:List D}{n k:Nat}(h:k<n)(m:List D)(hn:n≤l.length):(l.take n++m).getD k .u=l.getD k .u:=by
 simp only[gnG]
 rw[uJ (by simp;omega),kC h]
theorem zqw(ro:Option Nat)(nn:Nat){id:Nat}{ops:Array Oper}{T:TypeId}(hT:zkq uA z ops.toList=some T)(hq:∀a',a'.defers=d→Q (.panic (qbs T)) a' w)(hd:a.defers=d)(hz:a.tmps.size=z):
  (Code.region id ops false).wpIn (FR ro) nn uA Q a w:=by
 obtain⟨l⟩:=ops
 have hT:zkq uA z l=some T:=hT
 unfold zkq at hT
 split at hT
 ·rename_i o1 o2 o3 _
  split at hT
  ·rename_i T1 ps T2 a' b' a1 b1 e1 e2 e3 d1 d2
   split at hT
   ·rename_i hok
    injection hT with hT
    subst hT
    simp only[gnB] at hok
    obtain⟨k1,k2,k3,k4,k5,k6,k7,k8,k9,k10⟩:=hok
    obtain rfl:=gnN k1
    obtain rfl:=gnN k2
    obtain rfl:=gnN k3
    have k4:ps= #[]:=uU (gnN k4)
    subst k4
    rw[kW] at k5 k6
    obtain⟨hbt,fs,hu⟩:uA.built T1 []=some #[]∧∃fs,uA.underlying T1=some (.struct fs):=by
     unfold zi8 at k7
     split at k7
     ·rename_i c fs hc hu
      exact⟨by rw[hc,uU (gnN k7)],fs,hu⟩
     ·cases k7
    refine wpIn_region ?_
    have:wpOpsIn (FR ro) nn uA [o1,o2,o3].toArray Q (kE 0 3)=wpListIn (FR ro) nn uA [o1,o2,o3].toArray Q [o1,o2,o3]:=wpOpsIn_eq_wpListIn [o1,o2,o3] 0 (fun j=>by simp)
    rw[show uN (Array.mk [o1,o2,o3]).size=kE 0 3 by simp[List.range_eq_range']]
    show wpOpsIn (FR ro) nn uA [o1,o2,o3].toArray Q (kE 0 3) a w
    rw[this]
    have hw:∀{o:Oper}{y:Nat→Option Bool},o.guard.isNone=true→Region.wanted o y=true:=fun{o}{y}h=>by
     unfold Region.wanted
     cases hg:o.guard with
     |none=>rfl
     |some g=>rw[hg] at h;cases h
    simp only[wpListIn,hw k8,hw k9,hw k10,if_true]
    refine Oper.wp_round ro (by rw[e1];simp) ?_
    unfold Oper.wp
    have r1:(execOp a.eval o1).run uA w=.ok (.value (.agg #[])) w:=by
     have:=run_build (P:=uA) w T1 #[] #[] hbt
     simp[execOp,e1,this]
    rw[r1]
    show Oper.wpIn _ _ _ _ (a.put o1.dst _) w _ _
    refine Oper.wp_round ro (by rw[e2];simp) ?_
    unfold Oper.wp
    have v1:(a.put o1.dst (.agg #[])).eval (.tmp a1)=.agg #[]:=by
     rw[d1]
     simp[Act.put,Act.eval,hz,k5]
    have r2:(execOp (a.put o1.dst (.agg #[])).eval o2).run uA w=.ok (.value (.iface T1 (.agg #[]))) w:=by
     rw[show(a.put o1.dst (.agg #[])).eval=fun y=>(a.put o1.dst (.agg #[])).eval y from rfl]
     simp[execOp,e2,v1,Instr.makeInterface,run_underlying hu]
    rw[r2]
    show Oper.wpIn _ _ _ _ ((a.put o1.dst _).put o2.dst _) w _ _
    refine Oper.wp_round ro (by rw[e3];simp) ?_
    unfold Oper.wp
    have v2:((a.put o1.dst (.agg #[])).put o2.dst (.iface T1 (.agg #[]))).eval (.tmp b1)=.iface T1 (.agg #[]):=by
     rw[d1,d2]
     simp[Act.put,Act.eval,hz,k6]
    have r3:(execOp ((a.put o1.dst (.agg #[])).put o2.dst (.iface T1 (.agg #[]))).eval o3).run uA w=.halt (.panic (.iface T1 (.agg #[]))) w:=by
     simp[execOp,e3,v2,Instr.panic]
    rw[r3]
    exact hq _ (by rw[d1,d2];exact hd)
   ·cases hT
  ·cases hT
 ·cases hT
set_option maxHeartbeats 1000000 in
theorem qo5(ro:Option Nat)(nn:Nat)(htb:q0r tbl)(hfm:∀te,c.F.mx te≤flM tbl te){ann:Ann}:∀(cd:Code){ids:List Nat}{n:Nat}{σ:St}{k:Nat→ResD→St→Tree}{l:List D}{B:Nat→List D→Prop}{p:qi}{w:World}{a:Act}{Q:Exit→Act→World→Prop},
  (toT uA tbl ann c.lo z cd ids n σ k).go (qe tbl) R l B→l.length=n→Bs c.A c.F w0 S0 p w→SF (c.at (qe tbl) l) σ p w a→a.defers=d→a.tmps.size=z→qjd tbl w0 S0 d Q→zt0 tbl R w0 S0 d Q→
  (∀n' r σ' l' B' p' w' a',l'.length=n'→l'.take n=l→(∀id∈ids,B' id=B id)→(k n' r σ').go (qe tbl) R l' B'→Bs c.A c.F w0 S0 p' w'→SF (c.at (qe tbl) l') σ' p' w' a'→a'.defers=d→a'.tmps.size=z→Q r.exit' a' w')→cd.wpIn (FR ro) nn uA Q a w:=by
 intro cd
 induction cd with
 |skip=>
  intro ids n σ k l B p w a Q h hl hb hf hd hz hQ hR hk
  exact wpIn_skip (hk n .normal σ l B p w a hl (by rw[←hl];exact uC) (fun _ _=>rfl) h hb hf hd hz)
 | region id ops dr =>
  intro ids n σ k l B p w a Q h hl hb hf hd hz hQ hR hk
  simp only[toT] at h
  split at h
  ·rename_i N σ1 h1
   obtain⟨hN,hgo⟩:=qwx h
   exact znb ro nn (c:=c.at (qe tbl) l) htb ⟨rfl,hfm⟩ h1 hN hb hf hd hz hQ fun a' w'⟨p',hb',hf',hd',hz'⟩=>hk n .normal (prune ann.pub σ1) l B p' w' a' hl (by rw[←hl];exact uC) (fun _ _=>rfl) hgo hb' (zjt hf') hd' hz'
  ·split at h
   ·rename_i T hT
    split at h
    ·rename_i hok
     have hdr:dr=false:=by
      cases dr with
      |false=>rfl
      |true=>simp at hok
     subst hdr
     have hok:=(Bool.and_eq_true_iff.1 hok).1
     obtain⟨e,he,hp⟩:=kL.1 hok
     have hp:e.1.pn=some T:=by
      unfold zv8 at hp
      split at hp
      ·rename_i T' hT'
       rw[hT',gnN hp]
      ·cases hp
     exact zqw ro nn hT (fun a' h1=>hR h e he T hp a' w h1 hb.but) hd hz
    ·exact h.elim
   ·exact h.elim
 | seq x y ihx ihy =>
  intro ids n σ k l B p w a Q h hl hb hf hd hz hQ hR hk
  simp only[toT] at h
  refine wpIn_seq (ihx h hl hb hf hd hz hQ hR fun n' r σ' l' B' p' w' a' hl' hpre hB hgo hb' hf' hd' hz'=>?_)
  cases r with
  | normal =>
   refine ihy hgo hl' hb' hf' hd' hz' hQ hR fun n2 r2 σ2 l2 B2 p2 w2 a2 hl2 hpre2 hB2 hgo2 hb2 hf2 hd2 hz2=>hk n2 r2 σ2 l2 B2 p2 w2 a2 hl2 ?_ (fun id hid=>(hB2 id hid).trans (hB id hid)) hgo2 hb2 hf2 hd2 hz2
   have hnn:n≤n':=by
    have:=congrArg kF hpre
    simp at this
    omega
   rw[←hpre,←hpre2,uQ,uX hnn]
  |ret=>exact hk n' .ret σ' l' B' p' w' a' hl' hpre hB hgo hb' hf' hd' hz'
  |exit i=>exact hk n' (.exit i) σ' l' B' p' w' a' hl' hpre hB hgo hb' hf' hd' hz'
 | cond b x y ihx ihy =>
  intro ids n σ k l B p w a Q h hl hb hf hd hz hQ hR hk
  simp only[toT] at h
  split at h
  ·rename_i hc
   obtain⟨u,e1,e2⟩:=q38 (qp hf rfl hc)
   obtain rfl:true=u:=by have:D.b true=D.b u:=e1;injection this
   exact wpIn_cond_true e2 (ihx h hl hb hf hd hz hQ hR hk)
  ·rename_i hc
   obtain⟨u,e1,e2⟩:=q38 (qp hf rfl hc)
   obtain rfl:false=u:=by have:D.b false=D.b u:=e1;injection this
   exact wpIn_cond_false e2 (ihy h hl hb hf hd hz hQ hR hk)
  ·rename_i q _ _ _ _ hc
   obtain⟨u,e1,e2⟩:=q38 (qp hf rfl hc)
   have e1':(q.ev (evl (qe tbl) l))=.b u:=e1
   cases u with
   |true=>exact wpIn_cond_true e2 (ihx (h.1 (by rw[e1'];rfl)) hl hb hf hd hz hQ hR hk)
   |false=>exact wpIn_cond_false e2 (ihy (h.2 (by rw[e1'];rfl)) hl hb hf hd hz hQ hR hk)
  ·rename_i q neg hc
   obtain⟨u,e1,e2⟩:=qp hf rfl hc
   cases u with
   |true=>exact wpIn_cond_true e1 (ihx (h.1 (fun hn=>e2 (by rw[hn];rfl))) hl hb hf hd hz hQ hR hk)
   |false=>exact wpIn_cond_false e1 (ihy (h.2 (fun hn=>e2 (by rw[hn];rfl))) hl hb hf hd hz hQ hR hk)
  ·exact h.elim
 | block id cd ih =>
  intro ids n σ k l B p w a Q h hl hb hf hd hz hQ hR hk
  simp only[toT] at h
  refine wpIn_block (ih h hl hb hf hd hz hQ hR fun n' r σ' l' B' p' w' a' hl' hpre hB hgo hb' hf' hd' hz'=>?_)
  cases r with
  |normal=>exact hk n' .normal σ' l' B' p' w' a' hl' hpre hB hgo hb' hf' hd' hz'
  |ret=>exact hk n' .ret σ' l' B' p' w' a' hl' hpre hB hgo hb' hf' hd' hz'
  | exit i =>
   show Exit.inBlock id Q (.exit i) a' w'
   simp only at hgo
   by_cases hi:i=id
   ·rw[if_pos (by rw[hi];exact kT id)] at hgo
    simp only[Exit.inBlock,if_pos hi]
    exact hk n' .normal σ' l' B' p' w' a' hl' hpre hB hgo hb' hf' hd' hz'
   ·rw[if_neg (fun e=>hi (gnN e))] at hgo
    simp only[Exit.inBlock,if_neg hi]
    exact hk n' (.exit i) σ' l' B' p' w' a' hl' hpre hB hgo hb' hf' hd' hz'
 |exit id=>
  intro ids n σ k l B p w a Q h hl hb hf hd hz hQ hR hk
  exact wpIn_exit (hk n (.exit id) σ l B p w a hl (by rw[←hl];exact uC) (fun _ _=>rfl) h hb hf hd hz)
 |ret=>
  intro ids n σ k l B p w a Q h hl hb hf hd hz hQ hR hk
  exact wpIn_ret (hk n .ret σ l B p w a hl (by rw[←hl];exact uC) (fun _ _=>rfl) h hb hf hd hz)
 |label s=>
  intro ids n σ k l B p w a Q h hl hb hf hd hz hQ hR hk
  exact wpIn_label (hk n .normal σ l B p w a hl (by rw[←hl];exact uC) (fun _ _=>rfl) h hb hf hd hz)
 |scope cd ih=>
  intro ids n σ k l B p w a Q h hl hb hf hd hz hQ hR hk
  simp only[toT] at h
  refine qi9 (ih h hl hb hf hd hz hQ hR fun n' r σ' l' B' p' w' a' hl' hpre hB hgo hb' hf' hd' hz'=>?_)
  have:=hk n' r σ' l' B' p' w' a' hl' hpre hB hgo hb' hf' hd' hz'
  cases r<;>exact this
 | loop cd ih =>
  intro ids n σ k l B p w a Q h hl hb0 hf0 hd hz hQ hR hk
  simp only[toT] at h
  split at h
  ·rename_i hh hann
   split at h
   ·exact h.elim
   ·rename_i hids
    have hb:=hb0.un (qf4 hh.kill (q4x hh σ))
    have hf:=SF.un (c:=c.at (qe tbl) l) (q:=qf4 hh.kill (q4x hh σ)) hb0.inj hb0.pa (zap hh hf0)
    change (zjg _ (heads hh ((q4x hh σ).un (qf4 hh.kill (q4x hh σ)))) hh.kill n ((q4x hh σ).un (qf4 hh.kill (q4x hh σ))) _ k).go _ _ _ _ at h
    generalize heads hh ((q4x hh σ).un (qf4 hh.kill (q4x hh σ)))=it at h
    generalize (q4x hh σ).un (qf4 hh.kill (q4x hh σ))=σ at h hf
    obtain⟨ts,ms⟩:=it
    unfold zjg at h
    simp only at h
    split at h
    ·rename_i σ1 va vb hcv
     unfold conv at hcv
     split at hcv
     ·rename_i hrb
      split at hcv
      ·rename_i va' vb' hva hvb
       simp only[gnS] at hcv
       obtain⟨rfl,rfl,rfl⟩:=hcv
       obtain⟨I,μ,hI,hbody⟩:=h
       obtain⟨p1,hb1,hf1⟩:=qma (c:=c.at (qe tbl) l) hrb hb hf
       -- the rounds
       have key:∀(m:Nat)(da db:List D)(l2:List D)(p:qi)(w:World)(a:Act),n≤l2.length→l2.take n=l→I (da++db)→μ (da++db)<m→Bs c.A c.F w0 S0 p w→SF (c.at (qe tbl) l2) (q2t ts ms hh.kill n (σ.ren (qp4 σ ts ms))) p w a→ItT c.snap c.A p w a ts da→ItM c.A p w ms db→a.defers=d→a.tmps.size=z→
         Code.roundsIn (FR ro) nn uA cd Q m a w:=by
        intro m
        induction m with
        |zero=>intro da db l2 p w a _ _ _ hm;omega
        | succ m ihm =>
         intro da db l2 p w a hn2 hl2 hIs hm hb hf hta htb' hd hz
         rw[roundsIn_succ]
         have hlen:(da++db).length=(va'++vb').length:=by
          rw[uT,uT,z4j hta,zc5 htb',qlt hva,qlt hvb]
         have hgo:=hbody (da++db) hlen hIs
         have hln:(l.take n++(da++db)).length=n+(va'++vb').length:=by
          rw[uT,hlen]
          simp[hl]
         have hlt:l.take n=l:=by rw[←hl];exact uC
         have hhead:SF (c.at (qe tbl) (l.take n++(da++db))) (q3l ts ms n (q2t ts ms hh.kill n (σ.ren (qp4 σ ts ms)))) p w a:=
          qs8 (c:=c.at (qe tbl) l2) (c':=c.at (qe tbl) (l.take n++(da++db))) rfl rfl ⟨rfl,rfl,rfl⟩ (fun k hk=>by
           show l2.getD k .u=(l.take n++(da++db)).getD k .u
           rw[getD_take hk _ (by omega),←hl2]
           simp only[gnG]
           rw[kC hk]) (fun i hi=>by
           show(l.take n++(da++db)).getD (n+i) .u=_
           simp only[gnG]
           rw[kA (by simp;omega)]
           congr 2
           simp
           omega) hf hta htb'
         refine ih hgo hln hb hhead hd hz hQ hR fun n' r σ' l' B' p' w' a' hl' hpre hB hgo' hb' hf' hd' hz'=>?_
         have hpre':l'.take n=l:=by
          have h1:(l'.take (n+(va'++vb').length)).take n=(l.take n++(da++db)).take n:=by rw[hpre]
          rw[uQ,uX (Nat.le_add_right _ _)] at h1
          rw[h1,uV (by simp;omega),uQ,Nat.min_self,hlt]
         have hBo:∀id∈ids,B' id=B id:=fun id hid=>by
          rw[hB id (uB _ hid)]
          unfold q2r
          rw[if_neg]
          intro e
          subst e
          exact hids (yp.2 hid)
         cases r with
         |ret=>exact hk n' .ret σ' l' B' p' w' a' hl' hpre' hBo hgo' hb' hf' hd' hz'
         |exit i=>exact hk n' (.exit i) σ' l' B' p' w' a' hl' hpre' hBo hgo' hb' hf' hd' hz'
         | normal =>
          simp only at hgo'
          have hf'':=SF.un (c:=c.at (qe tbl) l') (q:=qf4 hh.kill (qks ts ms σ')) hb'.inj hb'.pa (zan ts ms hf')
          have hb'':=hb'.un (qf4 hh.kill (qks ts ms σ'))
          change SF _ ((qks ts ms σ').drop hh.kill) _ _ _ at hf''
          split at hgo'
          ·rename_i σ2 wa wb hcv2
           split at hgo'
           ·rename_i hcov
            unfold conv at hcv2
            split at hcv2
            ·rename_i hrb2
             split at hcv2
             ·rename_i wa' wb' hwa hwb
              simp only[gnS] at hcv2
              obtain⟨rfl,rfl,rfl⟩:=hcv2
              obtain⟨p2,hb2,hf2⟩:=qma (c:=c.at (qe tbl) l') hrb2 hb'' hf''
              have hbk:B' (q43 cd - 1) (X.evs (evl (qe tbl) l') (wa'++wb')):=hgo'
              rw[hB _ uD] at hbk
              unfold q2r at hbk
              rw[if_pos rfl,qdr] at hbk
              have hnl:n≤l'.length:=by
               have:=congrArg kF hpre'
               simp at this
               omega
              show Exit.then (Code.roundsIn (FR ro) nn uA cd Q m) Q .normal a' w'
              exact ihm (X.evs (evl (qe tbl) l') wa') (X.evs (evl (qe tbl) l') wb') l' p2 w' a' hnl hpre' hbk.1 (by have:=hbk.2;omega) hb2 (q3b hcov hf2) (z5k hf2 hwa) (z7q hf2 hwb) hd' hz'
             ·cases hcv2
            ·cases hcv2
           ·exact hgo'.elim
          ·exact hgo'.2.elim
       rw[qdr] at hI
       exact wpIn_loop_rounds _ (key (μ (X.evs (evl (qe tbl) l) va'++X.evs (evl (qe tbl) l) vb')+1) _ _ l p1 w a (by omega) (by rw[←hl];exact uC) hI (kN _) hb1 (qkd hf1) (z5k hf1 hva) (z7q hf1 hvb) hd hz)
      ·cases hcv
     ·cases hcv
    ·exact h.2.elim
  ·have key:∀(m:Nat){n1:Nat}{σ:St}{l1:List D}{B1:Nat→List D→Prop}{p:qi}{w:World}{a:Act},(z2k (fun n' σ0=>toT uA tbl ann c.lo z cd ids n' σ0) k m n1 σ).go (qe tbl) R l1 B1→l1.length=n1→n≤n1→l1.take n=l→(∀id∈ids,B1 id=B id)→Bs c.A c.F w0 S0 p w→SF (c.at (qe tbl) l1) σ p w a→a.defers=d→a.tmps.size=z→Code.roundsIn (FR ro) nn uA cd Q m a w:=by
    intro m
    induction m with
    |zero=>intro n1 σ l1 B1 p w a h;exact h.elim
    | succ m ihm =>
     intro n1 σ l1 B1 p w a h hl1 hn1 hp1 hB1 hb hf hd hz
     rw[roundsIn_succ]
     refine ih h hl1 hb hf hd hz hQ hR fun n' r σ' l' B' p' w' a' hl' hpre hB hgo' hb' hf' hd' hz'=>?_
     have hpre':l'.take n=l:=by
      rw[←hp1,←hpre,uQ,uX hn1]
     have hBo:∀id∈ids,B' id=B id:=fun id hid=>(hB id hid).trans (hB1 id hid)
     have hle:n≤n':=by
      have h1:=congrArg kF hpre
      rw[List.length_take,hl1] at h1
      omega
     cases r with
     |ret=>exact hk n' .ret σ' l' B' p' w' a' hl' hpre' hBo hgo' hb' hf' hd' hz'
     |exit i=>exact hk n' (.exit i) σ' l' B' p' w' a' hl' hpre' hBo hgo' hb' hf' hd' hz'
     |normal=>exact ihm hgo' hl' hle hpre' hBo hb' hf' hd' hz'
   exact wpIn_loop_rounds _ (key 128 h hl (uF _) (by rw[←hl];exact uC) (fun _ _=>rfl) hb0 hf0 hd hz)
 |_=>intro ids n σ k l B p w a Q h;exact h.elim
end
end
variable{c:Cx}{i:Nat}{V vs:List Value}{fn:Func}{tmps:Array Value}{x:X}{ds:List D}{tbl:Tbl}{F:Flr}{P:Nat→Prop}{d:D}{g:List D→Option (List D)}
section
abbrev Rs:=List (ResultVar×Ty×Bool)
def zvk(σ:St):ResultVar→List (Nat×Nat)
 |.tmp s=>(match lkA σ.t s with
  |some (.v _ _ own _)=>own
  |_=>[])
 | .cell s _ => match lkA σ.t s with
  |some (.ref k _ _ _)=>(match lkA σ.m k with
   |some e=>e.own
   |none=>[])
  |_=>[]
def qgc(σ:St):Rs→Nat→List (Nat×Nat)
 |[],_=>[]
 |(rv,t,own)::l,n=>(if own then pairUp (zvk σ rv) (qq n t) else[])++qgc σ l (n+1)
def qcy(σ:St):List (Nat×Ar)→List (Nat×Nat)
  |[]=>[]
  | (i, .ref t o) :: l => (match lkA σ.m i with
    |some e=>pairUp e.own (qmw o i t)
    |none=>[])++qcy σ l
  |(i,.mref t)::l=>pairUp (ztg σ i) (qq i t)++qcy σ l
  |_::l=>qcy σ l
def qa6:List (Nat×Ar)→List Nat
  |[]=>[]
  |(i,.ref _ _)::l=>i * 16::qa6 l
  |_::l=>qa6 l
mutual
/-- The value holds a pointer to the variable. -/
def AV.has(i:Nat):AV→Bool
 |.ref k _ _ _=>uI k i
 |.fn _ l=>z55 i l
 |.bx _ _ a=>AV.has i a
 |.fr _ a=>AV.has i a
 |.sn _ a=>AV.has i a
 |_=>false
def z55(i:Nat):List AV→Bool
 |[]=>false
 |a::l=>AV.has i a||z55 i l
end
mutual
theorem AV.has_ok{w:World}:∀(a:AV){v:Value},a.has i=true→a.pd c p w v→∃g,p (i * 16)=some g∧c.At i g
 |.ref k _ _ _,v,h,hx=>by
  have h:=gnN h
  subst h
  obtain⟨g,hg,-,hat⟩:=hx
  exact⟨g,hg,hat⟩
 |.fn _ l,v,h,hx=>by
  obtain⟨vs,-,hl⟩:=hx
  exact z5c l (by simpa[AV.has] using h) hl
 |.bx _ _ a,v,h,hx=>by
  obtain⟨g,u,-,-,-,hu⟩:=hx
  exact AV.has_ok a (by simpa[AV.has] using h) hu
 |.fr _ a,v,h,hx=>by
  obtain⟨g,u,-,-,-,-,hu⟩:=hx
  exact AV.has_ok a (by simpa[AV.has] using h) hu
 |.ff _ _ _ _ _ _ _ _,v,h,_=>by simp[AV.has] at h
 |.sn _ a,v,h,hx=>AV.has_ok a (by simpa[AV.has] using h) hx.2
 |.any,v,h,_=>by simp[AV.has] at h
 |.undef,v,h,_=>by simp[AV.has] at h
 |.v _ _ _ _,v,h,_=>by simp[AV.has] at h
 |.nilS,v,h,_=>by simp[AV.has] at h
 |.nilP,v,h,_=>by simp[AV.has] at h
 |.rd _ _ _ _,v,h,_=>by simp[AV.has] at h
 |.tup _,v,h,_=>by simp[AV.has] at h
 |.gd _ _,v,h,_=>by simp[AV.has] at h
 |.nb _ _,v,h,_=>by simp[AV.has] at h
 |.pt _ _ _ _,v,h,_=>by simp[AV.has] at h
 |.ar _ _ _,v,h,_=>by simp[AV.has] at h
 |.lv _ _,v,h,_=>by simp[AV.has] at h
 |.ax _ _ _ _,v,h,_=>by simp[AV.has] at h
theorem z5c{w:World}:∀(l:List AV){vs:List Value},z55 i l=true→pds c p w l vs→∃g,p (i * 16)=some g∧c.At i g
 |[],vs,h,_=>by simp[z55] at h
 |a::l,vs,h,hx=>by
  obtain⟨v,r,rfl,h1,h2⟩:=hx
  simp only[z55,Bool.or_eq_true] at h
  rcases h with h|h
  ·exact AV.has_ok a h h1
  ·exact z5c l h h2
end
def q5s(σ:St):List ResultVar→List Nat
 |[]=>[]
 |.cell s _::l=>(match lkA σ.t s with
  |some (.ref k _ _ _)=>k * 16::q5s σ l
  |_=>q5s σ l)
 |_::l=>q5s σ l
def z31(σ:St)(n:Nat)(rv:ResultVar)(t:Ty)(own:Bool):Option X:=match rv with
 |.tmp s=>itT σ (s,t,if own then qq n t else[],[])
 |.cell s T=>match lkA σ.t s with
  |some (.ref k [] 0 t')=>if qhn T t&&Ty.beq t' t then itM σ (k,t,if own then qq n t else[],[]) else none
  |_=>none
def zgm(σ:St):Rs→Nat→Option (List X)
  |[],_=>some []
  | (rv, t, own) :: l, n => match z31 σ n rv t own, zgm σ l (n + 1) with
    |some x,some xs=>some (x::xs)
    |_,_=>none
def ztu(σ:St)(n i:Nat):Bool:=(uN n).any fun t=>match lkA σ.t t with
 |some a=>a.has i
 |none=>false
def z1w(σ:St)(n:Nat):List (Nat×Ar)→Option (List X)
  |[]=>some []
  | (i, .ref t o) :: l => (match itM σ (i, t, qmw o i t, []), z1w σ n l with
    |some x,some xs=>if ztu σ n i then some (x::xs) else none
    |_,_=>none)
  | (i, .mref t) :: l => (match itT σ (i, t, qq i t, [SNK]), z1w σ n l with
    |some x,some xs=>if kJ i n&&(kJ i VB&&qd2 t) then some (x::xs) else none
    |_,_=>none)
  |_::l=>z1w σ n l
def fin(ct:Ct)(results:List ResultVar)(σ:St):Option (List X):=
 let z:=results.zip ct.rs
 let rr:=qgc σ z ct.ar.length++qcy σ ct.all
 let keep:=rr.map (·.1)++(qa6 ct.all++q5s σ results)
 let σ2:=(σ.un fun y=> !y7 keep y).ren rr
 if reB rr&&uI results.length ct.rs.length then match zgm σ2 z ct.ar.length,z1w σ2 ct.ar.length ct.all with
  |some a,some b=>some (a++b)
  |_,_=>none
 else none
def qdg(ct:Ct)(results:List ResultVar):Nat→ResD→St→Tree:=fun _ r σ=>match r with
 |.exit i=>.bad (8000000+i)
 |_=>match fin ct results σ with
  |some xs=>.leaf xs
  |none=>.bad 9000000
def q7o:List Ar→Nat
 |[]=>0
 |.val _::l=>q7o l+1
 |.ref _ _::l=>q7o l+1
 |.rref _::l=>q7o l+1
 |.own _::l=>q7o l+1
 |.mref _::l=>q7o l+1
 |_::l=>q7o l
def Ct.ars(ct:Ct):List Ar:=ct.ar++ct.vr.map (·.2)
def qk9:Nat→List (Nat×Ar)→List (Nat×Nat×Ar)
 |_,[]=>[]
 |j,(i,r)::l=>(i,j,r)::qk9 (j+q7o [r]) l
def zd5(tb:List (Nat×Nat×Ar)):Nat→Nat→AV
 |0,q=>.sn q .any
 |f+1,q=>.sn q (match tb[q]? with
  |some (_,j,.val t)=>.v (.tok j) t [] []
  |some (i,_,.ref t _)=>.ref i [] 0 t
  |some (_,j,.rref t)=>.rd (.tok j) t [] none
  |some (i,j,.own t)=>.v (.tok j) t (qq i t) []
  |some (i,j,.mref t)=>.sn q (.v (.tok j) t (qq i t) [])
  |some (_,_,.nils)=>.nilS
  |some (_,_,.nilp)=>.nilP
  |some (_,_,.fn g ks)=>.fn g (ks.map (zd5 tb f))
  |some (_,_,.cell T k)=>.fr T (zd5 tb f k)
  |none=>.any)
def zg6:AV→AV
 |.sn q (.rd x t dep wr)=>.sn q (.rd x t dep wr)
 |.sn _ a=>a
 |a=>a
def zl7(tb:List (Nat×Nat×Ar)):Nat→Nat→List (Nat×AV)
 |_,0=>[]
 |q,m+1=>(q,zg6 (zd5 tb 6 q))::zl7 tb (q+1) m
def zfp:List (Nat×Nat×Ar)→List (Nat×Ent)
  |[]=>[]
  |(i,j,.ref t o)::l=>(i,⟨.tok j,t,qmw o i t,[]⟩)::zfp l
  |_::l=>zfp l
def qt5(ct:Ct):St:=⟨zl7 (qk9 0 ct.all) 0 ct.ar.length,zfp (qk9 0 ct.all)⟩
def qfa(P:Program)(tbl:Tbl)(ann:Ann)(ct:Ct)(fn:Func)(cd:Code):Tree:=
 toT P tbl ann ct.ar.length fn.ntmps cd [] (q7o ct.ars) (qt5 ct) (qdg ct fn.results.toList)
def WfA:List Ar→List D→Prop
 |[],ds=>ds=[]
 |.val t::l,ds=>∃d r,ds=d::r∧Wf d t∧WfA l r
 |.ref t _::l,ds=>∃d r,ds=d::r∧Wf d t∧WfA l r
 |.rref t::l,ds=>∃d r,ds=d::r∧Wf d t∧WfA l r
 |.own t::l,ds=>∃d r,ds=d::r∧Wf d t∧WfA l r
 |.mref t::l,ds=>∃d r,ds=d::r∧Wf d t∧WfA l r
 |_::l,ds=>WfA l ds
section
variable{A:Nat→Prop}{F:Flr}{p:qi}{w:World}
theorem j6.wf:∀{all:List (Nat×Ar)}{vs:List Value}{ds:List D},j6 V A p w all vs ds→WfA (all.map (·.2)) ds∧ds.length=q7o (all.map (·.2))∧vs.length=all.length
  | [], vs, ds, h => by
    obtain⟨rfl,rfl⟩:=h
    exact⟨rfl,rfl,rfl⟩
  | (_, .val t) :: l, vs, ds, h => by
    obtain⟨v,r,d,ds',rfl,rfl,⟨cs,hp,hr⟩,h⟩:=h
    obtain⟨h1,h2,h3⟩:=j6.wf h
    exact⟨⟨d,ds',rfl,⟨w,_,cs,hr⟩,h1⟩,by simp[q7o,h2],by simp[h3]⟩
  | (i, .ref t o) :: l, vs, ds, h => by
    obtain⟨v,r,d,ds',rfl,rfl,⟨g,cs,T,-,-,-,-,hc⟩,h⟩:=h
    obtain⟨h1,h2,h3⟩:=j6.wf h
    exact⟨⟨d,ds',rfl,⟨w,_,_,hc.rd (dep':=(qmw o i t).map (·.2)) (fun x hx=>by cases hx) (fun x hx=>hx)⟩,h1⟩,by simp[q7o,h2],by simp[h3]⟩
  | (_, .rref t) :: l, vs, ds, h => by
    obtain⟨v,r,d,ds',rfl,rfl,⟨b,o,cs,-,-,-,-,hr⟩,h⟩:=h
    obtain⟨h1,h2,h3⟩:=j6.wf h
    exact⟨⟨d,ds',rfl,⟨w,_,cs,hr⟩,h1⟩,by simp[q7o,h2],by simp[h3]⟩
  | (i, .own t) :: l, vs, ds, h => by
    obtain⟨v,r,d,ds',rfl,rfl,⟨cs,-,hc⟩,h⟩:=h
    obtain⟨h1,h2,h3⟩:=j6.wf h
    exact⟨⟨d,ds',rfl,⟨w,_,_,hc.rd (dep':=(qq i t).map (·.2)) (fun x hx=>by cases hx) (fun x hx=>hx)⟩,h1⟩,by simp[q7o,h2],by simp[h3]⟩
  | (i, .mref t) :: l, vs, ds, h => by
    obtain⟨v,r,d,ds',rfl,rfl,⟨cs,-,hc⟩,h⟩:=h
    obtain⟨h1,h2,h3⟩:=j6.wf h
    exact⟨⟨d,ds',rfl,⟨w,_,_,hc.rd (dep':=(qq i t).map (·.2)) (fun x hx=>by cases hx) (fun x hx=>hx)⟩,h1⟩,by simp[q7o,h2],by simp[h3]⟩
  | (_, .nils) :: l, vs, ds, h => by
    obtain⟨r,rfl,h⟩:=h
    obtain⟨h1,h2,h3⟩:=j6.wf h
    exact⟨h1,h2,by simp[h3]⟩
  | (_, .nilp) :: l, vs, ds, h => by
    obtain⟨r,rfl,h⟩:=h
    obtain⟨h1,h2,h3⟩:=j6.wf h
    exact⟨h1,h2,by simp[h3]⟩
  | (_, .fn f ks) :: l, vs, ds, h => by
    obtain⟨r,rfl,h⟩:=h
    obtain⟨h1,h2,h3⟩:=j6.wf h
    exact⟨h1,h2,by simp[h3]⟩
  | (_, .cell T j) :: l, vs, ds, h => by
    obtain⟨b,r,rfl,-,-,-,h⟩:=h
    obtain⟨h1,h2,h3⟩:=j6.wf h
    exact⟨h1,h2,by simp[h3]⟩
theorem z4w:∀(i:Nat)(l:List Ar),(idx i l).map (·.2)=l
 |_,[]=>rfl
 |i,a::l=>by simp[idx,z4w (i+1) l]
theorem all_map(ct:Ct):ct.all.map (·.2)=ct.ars:=by simp[Ct.all,Ct.ars,z4w]
theorem z1u:∀{i n:Nat}{l:List Ar}{e:Nat×Ar},e∈idx i l→i+l.length=n→i≤e.1∧e.1<n
 |_,_,[],e,h,_=>by cases h
 | i, n, a :: l, e, h, hn => by
  rcases uL.1 h with rfl|h
  ·simp at hn;exact⟨uF _,by simp;omega⟩
  ·obtain⟨h1,h2⟩:=z1u (n:=n) h (by simp at hn;omega)
   exact⟨by omega,h2⟩
theorem z4h{ct:Ct}{e:Nat×Ar}(h:e∈ct.all):e.1<ct.ar.length∨VB≤e.1:=by
 rcases kO.1 h with h|h
 ·exact .inl (z1u (n:=ct.ar.length) h (by simp)).2
 ·exact .inr (z1u h rfl).1
def zne(V:List Value)(A:Nat→Prop)(p:qi)(w:World)(i:Nat):Ar→Value→D→Prop
 |.val t,v,d=>∃cs,jd t cs v∧Rd w (FFD A p []) d t cs
 |.ref t o,v,d=>∃g cs T,p (i * 16)=some g∧v=.pointer (some ⟨g,0,none⟩)∧w.heap[g]? =some (.cells cs T (0,0))∧qk T=some t∧Con A p w d t (qmw o i t) [] cs.toList
 |.rref t,v,d=>∃b o cs,v=.pointer (some ⟨b,o,none⟩)∧FFD A p [] b∧w.rangeAt b o cs∧0<cs.length∧Rd w (FFD A p []) d t cs
 |.own t,v,d=>∃cs,jd t cs v∧Con A p w d t (qq i t) [] cs
 |.mref t,v,d=>∃cs,jd t cs v∧Con A p w d t (qq i t) [] cs
 |.nils,v,_=>v=.slice none 0 0
 |.nilp,v,_=>v=.pointer none
 |.fn f ks,v,_=>v=.func (.func f) #[] (ks.map fun k=>V.getD k undef).toArray
 |.cell T j,v,_=>∃b,v=.pointer (some ⟨b,0,none⟩)∧A b∧q7j p b∧w.heap[b]? =some (.cells #[V.getD j undef] T (0,0))
theorem qu8:∀{all:List (Nat×Ar)}{j0:Nat}{vs:List Value}{ds:List D}{q i j:Nat}{r:Ar},j6 V A p w all vs ds→(qk9 j0 all)[q]? =some (i,j,r)→∃v,vs[q]? =some v∧j0≤j∧zne V A p w i r v (ds.getD (j - j0) .u)
  |[],j0,vs,ds,q,i,j,r,h,hq=>by simp[qk9] at hq
  | (i', r') :: l, j0, vs, ds, q, i, j, r, h, hq => by
    cases q with
    | zero =>
      simp only[qk9,kD,gnS] at hq
      obtain⟨rfl,rfl,rfl⟩:=hq
      cases r' with
      |val t=>obtain⟨v,r,d,ds',rfl,rfl,h1,-⟩:=h;exact⟨v,rfl,uF _,by rw[uO];exact h1⟩
      |ref t o=>obtain⟨v,r,d,ds',rfl,rfl,h1,-⟩:=h;exact⟨v,rfl,uF _,by rw[uO];exact h1⟩
      |rref t=>obtain⟨v,r,d,ds',rfl,rfl,h1,-⟩:=h;exact⟨v,rfl,uF _,by rw[uO];exact h1⟩
      |own t=>obtain⟨v,r,d,ds',rfl,rfl,h1,-⟩:=h;exact⟨v,rfl,uF _,by rw[uO];exact h1⟩
      |mref t=>obtain⟨v,r,d,ds',rfl,rfl,h1,-⟩:=h;exact⟨v,rfl,uF _,by rw[uO];exact h1⟩
      |nils=>obtain⟨r,rfl,-⟩:=h;exact⟨_,rfl,uF _,rfl⟩
      |nilp=>obtain⟨r,rfl,-⟩:=h;exact⟨_,rfl,uF _,rfl⟩
      |fn f ks=>obtain⟨r,rfl,-⟩:=h;exact⟨_,rfl,uF _,rfl⟩
      |cell T k=>obtain⟨b,r,rfl,h1,h2,h3,-⟩:=h;exact⟨_,rfl,uF _,⟨b,rfl,h1,h2,h3⟩⟩
    | succ q =>
      simp only[qk9,uM] at hq
      have one:∀{v:Value}{vs':List Value}{d:D}{ds':List D},j6 V A p w l vs' ds'→(qk9 (j0+1) l)[q]? =some (i,j,r)→∃u,(v::vs')[q+1]? =some u∧j0≤j∧zne V A p w i r u ((d::ds').getD (j - j0) .u):=fun h hq=>by
        obtain⟨u,h1,h2,h3⟩:=qu8 h hq
        refine⟨u,by simpa using h1,by omega,?_⟩
        rw[show j - j0=(j - (j0+1))+1 by omega]
        simpa using h3
      have non:∀{v:Value}{vs':List Value},j6 V A p w l vs' ds→(qk9 j0 l)[q]? =some (i,j,r)→∃u,(v::vs')[q+1]? =some u∧j0≤j∧zne V A p w i r u (ds.getD (j - j0) .u):=fun h hq=>by
        obtain⟨u,h1,h2,h3⟩:=qu8 h hq
        exact⟨u,by simpa using h1,h2,h3⟩
      cases r' with
      |val t=>obtain⟨v,r,d,ds',rfl,rfl,-,h⟩:=h;exact one h hq
      |ref t o=>obtain⟨v,r,d,ds',rfl,rfl,-,h⟩:=h;exact one h hq
      |rref t=>obtain⟨v,r,d,ds',rfl,rfl,-,h⟩:=h;exact one h hq
      |own t=>obtain⟨v,r,d,ds',rfl,rfl,-,h⟩:=h;exact one h hq
      |mref t=>obtain⟨v,r,d,ds',rfl,rfl,-,h⟩:=h;exact one h hq
      |nils=>obtain⟨r,rfl,h⟩:=h;exact non h hq
      |nilp=>obtain⟨r,rfl,h⟩:=h;exact non h hq
      |fn f ks=>obtain⟨r,rfl,h⟩:=h;exact non h hq
      |cell T k=>obtain⟨b,r,rfl,-,-,-,h⟩:=h;exact non h hq
section
variable{c:Cx}{n0:Nat}{V:List Value}{all:List (Nat×Ar)}{ds:List D}
theorem quw(hA:c.A=A)(hAt:c.At=fun k g=>(k<n0∨VB≤k)→p (k * 16)=some g)(hsn:c.snap=fun q=>V.getD q undef)(h:j6 V A p w all V ds)(hE:∀k,c.v.E k=ds.getD k .u):∀(f q:Nat),(zd5 (qk9 0 all) f q).pd c p w (V.getD q undef)
 |0,q=>⟨by rw[hsn],trivial⟩
 | f + 1, q => by
  refine⟨by rw[hsn],?_⟩
  have key:∀{i j:Nat}{r:Ar},(qk9 0 all)[q]? =some (i,j,r)→zne V A p w i r (V.getD q undef) (c.v.E j):=fun hq=>by
   obtain⟨v,h1,-,h3⟩:=qu8 h hq
   rw[gnG,h1,hE]
   exact h3
  split
  ·rename_i i j t hq
   obtain⟨cs,hp,hr⟩:=key hq
   refine⟨cs,hp,?_⟩
   rw[hA]
   exact Con.of_rd hr
  ·rename_i i j t hq
   obtain⟨g,cs,T,hg,e,-⟩:=key hq
   exact⟨g,hg,e,by rw[hAt];exact fun _=>hg⟩
  ·rename_i i j t hq
   obtain⟨b,o,cs,e,hfb,hrg,h0,hr⟩:=key hq
   refine⟨b,o,cs,e,by rw[hA];exact hfb,hrg,h0,?_,trivial⟩
   show Rd w (FFD c.A p []) (c.v.E j) t cs
   rw[hA]
   exact hr
  ·rename_i i j t hq
   obtain⟨cs,hp,hr⟩:=key hq
   refine⟨cs,hp,?_⟩
   show Con c.A p w (c.v.E j) t (qq i t) [] cs
   rw[hA]
   exact hr
  ·rename_i i j t hq
   obtain⟨cs,hp,hr⟩:=key hq
   refine⟨by rw[hsn],cs,hp,?_⟩
   show Con c.A p w (c.v.E j) t (qq i t) [] cs
   rw[hA]
   exact hr
  ·rename_i i j hq
   exact key hq
  ·rename_i i j hq
   exact key hq
  ·rename_i i j g ks hq
   refine⟨_,key hq,?_⟩
   clear hq
   induction ks with
   |nil=>rfl
   |cons k ks ih=>exact⟨_,_,rfl,quw hA hAt hsn h hE f k,ih⟩
  ·rename_i i j T k hq
   obtain⟨b,e,h1,h2,h3⟩:=key hq
   exact⟨b,_,by rw[hA];exact h1,h2,e,h3,quw hA hAt hsn h hE f k⟩
  ·trivial
theorem zjp{x:AV}{v:Value}(h:x.pd c p w v):(zg6 x).pd c p w v:=by
 unfold zg6
 split
 ·exact h
 ·exact h.2
 ·exact h
theorem qs7(hA:c.A=A)(hAt:c.At=fun k g=>(k<n0∨VB≤k)→p (k * 16)=some g)(hsn:c.snap=fun q=>V.getD q undef)(h:j6 V A p w all V ds)(hE:∀k,c.v.E k=ds.getD k .u):∀(m q t:Nat)(x:AV),lkA (zl7 (qk9 0 all) q m) t=some x→t<q+m∧x.pd c p w (V.getD t undef)
 |0,q,t,x,hx=>by cases hx
 | m + 1, q, t, x, hx => by
  unfold zl7 at hx
  by_cases hqt:q=t
  ·subst hqt
   rw[qa] at hx
   injection hx with hx
   subst hx
   exact⟨by omega,zjp (quw hA hAt hsn h hE 6 q)⟩
  ·rw[qd hqt] at hx
   obtain⟨h1,h2⟩:=qs7 hA hAt hsn h hE m (q+1) t x hx
   exact⟨by omega,h2⟩
theorem qs1(hA:c.A=A)(hE:∀k,c.v.E k=ds.getD k .u)(h:j6 V A p w all V ds):∀{tb:List (Nat×Nat×Ar)},(∀e:Nat×Nat×Ar,e∈tb→∃q:Nat,(qk9 0 all)[q]? =some e)→∀k e,lkA (zfp tb) k=some e→q1j c p w k e
  |[],_,k,e,he=>by cases he
  | (i, j, r) :: l, hm, k, e, he => by
    have go:=qs1 hA hE h (tb:=l) fun e he=>hm e (uB _ he)
    cases r with
    | ref t o =>
      have he':lkA ((i,⟨.tok j,t,qmw o i t,[]⟩)::zfp l) k=some e:=he
      by_cases hik:i=k
      · subst hik
        rw[qa] at he'
        injection he' with he'
        subst he'
        obtain⟨q,hq⟩:=hm _ uD
        obtain⟨v,-,-,⟨g,cs,T,hg,-,hh,hty,hc⟩⟩:=qu8 h hq
        refine⟨g,cs,T,hg,hh,hty,?_⟩
        show Con c.A p w (c.v.E j) t (qmw o i t) [] cs.toList
        rw[hE,hA]
        exact hc
      · rw[qd hik] at he'
        exact go k e he'
    |_=>exact go k e he
end
end
def qgv(tmps:Array Value):ResultVar→Sem Value
 |.tmp t=>pure (tmps.getD t undef)
 |.cell a t=>do loadVar t (←asAddr (tmps.getD a undef))
theorem results_read(fn:Func)(tmps:Array Value):results fn tmps=(do let vs←fn.results.mapM (qgv tmps);pure (if h:vs.size=1 then vs[0] else .tuple vs)):=by
 unfold results
 congr 1
def Reads(tmps:Array Value)(w:World):List ResultVar→List Value→Prop
 |[],l=>l=[]
 |r::rs,l=>∃v l',l=v::l'∧(qgv tmps r).run uA w=.ok v w∧Reads tmps w rs l'
theorem qgm{w:World}{l:List Value}(h:Reads tmps w fn.results.toList l):(results fn tmps).run uA w=.ok (qi5 l) w:=by
 have key:∀(rs:List ResultVar)(l:List Value),Reads tmps w rs l→(rs.mapM (qgv tmps)).run uA w=.ok l w:=by
  intro rs
  induction rs with
  |nil=>
   intro l h
   cases h
   simp
  |cons r rs ih=>
   rintro l⟨v,l',rfl,h1,h2⟩
   simp only[List.mapM_cons,Sem.run_bind,h1,Result.andThen_ok,ih l' h2,Sem.run_pure]
 rw[results_read,Array.mapM_eq_mapM_toList]
 simp only[map_eq_pure_bind,Sem.run_bind,key _ _ h,Result.andThen_ok,Sem.run_pure]
 congr 1
 clear h key
 match l with
 |[]=>rfl
 |[v]=>rfl
 |_::_::_=>rfl
section
variable{c:Cx}{p:qi}{w w0:World}{S0:Nat→Prop}{a:Act}{σ σ':St}
theorem zup{i:Item}(hf:SF c σ p w a)(h:itT σ i=some x):∃v cs,a.tmps[i.1]? =some v∧jd i.2.1 cs v∧Con c.A p w (x.ev c.v) i.2.1 i.2.2.1 i.2.2.2 cs∧(snB i.2.1 i.2.2.2=true→v=c.snap i.1):=by
 obtain⟨t,ty,own,dep⟩:=i
 have:=z5k hf (l:=[(t,ty,own,dep)]) (xs:=[x]) (by simp only[its,h])
 obtain⟨y,r,e,h1,-⟩:=this
 simp only[X.evs,List.cons.injEq] at e
 rw[e.1]
 exact h1
theorem zub{i:Item}(hf:SF c σ p w a)(h:itM σ i=some x):∃g cs T,p (i.1 * 16)=some g∧w.heap[g]? =some (.cells cs T (0,0))∧qk T=some i.2.1∧Con c.A p w (x.ev c.v) i.2.1 i.2.2.1 i.2.2.2 cs.toList:=by
 obtain⟨t,ty,own,dep⟩:=i
 have:=z7q hf (l:=[(t,ty,own,dep)]) (xs:=[x]) (by simp only[its,h])
 obtain⟨y,r,e,h1,-⟩:=this
 simp only[X.evs,List.cons.injEq] at e
 rw[e.1]
 exact h1
theorem z8t(hf:SF c σ p w a){n:Nat}{rv:ResultVar}{own:Bool}(h:z31 σ n rv t own=some x):∃v,(qgv a.tmps rv).run uA w=.ok v w∧∃cs,jd t cs v∧Con c.A p w (x.ev c.v) t (if own then qq n t else[]) [] cs:=by
 cases rv with
 |tmp s=>
  obtain⟨v,cs,hv,hp,hc,-⟩:=zup (i:=(s,t,if own then qq n t else[],[])) hf h
  exact⟨v,by simp[qgv,show a.tmps[s]? =some v from hv],cs,hp,hc⟩
 | cell s T =>
  simp only[z31] at h
  split at h
  ·rename_i k t' hl
   split at h
   ·rename_i hok
    simp only[gnB] at hok
    obtain⟨v,hv,g,hg,rfl,-⟩:=hf.t s _ hl
    obtain⟨g',cs,T',hg',hh,hty,hc⟩:=zub (i:=(k,t,if own then qq n t else[],[])) hf h
    obtain rfl:=gnI (hg.symm.trans hg')
    have hr:w.rangeAt g 0 cs.toList:=fun j u hj=>by
     rw[cell_of_row w g (0+j) cs T' (0,0) hh,←Array.getElem?_toList]
     simpa using hj
    obtain⟨u,hu,hp⟩:=q98 (q3o hok.1) hr (hc.rd (dep':=(if own then qq n t else[]).map (·.2)) (fun x hx=>by cases hx) (fun x hx=>hx))
    refine⟨u,?_,cs.toList,hp,hc⟩
    simpa[qgv,show a.tmps[s]? =some _ from hv,asAddr,Instr.loadAt,Instr.sureAddr] using hu
   ·cases h
  ·cases h
theorem qrr(hf:SF c σ p w a):∀{rvs:List ResultVar}{ts:List (Ty×Bool)}{n:Nat}{xs:List X},rvs.length=ts.length→zgm σ (rvs.zip ts) n=some xs→
  ∃l,Reads a.tmps w rvs l∧qav c.A p w ts n l (X.evs c.v xs)∧xs.length=ts.length
 |[],[],n,xs,_,h=>by
  simp only[List.zip_nil_left,zgm,uE] at h
  subst h
  exact⟨[],rfl,rfl,rfl⟩
 | rv :: rvs, (t, own) :: ts, n, xs, hl, h => by
  simp only[List.zip_cons_cons,zgm] at h
  split at h
  ·rename_i x xs' hx hxs
   injection h with h
   subst h
   obtain⟨l,h1,h2,h3⟩:=qrr hf (by simpa using hl) hxs
   obtain⟨v,hv,hc⟩:=z8t hf hx
   exact⟨v::l,⟨v,l,rfl,hv,h1⟩,⟨v,l,_,_,rfl,rfl,hc,h2⟩,by simp[h3]⟩
  ·cases h
 |[],_::_,_,_,hl,_=>by cases hl
 |_::_,[],_,_,hl,_=>by cases hl
theorem zlt(hf:SF c σ p w a){n:Nat}(h:ztu σ n i=true):∃g,p (i * 16)=some g∧c.At i g:=by
 obtain⟨t,-,ht⟩:=kL.1 h
 split at ht
 ·rename_i x hx
  obtain⟨v,-,hv⟩:=hf.t t x hx
  exact AV.has_ok x ht hv
 ·cases ht
theorem qrt{p0:qi}(hf:SF c σ p w a){n0 n:Nat}(hAt:c.At=fun k g=>(k<n0∨VB≤k)→p0 (k * 16)=some g):∀{all:List (Nat×Ar)}{xs:List X},(∀e∈all,e.1<n0∨VB≤e.1)→(∀i t,(i,Ar.mref t)∈all→i<n→i<VB→qd2 t=true→∃g,c.snap i=.map (some g)∧p0 (i * 16+1)=some g)→z1w σ n all=some xs→q45 c.A p0 p w all (X.evs c.v xs)
  | [], xs, _, _, h => by
    simp only[z1w,uE] at h
    subst h
    rfl
  | (i, r) :: l, xs, hi, hMr, h => by
    have go:∀{xs},z1w σ n l=some xs→q45 c.A p0 p w l (X.evs c.v xs):=fun h=>qrt hf hAt (all:=l) (fun e he=>hi e (uB _ he)) (fun i t hm=>hMr i t (uB _ hm)) h
    cases r with
    | ref t o =>
      simp only[z1w] at h
      split at h
      · rename_i x xs' hx hxs
        split at h
        · rename_i hk
          injection h with h
          subst h
          obtain⟨g,hg,hat⟩:=zlt hf hk
          obtain⟨g',cs,T,hg',hh,hty,hc⟩:=zub (i:=(i,t,qmw o i t,[])) hf hx
          obtain rfl:=gnI (hg.symm.trans hg')
          rw[hAt] at hat
          exact⟨_,_,rfl,⟨g,cs,T,hat (hi _ uD),hg,hh,hty,hc⟩,go hxs⟩
        · cases h
      · cases h
    | mref t =>
      simp only[z1w] at h
      split at h
      · rename_i x xs' hx hxs
        split at h
        · rename_i hk
          injection h with h
          subst h
          simp only[gnB,kW] at hk
          obtain⟨k1,k2,k3⟩:=hk
          obtain⟨g,hg,hp0⟩:=hMr i t uD k1 k2 k3
          obtain⟨v,cs,hv,hpk,hc,hs⟩:=zup (i:=(i,t,qq i t,[SNK])) hf hx
          have hkv:∃K V,t=.map K V:=by
            cases t with
            |map K V=>exact⟨K,V,rfl⟩
            |_=>cases k3
          obtain⟨K,V',rfl⟩:=hkv
          have hve:v=.map (some g):=(hs rfl).trans hg
          have hc0:Con c.A p w (x.ev c.v) (.map K V') [(0,i * 16+1)] [SNK] cs:=hc
          have hc1:Con c.A p w (x.ev c.v) (.map K V') [(0,i * 16+1)] [] cs:=by
            have h0:Fl c.A p w [SNK] (lkA [(0,i * 16+1)] 0) (x.ev c.v) (.map K V') cs:=hc0
            show Fl c.A p w [] (lkA [(0,i * 16+1)] 0) (x.ev c.v) (.map K V') cs
            rw[qa] at h0⊢
            rcases h0 with⟨E,te,l,u,e0,-⟩|h0
            · cases e0
            · exact .inr h0
          have hc2:Fl c.A p w [] (lkA [(0,i * 16+1)] 0) (x.ev c.v) (.map K V') cs:=hc1
          rw[qa] at hc2
          rcases hc2 with⟨E,te,l,u,e0,-⟩|⟨K1,V1,kt,vt,l,g1,es,clock,e0,-,-,-,rfl,hg1,-⟩
          · cases e0
          · have hpv:[Value.map (some g1)]=[v]:=hpk
            injection hpv with hpv
            rw[hve] at hpv
            injection hpv with hpv
            injection hpv with hpv
            subst hpv
            exact⟨_,_,rfl,⟨g1,hp0,hg1,hc1⟩,go hxs⟩
        · cases h
      · cases h
    |_=>exact go h
theorem zmu{w:World}{ct:Ct}(h:j6 V A p w ct.all vs ds)(i:Nat)(t:Ty)(hm:(i,Ar.mref t)∈ct.all)(h1:i<ct.ar.length)(h2:i<VB)(h3:qd2 t=true):∃g,vs.getD i undef=.map (some g)∧p (i * 16+1)=some g:=by
 have key:∀{l:List Ar}{k n:Nat}{r:Ar},(n,r)∈idx k l→k≤n∧l[n - k]? =some r:=by
  intro l
  induction l with
  |nil=>intro k n r h;cases h
  | cons x l ih =>
   intro k n r h
   rcases uL.1 h with h|h
   ·injection h with e1 e2
    subst e1 e2
    exact⟨uF _,by simp⟩
   ·obtain⟨q1,q2⟩:=ih h
    refine⟨by omega,?_⟩
    rw[show n - k=(n - (k+1))+1 by omega]
    simpa using q2
 have pos:∀(l:List Ar)(k q:Nat),(idx k l)[q]? =l[q]?.map fun r=>(k+q,r):=by
  intro l
  induction l with
  |nil=>intro k q;simp[idx]
  | cons x l ih =>
   intro k q
   cases q with
   |zero=>simp[idx]
   |succ q=>
    simp only[idx,uM,ih]
    congr 1
    funext r
    congr 1
    omega
 have hat:ct.all[i]? =some (i,.mref t):=by
  rcases kO.1 hm with hm|hm
  ·obtain⟨-,q⟩:=key hm
   rw[Nat.sub_zero] at q
   unfold Ct.all
   rw[uJ (by
    have:(idx 0 ct.ar).length=ct.ar.length:=by rw[←List.length_map (f:=(·.2)),z4w]
    omega),pos,q]
   simp
  ·have:=(key hm).1
   omega
 have tab:∀(l:List (Nat×Ar))(j q:Nat)(e:Nat×Ar),l[q]? =some e→∃j',(qk9 j l)[q]? =some (e.1,j',e.2):=by
  intro l
  induction l with
  |nil=>intro j q e h;simp at h
  | cons x l ih =>
   intro j q e h
   cases q with
   |zero=>
    simp only[kD,uE] at h
    subst h
    exact⟨j,rfl⟩
   |succ q=>
    simp only[uM] at h
    exact ih _ q e h
 obtain⟨j',hj⟩:=tab _ 0 _ _ hat
 obtain⟨v,hv,-,cs,hpk,hc⟩:=qu8 h hj
 rw[gnG,hv]
 have hkv:∃K V,t=.map K V:=by
  cases t with
  |map K V=>exact⟨K,V,rfl⟩
  |_=>cases h3
 obtain⟨K,V',rfl⟩:=hkv
 have hc2:Fl A p w [] (lkA [(0,i * 16+1)] 0) (ds.getD (j' - 0) .u) (.map K V') cs:=hc
 rw[qa] at hc2
 rcases hc2 with⟨E,te,l,u,e0,-⟩|⟨K1,V1,kt,vt,l,g1,es,clock,e0,-,-,-,rfl,hg1,-⟩
 ·cases e0
 ·have hpv:[Value.map (some g1)]=[v]:=hpk
  injection hpv with hpv
  exact⟨g1,hpv.symm,hg1⟩
end
def cxA(tbl:Tbl)(ct:Ct)(A:Nat→Prop)(F:Flr)(p:qi)(vs us:List Value)(ds:List D):Cx:=⟨evl (qe tbl) ds,A,F,ct.ar.length,fun k g=>(k<ct.ar.length∨VB≤k)→p (k * 16)=some g,fun k g hk h2 h=>absurd h (by omega),fun q=>(vs++us).getD q undef⟩
theorem qzy{ct:Ct}(hsz:ct.ar.length≤fn.ntmps){w:World}{us:List Value}(hfo:Flo F w w)(hpre:Pre ct.ar.length A F p w)(hvl:vs.length=ct.ar.length)(hargs:j6 (vs++us) A p w ct.all (vs++us) ds):
  Bs (cxA tbl ct A F p vs us ds).A (cxA tbl ct A F p vs us ds).F w (pinned p) p w∧SF ((cxA tbl ct A F p vs us ds).at (qe tbl) ds) (qt5 ct) p w {tmps:=vs.toArray++kM (fn.ntmps - vs.toArray.size) undef,defers:=[]}:=by
 have hb0:Bs (cxA tbl ct A F p vs us ds).A (cxA tbl ct A F p vs us ds).F w (pinned p) p w:=⟨hpre.inj,hpre.bd,But.refl _ _,fun x b hx=>.inl ⟨x,hx⟩,hpre.new,hpre.pa,hpre.obj,hfo⟩
 refine⟨hb0,fun t x hx=>?_,qs1 (c:=(cxA tbl ct A F p vs us ds).at (qe tbl) ds) (A:=A) rfl (fun k=>rfl) hargs fun e he=>List.mem_iff_getElem?.1 he⟩
 obtain⟨h1,h2⟩:=qs7 (c:=(cxA tbl ct A F p vs us ds).at (qe tbl) ds) (A:=A) (n0:=ct.ar.length) rfl rfl rfl hargs (fun k=>rfl) _ _ t x hx
 have hlt:t<vs.length:=by omega
 refine⟨(vs++us).getD t undef,?_,h2⟩
 show(vs.toArray++_)[t]? =_
 rw[Array.getElem?_append_left (by simpa using hlt),gnG,uJ hlt]
 simp[gnK hlt]
theorem zde{ct:Ct}{p':qi}{w w':World}{us:List Value}{l':List D}{σ':St}{a':Act}(hcA:c.A=A)(hcAt:c.At=fun k g=>(k<ct.ar.length∨VB≤k)→p (k * 16)=some g)(hcs:∀i,i<VB→c.snap i=(vs++us).getD i undef)(hargs:j6 (vs++us) A p w ct.all (vs++us) ds)
  (hb':Bs c.A c.F w (pinned p) p' w')(hf':SF (c.at (qe tbl) l') σ' p' w' a'){xs:List X}(hfin:fin ct fn.results.toList σ'=some xs):
  ∃rs p2,(results fn a'.tmps).run uA w'=.ok (qi5 rs) w'∧Bs A c.F w (pinned p) p2 w'∧qav A p2 w' ct.rs ct.ar.length rs ((X.evs (evl (qe tbl) l') xs).take ct.rs.length)∧q45 A p p2 w' ct.all ((X.evs (evl (qe tbl) l') xs).drop ct.rs.length):=by
 subst hcA
 generalize houts:X.evs (evl (qe tbl) l') xs=outs
 unfold fin at hfin
 simp only at hfin
 split at hfin
 ·rename_i hok
  simp only[gnB] at hok
  split at hfin
  ·rename_i xa xb hxa hxb
   injection hfin with hfin
   subst hfin
   have hb1:=hb'.un (fun y=> !y7 ((qgc σ' (fn.results.toList.zip ct.rs) ct.ar.length++qcy σ' ct.all).map (·.1)++(qa6 ct.all++q5s σ' fn.results.toList)) y)
   have hf1:=SF.un (c:=c.at (qe tbl) l') (q:=fun y=> !y7 ((qgc σ' (fn.results.toList.zip ct.rs) ct.ar.length++qcy σ' ct.all).map (·.1)++(qa6 ct.all++q5s σ' fn.results.toList)) y) hb'.inj hb'.pa hf'
   obtain⟨p2,hb2,hf2⟩:=qma (c:=c.at (qe tbl) l') hok.1 hb1 hf1
   obtain⟨l,h1,h2,h3⟩:=qrr hf2 (gnN hok.2) hxa
   have h4:=qrt (p0:=p) (n0:=ct.ar.length) hf2 hcAt (fun e he=>z4h he) (fun i t hm h1 h2 h3=>by
    obtain⟨g,e1,e2⟩:=zmu hargs i t hm h1 h2 h3
    exact⟨g,(hcs i h2).trans e1,e2⟩) hxb
   have hev:X.evs (evl (qe tbl) l') xa++X.evs (evl (qe tbl) l') xb=outs:=by rw[←qdr];exact houts
   have hla:(X.evs (evl (qe tbl) l') xa).length=ct.rs.length:=by rw[qgw,h3]
   refine⟨l,p2,qgm h1,hb2,?_,?_⟩
   ·rw[←hev,uV (by omega),←hla,uC]
    exact h2
   ·rw[←hev,←hla,List.drop_left]
    exact h4
  ·cases hfin
 ·cases hfin
theorem zrg{ct:Ct}(ann:Ann)(fn:Func)(cd:Code)(htb:q0r tbl)(hf:uA.funcs[ct.f]? =some fn)(hb:fn.body=some cd)(hsz:ct.ar.length≤fn.ntmps)
  {w:World}{us:List Value}(hfm:∀te,F.mx te≤flM tbl te)(hfo:Flo F w w)(hpre:Pre ct.ar.length A F p w)(hvl:vs.length=ct.ar.length)(hargs:j6 (vs++us) A p w ct.all (vs++us) ds)
  (h:WfA ct.ars ds→(qfa uA tbl ann ct fn cd).go (qe tbl) R ds fun _ _=>False){P:Ending→World→Prop}
  (hret:∀o rs p' w',R o→Bs A F w (pinned p) p' w'→qav A p' w' ct.rs ct.ar.length rs (o.take ct.rs.length)→q45 A p p' w' ct.all (o.drop ct.rs.length)→P (.returned (qi5 rs)) w')
  (hQ:∀e∈tbl,∀T,e.1.pn=some T→(∃ds,e.2 ds=some [.u])→∀w',But (pinned p) w w'→P (.panicked (qbs T)) w')
  (hR:R [.u]→∀e∈tbl,∀T,e.1.pn=some T→∀w',But (pinned p) w w'→P (.panicked (qbs T)) w'):cd.wp uA (bodyPost uA fn P) {tmps:=vs.toArray++kM (fn.ntmps - vs.toArray.size) undef,defers:=[]} w:=by
 obtain⟨hwf,hdl,-⟩:=hargs.wf
 rw[all_map] at hwf hdl
 have hgo:=h hwf
 obtain⟨hb0,hsf⟩:=qzy (tbl:=tbl) hsz hfo hpre hvl hargs
 refine(wpIn_wide (n:=0)).1 ?_
 refine qo5 none 0 (c:=cxA tbl ct A F p vs us ds) (S0:=pinned p) (w0:=w) (d:=[]) (z:=fn.ntmps) htb hfm cd hgo hdl hb0 hsf rfl (by simp;omega) (fun e he T h1 h2 a w2 h3 h4=>⟨h3,hQ e he T h1 h2 w2 h4⟩) (fun h0 e he T h1 a w2 h3 h4=>⟨h3,hR h0 e he T h1 w2 h4⟩) fun n' r σ' l' B' p' w' a' hl' hpre' hB hgo' hb' hf' hd' hz'=>?_
 have fin':∀xs,fin ct fn.results.toList σ'=some xs→R (X.evs (evl (qe tbl) l') xs)→a'.defers=[]∧∃v,(results fn a'.tmps).run uA w'=.ok v w'∧P (.returned v) w':=by
  intro xs hfin hout
  obtain⟨rs,p2,h1,h2,h3,h4⟩:=zde (c:=cxA tbl ct A F p vs us ds) rfl rfl (fun _ _=>rfl) hargs hb' hf' hfin
  exact⟨hd',_,h1,hret _ rs p2 w' hout h2 h3 h4⟩
 cases r with
 |exit i=>exact hgo'.elim
 | normal =>
  simp only[qdg] at hgo'
  split at hgo'
  ·rename_i xs hx
   exact fin' xs hx hgo'
  ·exact hgo'.elim
 | ret =>
  simp only[qdg] at hgo'
  split at hgo'
  ·rename_i xs hx
   exact fin' xs hx hgo'
  ·exact hgo'.elim
theorem qvk{ct:Ct}(ann:Ann)(fn:Func)(cd:Code)(htb:q0r tbl)(hf:uA.funcs[ct.f]? =some fn)(hb:fn.body=some cd)(hsz:ct.ar.length≤fn.ntmps)
  {w:World}{us:List Value}(hfm:∀te,F.mx te≤flM tbl te)(hfo:Flo F w w)(hpre:Pre ct.ar.length A F p w)(hvl:vs.length=ct.ar.length)(hargs:j6 (vs++us) A p w ct.all (vs++us) ds)
  (h:WfA ct.ars ds→(qfa uA tbl ann ct fn cd).go (qe tbl) R ds fun _ _=>False){P:Ending→World→Prop}
  (hret:∀o rs p' w',R o→Bs A F w (pinned p) p' w'→qav A p' w' ct.rs ct.ar.length rs (o.take ct.rs.length)→q45 A p p' w' ct.all (o.drop ct.rs.length)→P (.returned (qi5 rs)) w')
  (hQ:∀e∈tbl,∀T,e.1.pn=some T→(∃ds,e.2 ds=some [.u])→∀w',But (pinned p) w w'→P (.panicked (qbs T)) w')
  (hR:R [.u]→∀e∈tbl,∀T,e.1.pn=some T→∀w',But (pinned p) w w'→P (.panicked (qbs T)) w'):Calls uA ct.f vs.toArray w P:=calls_of_wp hf hb (zrg ann fn cd htb hf hb hsz hfm hfo hpre hvl hargs h hret hQ hR)
def FlF(ct:Ct)(tbl:Tbl)(ds:List D):Prop:=∀F,qgn ct F ds→∀te,F.mx te≤flM tbl te
theorem FlF.none{ct:Ct}(h:ct.fl=[]):FlF ct tbl ds:=fun F hF te=>by rw[hF.zero h];exact kV _
theorem FlF.of{ct:Ct}(h:∀k j te,(k,j,te)∈ct.fl→k≠999∧((ds.getD k .u).fld j).rs.length≤flM tbl te):FlF ct tbl ds:=fun F hF te=>by
 rcases hF te with h0|⟨k,j,hm,h1⟩
 ·rw[h0];exact kV _
 ·obtain⟨h2,h3⟩:=h k j te hm
  exact uK (h1.resolve_left h2) h3
def jz(f:FuncId)(te:Ty):Ct:={f:=f,ar:=[.val (.st 4242424243)],rs:=[(te,false)]}
theorem zsv{w:World}(h:Rd w P d (.st 4242424243) cs):False:=by
 cases d with
 |a l=>
  obtain⟨T,fs,e,hf,-⟩:=h
  injection e with e
  subst e
  cases hf
 |u=>exact h
 |i n=>obtain⟨k,e,-⟩:=h;cases e
 |b x=>cases h.1
 |s x=>cases h.1
 |r l=>obtain⟨E,te,A,cap,e,-⟩:=h;cases e
 |mp l=>obtain⟨K,V,kt,vt,g,es,clock,e,-⟩:=h;cases e
theorem q1x(f:FuncId)(hen:∀args w,(callFunc f args).run uA w=.ok (.enter f args) w)(te:Ty)(m:Nat):FOk (jz f te) fun _=>some [.i m]:=
 ⟨hen,(fun A F p w vs us ds outs hg _ _ _ hvl hargs=>by
  obtain⟨v,r,d,ds',e1,e2,⟨cs,h1,h2⟩,-⟩:=hargs
  exact(zsv h2).elim),fun h=>absurd rfl h⟩
theorem zin{ct:Ct}(ann:Ann)(fn:Func)(cd:Code)(htb:q0r tbl)(hf:uA.funcs[ct.f]? =some fn)(hb:fn.body=some cd)
  (hen:∀args w,(callFunc ct.f args).run uA w=.ok (.enter ct.f args) w)(hsz:ct.ar.length≤fn.ntmps)
  (h:∀ds outs,WfA ct.ars ds→g ds=some outs→(qfa uA tbl ann ct fn cd).go (qe tbl) (fun o=>o=outs) ds fun _ _=>False)(hnp:qa3 tbl=true:=by rfl)(hkp:ct.kp=[]:=by rfl)(hfl:ct.fl=[]:=by rfl):FOk ct g:=
 ⟨hen,fun A F p w vs us ds outs hg hfo0 hfo hpre hvl hargs=>qvk ann fn cd htb hf hb hsz (FlF.none hfl F hfo0) hfo hpre hvl hargs (fun hw=>h ds outs hw hg)
  (fun o rs p' w' ho h1 h2 h3=>.inr ⟨rs,p',rfl,h1,by rw[←ho];exact h2,by rw[←ho];exact h3⟩) (fun e he T hT=>(q9a hnp he hT).elim) (fun _ e he T hT=>(q9a hnp he hT).elim),fun h=>absurd hkp h⟩
def FAt(ct:Ct)(ds outs:List D):Prop:=∀(A:Nat→Prop)(F:Flr)(p:qi)(w:World)(vs us:List Value),qgn ct F ds→Flo F w w→Pre ct.ar.length A F p w→vs.length=ct.ar.length→j6 (vs++us) A p w ct.all (vs++us) ds→
  Calls uA ct.f vs.toArray w fun e w'=>(∃T,ct.pn=some T∧outs=[.u]∧e=.panicked (qbs T)∧But (pinned p) w w')∨∃rs p',e=.returned (qi5 rs)∧Bs A F w (pinned p) p' w'∧qav A p' w' ct.rs ct.ar.length rs (outs.take ct.rs.length)∧q45 A p p' w' ct.all (outs.drop ct.rs.length)
theorem FOk.of_at{ct:Ct}(hen:∀args w,(callFunc ct.f args).run uA w=.ok (.enter ct.f args) w)(h:∀ds outs,WfA ct.ars ds→g ds=some outs→FAt ct ds outs)(hkp:ct.kp=[]:=by rfl):FOk ct g:=
 ⟨hen,fun A F p w vs us ds outs hg hfl hfo hpre hvl hargs=>h ds outs (by rw[←all_map];exact hargs.wf.1) hg A F p w vs us hfl hfo hpre hvl hargs,fun h=>absurd hkp h⟩
theorem zmf{ct:Ct}{outs:List D}(tbl:Flr→Tbl)(ann:Ann)(fn:Func)(cd:Code)(htb:∀F,q0r (tbl F))(hf:uA.funcs[ct.f]? =some fn)(hb:fn.body=some cd)(hsz:ct.ar.length≤fn.ntmps)
  (h:∀F,(qfa uA (tbl F) ann ct fn cd).go (qe (tbl F)) (fun o=>o=outs) ds fun _ _=>False)(hnp:∀F,qa3 (tbl F)=true)(hfm:∀F,qgn ct F ds→∀te,F.mx te≤flM (tbl F) te):FAt ct ds outs:=
 fun A F p w vs us hfl hfo hpre hvl hargs=>qvk (tbl:=tbl F) ann fn cd (htb F) hf hb hsz (hfm F hfl) hfo hpre hvl hargs (fun _=>h F)
  (fun o rs p' w' ho h1 h2 h3=>.inr ⟨rs,p',rfl,h1,by rw[←ho];exact h2,by rw[←ho];exact h3⟩) (fun e he T hT=>(q9a (hnp F) he hT).elim) (fun _ e he T hT=>(q9a (hnp F) he hT).elim)
theorem z3s{ct:Ct}(ann:Ann)(fn:Func)(cd:Code)(htb:q0r tbl)(hf:uA.funcs[ct.f]? =some fn)(hb:fn.body=some cd)(hsz:ct.ar.length≤fn.ntmps)
  {outs:List D}(h:(qfa uA tbl ann ct fn cd).go (qe tbl) (fun o=>o=outs) ds fun _ _=>False)(hnp:qa3 tbl=true)(hfm:FlF ct tbl ds):FAt ct ds outs:=
 fun A F p w vs us hfl hfo hpre hvl hargs=>qvk ann fn cd htb hf hb hsz (hfm F hfl) hfo hpre hvl hargs (fun _=>h)
  (fun o rs p' w' ho h1 h2 h3=>.inr ⟨rs,p',rfl,h1,by rw[←ho];exact h2,by rw[←ho];exact h3⟩) (fun e he T hT=>(q9a hnp he hT).elim) (fun _ e he T hT=>(q9a hnp he hT).elim)
theorem q0r.nil:q0r []:=fun e he=>by cases he
theorem q0r.cons{ct:Ct}{l:Tbl}(h:FOk ct g)(hl:q0r l):q0r ((ct,g)::l):=fun e he=>by
 rcases uL.1 he with rfl|he
 ·exact h
 ·exact hl e he
end
variable{E:TypeId}
theorem Wf.row(h:Wf d (.row E)):∃l te,d=.r l∧qk E=some te∧l.length≤LM te∧∀x∈l,Wf x te:=by
 obtain⟨w,F,cs,h⟩:=h
 cases d with
 |r l=>
  obtain⟨E',te,A,cap,e,hte,e3,h1,h2,-,hR⟩:=h
  injection e with e
  subst e
  refine⟨l,te,rfl,hte,h2,fun x hx=>?_⟩
  obtain⟨i,hi,rfl⟩:=List.mem_iff_getElem.1 hx
  obtain⟨b,o,c,-,-,-,hr⟩:=q1m.1 hR i hi
  exact⟨w,F,c,hr⟩
 |u=>exact h.elim
 |i n=>obtain⟨k,e,-⟩:=h;cases e
 |b x=>cases h.1
 |s x=>cases h.1
 |a l=>obtain⟨T',fs0,e1,-⟩:=h;cases e1
 |mp l=>obtain⟨K,V,kt,vt,g,es,clock,e,-⟩:=h;cases e
theorem Wf.int{k:IntKind}(h:Wf d (.int k)):∃n,d=.i n∧yw k n=true:=by
 obtain⟨w,F,cs,h⟩:=h
 cases d with
 |i n=>
  obtain⟨k',e,-,hr⟩:=h
  injection e with e
  subst e
  exact⟨n,rfl,hr⟩
 |u=>exact h.elim
 |r l=>obtain⟨E,te,A,cap,e,-⟩:=h;cases e
 |b x=>cases h.1
 |s x=>cases h.1
 |a l=>obtain⟨T',fs0,e1,-⟩:=h;cases e1
 |mp l=>obtain⟨K,V,kt,vt,g,es,clock,e,-⟩:=h;cases e
theorem Wf.str(h:Wf d .str):∃x,d=.s x∧x.size≤LIM:=by
 obtain⟨w,F,cs,h⟩:=h
 cases d with
 |s x=>exact⟨x,rfl,h.2.2⟩
 |u=>exact h.elim
 |r l=>obtain⟨E,te,A,cap,e,-⟩:=h;cases e
 |i n=>obtain⟨k,e,-⟩:=h;cases e
 |b x=>cases h.1
 |a l=>obtain⟨T',fs0,e1,-⟩:=h;cases e1
 |mp l=>obtain⟨K,V,kt,vt,g,es,clock,e,-⟩:=h;cases e
def WfL:List D→List Ty→Prop
 |[],fs=>fs=[]
 |d::ds,fs=>∃t ts,fs=t::ts∧Wf d t∧WfL ds ts
theorem RdF.wf{w:World}{F:Nat→Prop}:∀{ds:List D}{fs:List Ty}{cs:List Value},RdF w F ds fs cs→WfL ds fs
 |[],fs,cs,h=>h.1
 |d::ds,fs,cs,h=>by
  obtain⟨t,ts,c1,c2,e1,-,h1,h2⟩:=h
  exact⟨t,ts,e1,⟨w,F,c1,h1⟩,RdF.wf h2⟩
theorem Wf.st{S:TypeId}(h:Wf d (.st S)):∃ds fs,d=.a ds∧flds S=some fs∧WfL ds fs:=by
 obtain⟨w,F,cs,h⟩:=h
 cases d with
 |a l=>
  obtain⟨T',fs0,e1,e2,h⟩:=h
  injection e1 with e1
  subst e1
  exact⟨l,fs0,rfl,e2,RdF.wf h⟩
 |u=>exact h.elim
 |r l=>obtain⟨E,te,A,cap,e,-⟩:=h;cases e
 |i n=>obtain⟨k,e,-⟩:=h;cases e
 |b x=>cases h.1
 |s x=>cases h.1
 |mp l=>obtain⟨K,V,kt,vt,g,es,clock,e,-⟩:=h;cases e
def zmh(e:Ev):List X→Bool
 |[]=>true
 |x::l=>(x.ev e).tt&&zmh e l
theorem zc7:∀{l:List X},zmh e l=true→q06 e l
 |[],_=>trivial
 |x::l,h=>by
  simp only[zmh,gnB] at h
  exact⟨h.1,zc7 h.2⟩
def itf(f:List D→Option (Nat×List D))(id:Nat):Nat→List D→Option (Nat×List D)
 |0,_=>none
 |k+1,st=>match f st with
  |some (j,st')=>if uI j (id+1) then itf f id k st' else some (j,st')
  |none=>none
def z4p:Nat×List D→Nat×List D→Bool:=fun a b=>uI a.1 b.1&&D.beqs a.2 b.2
def Tree.den(S:Nat→List D→Option (List D))(fuel:Nat):Tree→List D→Option (Nat×List D)
 |.bad _,_=>none
 |.need ns t,l=>if zmh (evl S l) ns then t.den S fuel l else none
 |.br x t e,l=>if(x.ev (evl S l)).tt then t.den S fuel l else e.den S fuel l
 | .amb x neg t e, l => if (x.ev (evl S l)).rs.isEmpty then (match t.den S fuel l, e.den S fuel l with
   |some a,some b=>if z4p a b then some a else none
   |_,_=>none) else if neg then t.den S fuel l else e.den S fuel l
 |.leaf xs,l=>some (0,X.evs (evl S l) xs)
 |.back id xs,l=>some (id+1,X.evs (evl S l) xs)
 |.loop id n init body,l=>itf (fun st=>body.den S fuel (l.take n++st)) id fuel (X.evs (evl S l) init)
def zps(R:List D→Prop)(B:Nat→List D→Prop):Nat×List D→Prop
  |(0,xs)=>R xs
  |(id+1,xs)=>B id xs
theorem zbm:∀{l m:List D},D.beqs l m=true→l=m
 |[],[],_=>rfl
 |x::l,y::m,h=>by
  simp only[D.beqs,gnB] at h
  rw[(D.beq_iff _ _).1 h.1,zbm h.2]
 |[],_::_,h=>by simp[D.beqs] at h
 |_::_,[],h=>by simp[D.beqs] at h
theorem z94{a b:Nat×List D}(h:z4p a b=true):a=b:=by
 obtain⟨i,l⟩:=a
 obtain⟨j,m⟩:=b
 simp only[z4p,gnB] at h
 rw[gnN h.1,zbm h.2]
theorem z8j(h:∃k,P k):∃m,P m∧∀k,P k→m≤k:=by
 obtain⟨k,hk⟩:=h
 induction k using Nat.strongRecOn with
 | _ k ih =>
  by_cases hl:∃j,j<k∧P j
  ·obtain⟨j,hj,hp⟩:=hl
   exact ih j hj hp
  ·exact⟨k,hk,fun j hj=>Nat.le_of_not_lt fun hlt=>hl ⟨j,hlt,hj⟩⟩
open Classical in
noncomputable def qja(P:Nat→Prop):Nat:=if h:∃k,P k then(z8j h).choose else 0
theorem z1h(h:∃k,P k):P (qja P)∧∀k,P k→qja P≤k:=by
 unfold qja
 rw[dif_pos h]
 exact(z8j h).choose_spec
variable{fuel:Nat}
theorem zf3:∀(t:Tree){l:List D}{B:Nat→List D→Prop}{out:Nat×List D},t.den S fuel l=some out→zps R B out→t.go S R l B:=by
 intro t
 induction t with
 |bad n=>intro l B out h;cases h
 | need ns t ih =>
  intro l B out h ho
  unfold Tree.den at h
  split at h
  ·rename_i hs
   exact⟨zc7 hs,ih h ho⟩
  ·cases h
 | br x t e iht ihe =>
  intro l B out h ho
  unfold Tree.den at h
  refine⟨fun hx=>?_,fun hx=>?_⟩
  ·rw[if_pos hx] at h
   exact iht h ho
  ·rw[if_neg (by rw[hx];decide)] at h
   exact ihe h ho
 | amb x neg t e iht ihe =>
  intro l B out h ho
  unfold Tree.den at h
  split at h
  ·split at h
   ·rename_i a b ha hb
    split at h
    ·rename_i hs
     injection h with h
     subst h
     have:=z94 hs
     subst this
     exact⟨fun _=>iht ha ho,fun _=>ihe hb ho⟩
    ·cases h
   ·cases h
  ·rename_i hne
   have hne':¬(x.ev (evl S l)).rs=[]:=fun e=>hne (by rw[e];rfl)
   split at h
   ·rename_i hn
    exact⟨fun _=>iht h ho,fun hc=>absurd (hc hn) hne'⟩
   ·rename_i hn
    exact⟨fun hc=>absurd (hc (by simpa using hn)) hne',fun _=>ihe h ho⟩
 |leaf xs=>
  intro l B out h ho
  simp only[Tree.den,uE] at h
  subst h
  exact ho
 |back id xs=>
  intro l B out h ho
  simp only[Tree.den,uE] at h
  subst h
  exact ho
 | loop id n init body ih =>
  intro l B out h ho
  unfold Tree.den at h
  generalize hf:(fun st=>body.den S fuel (l.take n++st))=f at h
  have hfe:∀st,body.den S fuel (l.take n++st)=f st:=fun st=>by rw[←hf]
  -- more rounds answer alike
  have mono:∀k st o,itf f id k st=some o→itf f id (k+1) st=some o:=by
   intro k
   induction k with
   |zero=>intro st o h;cases h
   | succ k ihk =>
    intro st o h
    unfold itf at h⊢
    split at h
    ·rename_i j st' hj
     split at h
     ·rename_i hb
      rw[if_pos hb]
      exact ihk _ _ h
     ·rename_i hb
      rw[if_neg hb]
      exact h
    ·cases h
  refine⟨fun st=>∃k o,itf f id k st=some o∧zps R B o,fun st=>qja fun k=>(itf f id k st).isSome=true,⟨fuel,out,h,ho⟩,?_⟩
  rintro st - ⟨k,o,hk,hoo⟩
  have hex:∃k,(itf f id k st).isSome=true:=⟨k,by rw[hk];rfl⟩
  obtain⟨hmin,-⟩:=z1h hex
  obtain⟨o',ho'⟩:=uY.1 hmin
  have up:∀a b st o,itf f id a st=some o→itf f id (a+b) st=some o:=by
   intro a b
   induction b with
   |zero=>intro st o h;exact h
   |succ b ihb=>intro st o h;exact mono _ _ _ (ihb st o h)
  have hoo':o'=o:=by
   have h1:=up _ k st o' ho'
   have h2:=up k (qja fun k=>(itf f id k st).isSome=true) st o hk
   rw[Nat.add_comm] at h2
   exact gnI (h1.symm.trans h2)
  rw[hoo'] at ho'
  cases hm:qja (fun k=>(itf f id k st).isSome=true) with
  |zero=>rw[hm] at ho';cases ho'
  | succ m =>
   rw[hm] at ho'
   unfold itf at ho'
   split at ho'
   ·rename_i j st' hj
    refine ih ((hfe st).trans hj) ?_
    split at ho'
    ·rename_i hb
     obtain rfl:=gnN hb
     show q2r B id _ id st'
     unfold q2r
     rw[if_pos rfl]
     refine⟨⟨m,o,ho',hoo⟩,?_⟩
     have hex':∃k,(itf f id k st').isSome=true:=⟨m,by rw[ho'];rfl⟩
     show _<qja (fun k=>(itf f id k st).isSome=true)
     rw[hm]
     exact Nat.lt_succ_of_le ((z1h hex').2 m (by rw[ho'];rfl))
    ·rename_i hb
     injection ho' with ho'
     subst ho'
     cases j with
     |zero=>exact hoo
     | succ j =>
      show q2r B id _ j st'
      unfold q2r
      rw[if_neg]
      ·exact hoo
      ·intro e
       subst e
       exact hb (kT _)
   ·cases ho'
def zgq:Option (Nat×List D)→Option (List D)
 |some (0,xs)=>some xs
 |_=>none
theorem zfs{o:Option (Nat×List D)}{xs:List D}(h:zgq o=some xs):o=some (0,xs):=by
 unfold zgq at h
 split at h
 ·injection h with h;rw[h]
 ·cases h
def qbe(tbl:Tbl)(fuel:Nat)(t:Tree):List D→Option (List D):=fun ds=>zgq (t.den (qe tbl) fuel ds)
theorem q15{t:Tree}{outs:List D}(h:qbe tbl fuel t ds=some outs):t.go (qe tbl) (fun o=>o=outs) ds fun _ _=>False:=
 zf3 t (zfs h) rfl
def upN(G:(List D→Option (List D))→List D→Option (List D)):Nat→List D→Option (List D)
 |0=>fun _=>none
 |n+1=>G (upN G n)
variable{ct:Ct}
theorem FOk.none(hen:∀args w,(callFunc ct.f args).run uA w=.ok (.enter ct.f args) w):FOk ct fun _=>Option.none:=⟨hen,fun A F p w vs us ds outs h=>(by cases h),fun _ A F p w vs us ds outs h=>(by cases h)⟩
theorem qvf{G:(List D→Option (List D))→List D→Option (List D)}(hen:∀args w,(callFunc ct.f args).run uA w=.ok (.enter ct.f args) w)(h:∀g,FOk ct g→FOk ct (G g)):∀n,FOk ct (upN G n)
 |0=>FOk.none hen
 |n+1=>h _ (qvf hen h n)
def q69(m:List D→Nat)(n:Nat)(g:List D→Option (List D)):List D→Option (List D):=fun ds=>if m ds<n then g ds else none
theorem qc2{m:List D→Nat}(hen:∀args w,(callFunc ct.f args).run uA w=.ok (.enter ct.f args) w)(h:∀n,FOk ct (q69 m n g)→FOk ct (q69 m (n+1) g)):FOk ct g:=by
 have key:∀n,FOk ct (q69 m n g):=by
  intro n
  induction n with
  |zero=>exact⟨hen,fun A F p w vs us ds outs h=>(by simp[q69] at h),fun _ A F p w vs us ds outs h=>(by simp[q69] at h)⟩
  |succ n ih=>exact h n ih
 refine⟨hen,fun A F p w vs us ds outs hg f1 f2 hp hl ha=>(key (m ds+1)).call A F p w vs us ds outs ?_ f1 f2 hp hl ha,fun hk A F p w vs us ds outs hg f1 f2 hp hl ha=>(key (m ds+1)).keep hk A F p w vs us ds outs ?_ f1 f2 hp hl ha⟩<;>
 ·simp only[q69,if_pos (kN _)]
  exact hg
theorem FOk.sub{g':List D→Option (List D)}(h:FOk ct g)(hs:∀ds outs,g' ds=some outs→g ds=some outs):FOk ct g':=⟨h.enter,fun A F p w vs us ds outs hg f1 f2 hp hl ha=>h.call A F p w vs us ds outs (hs ds outs hg) f1 f2 hp hl ha,fun hk A F p w vs us ds outs hg f1 f2 hp hl ha=>h.keep hk A F p w vs us ds outs (hs ds outs hg) f1 f2 hp hl ha⟩
section
section
variable{A A':Nat→Prop}{F:Flr}{p:qi}{w:World}(hA:∀b,b<w.heap.size→A b→A' b)
include hA
theorem FFD.chA{b:Nat}(hb:b<w.heap.size)(h:FFD A p dep b):FFD A' p dep b:=by
 rcases h with⟨h1,h2⟩|h
 ·exact .inl ⟨hA b hb h1,h2⟩
 ·exact .inr h
theorem Rd.chA(h:Rd w (FFD A p dep) d t cs):Rd w (FFD A' p dep) d t cs:=Rd.mono (fun b hb hf=>hf.chA hA hb) h
theorem Fl.chA{o:Option Nat}(h:Fl A p w dep o d t cs):Fl A' p w dep o d t cs:=by
 cases o with
 |none=>exact Rd.chA hA h
 | some pin =>
  rcases h with⟨E,te,l,v,e1,hte,e2,e3,hv⟩|h
  ·refine .inl ⟨E,te,l,v,e1,hte,e2,e3,?_⟩
   rcases hv with hv|⟨g,cap,cur,e4,hg,hh,q1,q2,q3,q4,q5⟩
   ·exact .inl hv
   ·refine .inr ⟨g,cap,cur,e4,hg,hh,q1,q2,q3,q4,fun i hi=>?_⟩
    obtain⟨vs,hr1,hd⟩:=q5 i hi
    exact⟨vs,hr1,Rd.chA hA hd⟩
  ·exact .inr h
theorem Fls.chA{own:List (Nat×Nat)}:∀{ds:List D}{j:Nat}{fs:List Ty}{cs:List Value},Fls A p w dep own j ds fs cs→Fls A' p w dep own j ds fs cs
 |[],_,_,_,h=>h
 |d::ds,j,fs,cs,⟨t,ts,c1,c2,e1,e2,h1,h2⟩=>⟨t,ts,c1,c2,e1,e2,Fl.chA hA h1,Fls.chA h2⟩
theorem Con.chA{own:List (Nat×Nat)}(h:Con A p w d t own dep cs):Con A' p w d t own dep cs:=by
 unfold Con at h⊢
 split
 ·obtain⟨fs,ds,hf,e,h⟩:=h
  exact⟨fs,ds,hf,e,Fls.chA hA h⟩
 ·rename_i hne
  split at h
  ·rename_i T;exact absurd rfl (hne T)
  ·exact Fl.chA hA h
end
mutual
/-- No word of a snapshot within. -/
def AV.plain:AV→Bool
 |.sn _ _=>false
 |.pt _ _ _ _=>false
 |.ar _ _ _=>false
 |.lv _ _=>false
 |.ax _ _ _ _=>false
 |.tup l=>qfc l
 |.gd _ a=>AV.plain a
 |.fn _ l=>qfc l
 |.bx _ _ a=>AV.plain a
 |.fr _ a=>AV.plain a
 |.ff _ _ _ _ _ _ _ _=>true
 |_=>true
def qfc:List AV→Bool
 |[]=>true
 |a::l=>AV.plain a&&qfc l
end
section
variable{c c':Cx}{p:qi}{w:World}
mutual
theorem AV.chA(hA:∀b,b<w.heap.size→c.A b→c'.A b)(hv:c.v=c'.v)(hT:c.At=c'.At)(hF:c.F=c'.F):∀(x:AV)(v:Value),x.plain=true→x.pd c p w v→x.pd c' p w v
 |.any,v,_,h=>h
 |.undef,v,_,h=>h
 |.nilS,v,_,h=>h
 |.nb x neg,v,_,⟨b,e,h⟩=>⟨b,e,by rw[←hv];exact h⟩
 |.nilP,v,_,h=>h
 |.ref k q o t,v,_,⟨g,hg,e,ha⟩=>⟨g,hg,e,by rw[←hT];exact ha⟩
 |.v x t own dep,v,_,⟨cs,hp,hc⟩=>⟨cs,hp,by rw[←hv];exact hc.chA hA⟩
 | .rd x t dep wr, v, _, ⟨b, o, cs, e, hf, hr, h0, hd, hw⟩ => by
  refine⟨b,o,cs,e,hf.chA hA (qdp hr h0),hr,h0,by rw[←hv];exact Rd.chA hA hd,?_⟩
  match wr,hw with
  |none,_=>trivial
  |some (pin,i,pt,q,te),hw=>
   refine⟨hw.1,?_⟩
   rw[←hv]
   exact hw.2
 |.tup l,v,hb,⟨vs,e,h⟩=>⟨vs,e,z4o hA hv hT hF l vs (by simpa[AV.plain] using hb) h⟩
 |.gd cs a,v,hb,h=>by
  rw[show AV.pd c' p w (.gd cs a) v=((hold c'.v cs=true→AV.pd c' p w a v)∧(hold c'.v cs=false→v=Go.undef)) from rfl,←hv]
  exact⟨fun hc=>AV.chA hA hv hT hF a v (by simpa[AV.plain] using hb) (h.1 hc),h.2⟩
 |.fn f l,v,hb,⟨vs,e,h⟩=>⟨vs,e,z4o hA hv hT hF l vs (by simpa[AV.plain] using hb) h⟩
 |.bx k T a,v,hb,⟨g,u,hg,e,hh,h⟩=>⟨g,u,⟨hg.1,by rw[←hT];exact hg.2⟩,e,hh,AV.chA hA hv hT hF a u (by simpa[AV.plain] using hb) h⟩
 |.sn t a,v,hb,h=>by simp[AV.plain] at hb
 |.pt _ _ _ _,v,hb,h=>by simp[AV.plain] at hb
 |.ar _ _ _,v,hb,h=>by simp[AV.plain] at hb
 |.lv _ _,v,hb,h=>by simp[AV.plain] at hb
 |.ax _ _ _ _,v,hb,h=>by simp[AV.plain] at hb
 |.fr T a,v,hb,⟨g,u,ha,hf,e,hh,h⟩=>⟨g,u,hA g (Array.getElem?_eq_some_iff.1 hh).1 ha,hf,e,hh,AV.chA hA hv hT hF a u (by simpa[AV.plain] using hb) h⟩
 |.ff f T1 x1 t1 T2 x2 t2 dep,v,_,⟨g,cs1,cs2,e,ha,hb,hfr,hg,hg2,r1,r2⟩=>⟨g,cs1,cs2,e,⟨hA g (qr hg) ha.1,ha.2⟩,⟨hA (g+1) (qr hg2) hb.1,hb.2⟩,by rw[←hF];exact hfr,hg,hg2,by rw[←hv];exact Rd.mono (fun b hb h=>⟨h.1.imp (fun y=>⟨hA b hb y.1,y.2⟩) id,h.2⟩) r1,by rw[←hv];exact Rd.mono (fun b hb h=>⟨h.1.imp (fun y=>⟨hA b hb y.1,y.2⟩) id,h.2⟩) r2⟩
theorem z4o(hA:∀b,b<w.heap.size→c.A b→c'.A b)(hv:c.v=c'.v)(hT:c.At=c'.At)(hF:c.F=c'.F):∀(l:List AV)(vs:List Value),qfc l=true→pds c p w l vs→pds c' p w l vs
 |[],vs,_,h=>h
 |a::l,vs,hb,⟨v,r,e,ha,hl⟩=>by
  simp only[qfc,gnB] at hb
  exact⟨v,r,e,AV.chA hA hv hT hF a v hb.1 ha,z4o hA hv hT hF l r hb.2 hl⟩
end
theorem q1j.chA(hA:∀b,b<w.heap.size→c.A b→c'.A b)(hv:c.v=c'.v){k:Nat}{e:Ent}(h:q1j c p w k e):q1j c' p w k e:=by
 obtain⟨g,cs,T,hg,hh,hty,hc⟩:=h
 exact⟨g,cs,T,hg,hh,hty,by rw[←hv];exact hc.chA hA⟩
def zg5(l:List (Nat×AV)):Bool:=l.all fun e=>e.2.plain
end
section
variable{A:Nat→Prop}{F:Flr}{p p':qi}{w w' w0:World}{S0:Nat→Prop}
theorem Bs.anew(h:Bs A F w0 S0 p w):Bs A F w (pinned p) p w:=
 ⟨h.inj,h.bd,But.refl _ _,fun x b hx=>.inl ⟨x,hx⟩,fun b hb=>h.new b (uK h.but.size hb),h.pa,h.obj,h.flo.anew⟩
theorem Bs.comp(h:Bs A F w0 S0 p w)(h':Bs A F w (pinned p) p' w'):Bs A F w0 S0 p' w':=by
 refine⟨h'.inj,h'.bd,⟨h'.but.os.trans h.but.os,h'.but.tape.trans h.but.tape,h'.but.output.trans h.but.output,uK h.but.size h'.but.size,fun k hk hn=>?_⟩,fun x b hx=>?_,h.new,h'.pa,h'.obj,h.flo.trans h'.flo⟩
 ·have hkw:k<w.heap.size:=kI hk h.but.size
  refine(h'.but.block k hkw fun⟨x,hx⟩=>?_).trans (h.but.block k hk hn)
  rcases h.pin x k hx with h1|h1
  ·exact hn h1
  ·omega
 ·rcases h'.pin x b hx with⟨y,hy⟩|h1
  ·exact h.pin y b hy
  ·exact .inr (uK h.but.size h1)
theorem Bs.stays(h':Bs A F w (pinned p) p' w'){b:Nat}(hb:b<w.heap.size)(hf:q7j p b):w'.heap[b]? =w.heap[b]?∧q7j p' b:=by
 refine⟨h'.but.block b hb fun⟨x,hx⟩=>hf x hx,fun x hx=>?_⟩
 rcases h'.pin x b hx with⟨y,hy⟩|h1
 ·exact hf y hy
 ·omega
end
end
section
section
variable{c:Cx}{p:qi}{w w' w0:World}{S0:Nat→Prop}{a:Act}{σ σ':St}{d:List Deferred}{z:Nat}{tbl:Tbl}{A:Nat→Prop}{F:Flr}
theorem zep{l:Nat}(hA:¬A l)(pa:∀x b,p x=some b→A b)(o:Obj):Stab A no no p w p (w.putObj l o):=by
 refine⟨by simp,fun b hb ha hf=>⟨uG (fun e=>hA (e▸ha)),hf⟩,fun x b _ hx=>hx,fun x b _ hx=>uG (fun e=>hA (e▸pa x b hx))⟩
theorem SF.same(hs:Stab c.A no no p w p w')(h:SF c σ p w a):SF c σ p w' a:=by
 refine⟨fun t x hx=>?_,fun k e he=>(h.m k e he).kept hs (fun _ _=>⟨rfl,rfl⟩) ⟨rfl,rfl⟩⟩
 obtain⟨v,h1,h2⟩:=h.t t x hx
 exact⟨v,h1,AV.kept hs x v (fun _ _=>⟨rfl,rfl⟩) (fun _ _=>rfl) h2⟩
end
end
variable{S0:Nat→Prop}
section
def qx0(D:Nat):Deferred:={target:=.collected D,args:= #[]}
def Dfs(A:Nat→Prop)(lb:Nat)(d:List Deferred)(w:World)(ds:List Deferred):Prop:=∃Ds:List Nat,ds=Ds.map qx0++d∧Ds.Nodup∧∀D∈Ds,lb≤D∧w.heap[D]? =some (.deferred (some []))∧¬A D
theorem Bs.up{A':Nat→Prop}{p':qi}{w w' w0:World}(h:Bs A F w0 S0 p w)(h':Bs A' F w (pinned p) p' w')(hA:∀b,A' b→A b):Bs A F w0 S0 p' w':=
 h.comp ⟨h'.inj,h'.bd,h'.but,h'.pin,fun b hb=>h.new b (uK h.but.size hb),fun x b hx=>hA b (h'.pa x b hx),h'.obj,h'.flo⟩
section
variable{lo z:Nat}{tbl:Tbl}
end
end
def shut(w:World)(D:Nat):World:=w.putObj D (.deferred none)
def q1v(w:World)(Ds:List Nat):World:=Ds.foldl shut w
theorem z01{F:Fence}{n:Nat}{R:Ending→World→Prop}:∀(Ds:List Nat)(w:World),Ds.Nodup→(∀D∈Ds,w.heap[D]? =some (.deferred (some [])))→LeavesIn F n uA fn tmps R [] .returning (q1v w Ds)→LeavesInM F n uA fn tmps R (Ds.map qx0) .returning w
 |[],w,_,_,h=>h
 |D::Ds,w,hn,hd,h=>by
  obtain⟨h1,h2⟩:=List.nodup_cons.1 hn
  exact⟨by simp,.inl ⟨D,_,rfl,run_takeDeferred (hd D uD),z01 Ds _ h2 (fun D' hD'=>(uG (fun e=>h1 (by rw[←e];exact hD'))).trans (hd D' (uB _ hD'))) h⟩⟩
theorem qiy(pa:∀x b,p x=some b→A b):∀(Ds:List Nat)(w:World),(∀D∈Ds,¬A D)→Stab A no no p w p (q1v w Ds)
 |[],w,_=>Stab.refl _ _ _ _ _
 |D::Ds,w,h=>by
  have h1:=zep (w:=w) (h D uD) pa (.deferred none)
  have h2:=qiy pa Ds (w.putObj D (.deferred none)) fun D' hD'=>h D' (uB _ hD')
  exact⟨uK h1.size h2.size,fun b hb ha hf=>⟨(h2.free b (kI hb h1.size) ha hf).1.trans (h1.free b hb ha hf).1,hf⟩,fun x b _ hx=>hx,fun x b _ hx=>(h2.con x b rfl hx).trans (h1.con x b rfl hx)⟩
theorem qt7{A':Nat→Prop}(hfz:∀te,F.mx te=0){w0:World}(pa:∀x b,p x=some b→A' b):∀(Ds:List Nat)(w:World),Bs A F w0 S0 p w→(∀D∈Ds,w0.heap.size≤D∧¬A' D)→Bs A F w0 S0 p (q1v w Ds)
 |[],w,h,_=>h
 |D::Ds,w,h,hD=>by
  obtain⟨h1,h2⟩:=hD D uD
  refine qt7 hfz pa Ds (w.putObj D (.deferred none)) ⟨h.inj,fun x b hx=>by simpa using h.bd x b hx,⟨h.but.os,h.but.tape,h.but.output,by simpa using h.but.size,fun k hk hn=>(uG (by omega)).trans (h.but.block k hk hn)⟩,h.pin,h.new,h.pa,fun x b hx=>(h.obj x b hx).same (uG (fun e=>h2 (by rw[←e];exact pa x b hx))),Flo.of0 hfz h.flo⟩ fun D' hD'=>hD D' (uB _ hD')
theorem qav.chA{A':Nat→Prop}{w:World}(hA:∀b,b<w.heap.size→A b→A' b):∀{rs:List (Ty×Bool)}{k:Nat}{vs:List Value}{ds:List D},qav A p w rs k vs ds→qav A' p w rs k vs ds
  |[],_,_,_,h=>h
  |(t,own)::l,k,vs,ds,⟨v,r,d,ds',e1,e2,⟨cs,hp,hc⟩,h⟩=>⟨v,r,d,ds',e1,e2,⟨cs,hp,hc.chA hA⟩,qav.chA hA h⟩
theorem q45.chA{A':Nat→Prop}{p':qi}{w:World}(hA:∀b,b<w.heap.size→A b→A' b):∀{all:List (Nat×Ar)}{ds:List D},q45 A p p' w all ds→q45 A' p p' w all ds
  |[],_,h=>h
  | (i, r) :: l, ds, h => by
    cases r with
    | ref t o =>
      obtain⟨d,ds',e,⟨g,cs,T,h1,h2,h3,hty,hc⟩,h⟩:=h
      exact⟨d,ds',e,⟨g,cs,T,h1,h2,h3,hty,hc.chA hA⟩,q45.chA hA h⟩
    | mref t =>
      obtain⟨d,ds',e,⟨g,h1,h2,hc⟩,h⟩:=h
      exact⟨d,ds',e,⟨g,h1,h2,hc.chA hA⟩,q45.chA hA h⟩
    |_=>exact q45.chA hA (all:=l) h
def ztb:Ar→Bool
 |.mref _=>false
 |_=>true
section
theorem yh(n:Int):(D.i n).int=n:=rfl
theorem q5i(x:Bool):(D.b x).tt=x:=by cases x<;>rfl
theorem q35(l:List D):(D.r l).rs=l:=rfl
theorem zuf(l:List D):(D.a l).fs=l:=rfl
theorem q1z(x:ByteArray):(D.s x).str=x:=rfl
theorem zbt(l:List D):(D.mp l).ms=l:=rfl
theorem qim(m n:Int):(D.i m=D.i n)=(m=n):=by simp
theorem zp4(m n:Bool):(D.b m=D.b n)=(m=n):=by simp
theorem zi2(m n:ByteArray):(D.s m=D.s n)=(m=n):=by simp
theorem qj{S:Nat→List D→Option (List D)}{R:List D→Prop}{ns:List X}{t:Tree}{l:List D}{B:Nat→List D→Prop}:(Tree.need ns t).go S R l B=(q06 (evl S l) ns∧t.go S R l B):=rfl
theorem zd{S:Nat→List D→Option (List D)}{R:List D→Prop}{x:X}{t e:Tree}{l:List D}{B:Nat→List D→Prop}:(Tree.br x t e).go S R l B=(((x.ev (evl S l)).tt=true→t.go S R l B)∧((x.ev (evl S l)).tt=false→e.go S R l B)):=rfl
theorem q4n{S:Nat→List D→Option (List D)}{R:List D→Prop}{xs:List X}{l:List D}{B:Nat→List D→Prop}:(Tree.leaf xs).go S R l B=R (X.evs (evl S l) xs):=rfl
theorem z3g{S:Nat→List D→Option (List D)}{R:List D→Prop}{id:Nat}{xs:List X}{l:List D}{B:Nat→List D→Prop}:(Tree.back id xs).go S R l B=B id (X.evs (evl S l) xs):=rfl
theorem j3{id n:Nat}{init:List X}{body:Tree}{l:List D}:(Tree.loop id n init body).go S R l B=∃(I:List D→Prop)(μ:List D→Nat),I (X.evs (evl S l) init)∧
   ∀st,st.length=init.length→I st→body.go S R (l.take n++st) (q2r B id fun st'=>I st'∧μ st'<μ st):=rfl
theorem q6k{n:Int}:yw .i64 n=true↔-9223372036854775808≤n∧n≤9223372036854775807:=by simp[yw]
section
variable{α:Type}[Inhabited α]
theorem get_map(e:α→D){l:List α}(h:i<l.length):(l.map e).getD i .u=e (l.getD i default):=by
 simp[gnG,h]
theorem z0b(e:α→D){l:List α}{i:Int}(h0:0≤i)(h:i<l.length):(D.r (l.map e)).get i=e (l.getD i.toNat default):=get_map e (by omega)
theorem q3k(e:α→D){l:List α}(h:i<l.length):(D.r (l.map e)).get (i:Int)=e (l.getD i default):=get_map e (by simpa using h)
omit [Inhabited α] in
theorem map_inj{e:α→D}(he:∀a b,e a=e b→a=b):∀{l m:List α},l.map e=m.map e→l=m
 |[],[],_=>rfl
 |a::l,b::m,h=>by
  simp only[kQ,List.cons.injEq] at h
  rw[he a b h.1,map_inj he h.2]
 |[],_::_,h=>by simp at h
 |_::_,[],h=>by simp at h
omit [Inhabited α] in
theorem qdx{e:α→D}{P:α→Prop}{l:List D}(h:∀x∈l,∃a,x=e a∧P a):∃m:List α,l=m.map e∧∀a∈m,P a:=by
 induction l with
 |nil=>exact⟨[],rfl,fun a ha=>by cases ha⟩
 |cons x l ih=>
  obtain⟨a,rfl,ha⟩:=h x uD
  obtain⟨m,rfl,hm⟩:=ih fun y hy=>h y (uB _ hy)
  refine⟨a::m,rfl,fun b hb=>?_⟩
  rcases uL.1 hb with rfl|hb
  ·exact ha
  ·exact hm b hb
theorem q5p{l:List α}(h:i<l.length):l.getD i default∈l:=by
 rw[gnG,gnK h]
 exact List.getElem_mem h
theorem qah{l:List α}{k:Nat}(h:k<l.length):l.take (k+1)=l.take k++[l.getD k default]:=by
 rw[List.take_add_one,gnK h]
 simp[gnG,h]
end
theorem q8t{n:Nat}{P:Nat→Bool}(h:∀j,j<n→P j=true):(uN n).all P=true:=by
 rw[uH]
 exact fun j hj=>h j (uZ.1 hj)
theorem qaa{n k:Nat}{P:Nat→Bool}(hk:k<n)(h:P k=false):(uN n).all P=false:=by
 cases ha:(uN n).all P with
 |false=>rfl
 |true=>rw[uH.1 ha k (uZ.2 hk)] at h;cases h
theorem qul{n k:Nat}{P:Nat→Bool}(h:(uN n).all P=true)(hk:k<n):P k=true:=uH.1 h k (uZ.2 hk)
theorem q2u{k:Nat}(h:∀j,j<k→P j)(hk:P k):∀j,j<k+1→P j:=fun j hj=>by
 rcases Nat.lt_succ_iff_lt_or_eq.1 hj with h1|h1
 ·exact h j h1
 ·exact h1▸hk
theorem z7s{u:Ty}(h:WfL ds [t,u]):∃a b,ds=[a,b]∧Wf a t∧Wf b u:=by
 match ds,h with
 |[],h=>cases h
 |[a],h=>obtain⟨t,ts,e,h1,h2⟩:=h;rw[h2] at e;cases e
 |[a,b],h=>
  obtain⟨t,ts,e,h1,t2,ts2,e2,h2,-⟩:=h
  injection e with e e'
  subst e e'
  injection e2 with e2 e2'
  subst e2
  exact⟨a,b,rfl,h1,h2⟩
 |a::b::c::l,h=>obtain⟨t,ts,e,h1,t2,ts2,e2,h2,t3,ts3,e3,-⟩:=h;subst e2 e3;cases e
theorem qbk{ts:List Ty}(h:WfL ds (t::ts)):∃a r,ds=a::r∧Wf a t∧WfL r ts:=by
 match ds,h with
 |[],h=>cases h
 |a::r,h=>
  obtain⟨t,ts,e,h1,h2⟩:=h
  injection e with e e'
  subst e e'
  exact⟨a,r,rfl,h1,h2⟩
theorem Wf.st_of{S:TypeId}{fs:List Ty}(h:Wf d (.st S))(hf:flds S=some fs):∃ds,d=.a ds∧WfL ds fs:=by
 obtain⟨ds,fs',rfl,hf',hl⟩:=h.st
 rw[hf] at hf'
 injection hf' with hf'
 subst hf'
 exact⟨ds,rfl,hl⟩
theorem Wf.row_of{te:Ty}(h:Wf d (.row E))(hE:qk E=some te):∃l,d=.r l∧l.length≤LM te∧∀x∈l,Wf x te:=by
 obtain⟨l,te',rfl,hE',h1,h2⟩:=h.row
 rw[hE] at hE'
 injection hE' with hE'
 subst hE'
 exact⟨l,rfl,h1,h2⟩
end
variable{K:Act→World→Prop}
section
def zwm(o:Oper):Bool:=match o.op with
 |.defer _=>true
 |_=>false
def qhp:Code→Option (List Code×Nat×List Oper×Code)
 |.seq (.region id ops false) y=>if ops.toList.any zwm then some ([],id,ops.toList,y) else(qhp y).map fun r=>(.region id ops false::r.1,r.2)
 |.seq x y=>(qhp y).map fun r=>(x::r.1,r.2)
 |_=>none
def zfb(P:Program)(Q:Exit→Act→World→Prop):List Code→(Act→World→Prop)→Act→World→Prop
 |[],K=>K
 |x::xs,K=>fun a w=>x.wp P (Exit.then (zfb P Q xs K) Q) a w
theorem z3i{P:Program}:∀{cd:Code}{xs:List Code}{id:Nat}{ops:List Oper}{post:Code},qhp cd=some (xs,id,ops,post)→∀{a:Act}{w:World},zfb P Q xs (fun a w=>(Code.seq (.region id ops.toArray false) post).wp P Q a w) a w→cd.wp P Q a w
 | .seq x y, xs, id, ops, post, h, a, w, hw => by
  unfold qhp at h
  split at h
  ·rename_i id' ops' y' e
   injection e with e1 e2
   subst e1 e2
   split at h
   ·simp only[gnS] at h
    obtain⟨rfl,rfl,rfl,rfl⟩:=h
    exact hw
   ·obtain⟨⟨xs1,r1⟩,h1,h2⟩:=kB.1 h
    simp only[Prod.mk.injEq] at h2
    obtain⟨rfl,rfl⟩:=h2
    refine wp_seq (wp_mono hw fun e a w hq=>?_)
    cases e with
    |normal=>exact z3i h1 hq
    |_=>exact hq
  ·rename_i x' y' hne e
   injection e with e1 e2
   subst e1 e2
   obtain⟨⟨xs1,r1⟩,h1,h2⟩:=kB.1 h
   simp only[Prod.mk.injEq] at h2
   obtain⟨rfl,rfl⟩:=h2
   refine wp_seq (wp_mono hw fun e a w hq=>?_)
   cases e with
   |normal=>exact z3i h1 hq
   |_=>exact hq
  ·cases h
 |.skip,_,_,_,_,h,_,_,_=>by simp[qhp] at h
 |.region _ _ _,_,_,_,_,h,_,_,_=>by simp[qhp] at h
 |.cond _ _ _,_,_,_,_,h,_,_,_=>by simp[qhp] at h
 |.block _ _,_,_,_,_,h,_,_,_=>by simp[qhp] at h
 |.exit _,_,_,_,_,h,_,_,_=>by simp[qhp] at h
 |.ret,_,_,_,_,h,_,_,_=>by simp[qhp] at h
 |.loop _,_,_,_,_,h,_,_,_=>by simp[qhp] at h
 |.label _,_,_,_,_,h,_,_,_=>by simp[qhp] at h
 |.scope _,_,_,_,_,h,_,_,_=>by simp[qhp] at h
 |.goto _,_,_,_,_,h,_,_,_=>by simp[qhp] at h
 |.rangeFunc _ _ _ _,_,_,_,_,h,_,_,_=>by simp[qhp] at h
def zlo(o:Oper):Option Nat:=match o.op,o.dst,o.guard with
 |.defer c,none,none=>(match c.callee,c.args.toList with
  |.value (.tmp t),[]=>some t
  |_,_=>none)
 |_,_,_=>none
mutual
def q9x:AV→Bool
 |.sn _ _=>false
 |.tup l=>z6v l
 |.gd _ a=>q9x a
 |.fn _ l=>z6v l
 |.bx _ _ a=>q9x a
 |.ax _ _ _ a=>q9x a
 |.fr _ a=>q9x a
 |.pt _ _ _ a=>q9x a
 |_=>true
def z6v:List AV→Bool
 |[]=>true
 |a::l=>q9x a&&z6v l
end
section
variable{c:Cx}{s:Nat→Value}{p:qi}{w:World}
mutual
theorem qc5:∀(a:AV)(v:Value),q9x a=true→AV.pd c p w a v→AV.pd {c with snap:=s} p w a v
 |.sn _ _,v,h,_=>by simp[q9x] at h
 |.tup l,v,h,hp=>by
  obtain⟨vs,e,hl⟩:=hp
  exact⟨vs,e,qws l vs (by simpa[q9x] using h) hl⟩
 |.gd cs a,v,h,hp=>⟨fun hh=>qc5 a v (by simpa[q9x] using h) (hp.1 hh),hp.2⟩
 |.fn f l,v,h,hp=>by
  obtain⟨vs,e,hl⟩:=hp
  exact⟨vs,e,qws l vs (by simpa[q9x] using h) hl⟩
 |.bx k T a,v,h,hp=>by
  obtain⟨g,u,h1,h2,h3,h4⟩:=hp
  exact⟨g,u,h1,h2,h3,qc5 a u (by simpa[q9x] using h) h4⟩
 |.ax k T n a,v,h,hp=>by
  obtain⟨g,cs,h1,h2,h3,h4,h5⟩:=hp
  exact⟨g,cs,h1,h2,h3,h4,qc5 a _ (by simpa[q9x] using h) h5⟩
 |.fr T a,v,h,hp=>by
  obtain⟨g,u,h1,h2,h3,h4,h5⟩:=hp
  exact⟨g,u,h1,h2,h3,h4,qc5 a u (by simpa[q9x] using h) h5⟩
 |.ff _ _ _ _ _ _ _ _,v,_,hp=>hp
 |.pt pin i E a,v,h,hp=>⟨hp.1,qc5 a v (by simpa[q9x] using h) hp.2⟩
 |.any,v,_,hp=>hp
 |.undef,v,_,hp=>hp
 |.v _ _ _ _,v,_,hp=>hp
 |.nilS,v,_,hp=>hp
 |.nilP,v,_,hp=>hp
 |.ref _ _ _ _,v,_,hp=>hp
 |.rd _ _ _ _,v,_,hp=>hp
 |.nb _ _,v,_,hp=>hp
 |.ar _ _ _,v,_,hp=>hp
 |.lv _ _,v,_,hp=>hp
theorem qws:∀(l:List AV)(vs:List Value),z6v l=true→pds c p w l vs→pds {c with snap:=s} p w l vs
 |[],vs,_,hp=>hp
 |a::l,vs,h,hp=>by
  simp only[z6v,gnB] at h
  obtain⟨v,r,e,h1,h2⟩:=hp
  exact⟨v,r,e,qc5 a v h.1 h1,qws l r h.2 h2⟩
end
end
def q6o(P:Program)(tbl:Tbl)(ann:Ann)(lo z:Nat):List Code→Nat→St→(Nat→ResD→St→Tree)→Tree
 |[],n,σ,k=>k n .normal σ
 |x::xs,n,σ,k=>toT P tbl ann lo z x [] n σ fun n' r σ'=>match r with
  |.normal=>q6o P tbl ann lo z xs n' σ' k
  |.ret=>k n' .ret σ'
  |.exit i=>k n' (.exit i) σ'
section
variable{c:Cx}{p:qi}{w w0:World}{S0:Nat→Prop}{a:Act}{σ σ':St}{d:List Deferred}{z:Nat}{tbl:Tbl}
theorem zb5(htb:q0r tbl)(hfm:∀te,c.F.mx te≤flM tbl te){ann:Ann}(hnp:qa3 tbl=true):∀(xs:List Code){n:Nat}{σ:St}{k:Nat→ResD→St→Tree}{l:List D}{B:Nat→List D→Prop}{p:qi}{w:World}{a:Act},
  (q6o uA tbl ann c.lo z xs n σ k).go (qe tbl) R l B→l.length=n→Bs c.A c.F w0 S0 p w→SF (c.at (qe tbl) l) σ p w a→a.defers=d→a.tmps.size=z→
  (∀n' r σ' l' B' p' w' a',l'.length=n'→(k n' r σ').go (qe tbl) R l' B'→Bs c.A c.F w0 S0 p' w'→SF (c.at (qe tbl) l') σ' p' w' a'→a'.defers=d→a'.tmps.size=z→Exit.then K Q r.exit' a' w')→zfb uA Q xs K a w
 |[],n,σ,k,l,B,p,w,a,h,hl,hb,hf,hd,hz,hk=>hk n .normal σ l B p w a hl h hb hf hd hz
 |x::xs,n,σ,k,l,B,p,w,a,h,hl,hb,hf,hd,hz,hk=>by
  refine(wpIn_wide (n:=0)).1 ?_
  refine qo5 none 0 htb hfm x h hl hb hf hd hz (q60 hnp) (qln hnp) fun n' r σ' l' B' p' w' a' hl' _ _ hgo hb' hf' hd' hz'=>?_
  cases r with
  |normal=>exact zb5 htb hfm hnp xs hgo hl' hb' hf' hd' hz' hk
  |ret=>exact hk n' .ret σ' l' B' p' w' a' hl' hgo hb' hf' hd' hz'
  |exit i=>exact hk n' (.exit i) σ' l' B' p' w' a' hl' hgo hb' hf' hd' hz'
theorem zba{o:Oper}{t:Nat}(h:zlo o=some t){f:FuncId}{caps:Array Value}(hv:a.eval (.tmp t)=.func (.func f) #[] caps)(hk:K {a with defers:={target:=.fn (.func f) caps,args:= #[]}::a.defers} w):
  o.guard=none∧o.wp uA a w K Q:=by
 unfold zlo at h
 split at h
 ·rename_i cl ho hdst hg
  split at h
  ·rename_i t' hcal hargs
   injection h with h
   subst h
   refine⟨hg,?_⟩
   obtain⟨callee,⟨args⟩,tys⟩:=cl
   simp only at hcal hargs
   subst hcal hargs
   have hrun:(execOp a.eval o).run uA w=.ok (.defer {target:=.fn (.func f) caps,args:= #[]}) w:=by
    generalize a.eval=r at *
    simp[execOp,ho,resolve,Deferred.ofValue,hv]
   unfold Oper.wp
   rw[hrun]
   show K ({a with defers:=_::a.defers}.put o.dst undef) w
   rw[hdst]
   exact hk
  ·cases h
 ·cases h
end
end
end Go.Proofs.YtdaadonfbnedaaaGreat
