/-
 Lemmas of the walk and plain laws, put together. No condition.
-/
import Derived.Defers
import Derived.Laws.Tables
import Derived.Test.YtbmaffphliignaaKc
namespace Go.Proofs.Ytbmaffphliignaa
open Go.RowKit
set_option linter.unusedVariables false
set_option linter.unusedSimpArgs false
set_option maxRecDepth 100000
open _root_.And renaming intro→uA
open _root_.Go.Proofs.Try renaming prog→uB
open _root_.List renaming take_length→uC,getElem?_append_left→uF,getElem?_cons_succ→uG,mem_cons_self→uH,mem_cons_of_mem→uI,all_eq_true→uJ,getElem?_cons_zero→uL,getD_cons_zero→uM,mem_cons→uN,mem_append_right→uP,take_take→uQ,mem_append_left→uR,range→uS,length_append→uT,take_append_of_le_length→uV,length_map→uW,getElem?_append_right→uZ,getElem?_take_of_lt→kA,range'→kC,length→kD,take_succ_cons→kF,getD_cons_succ→kG,filter_cons→kK,cons_append→kL,any_eq_true→kM,nil_append→kP,mem_append→kQ,take_zero→kS,mem_range→kT
open _root_.Option.some renaming injEq→uD
open _root_.Nat renaming le_refl→uE,beq→uK,sub_self→uO,min_eq_left→uX,blt→kJ,lt_succ_self→kO,beq_refl→kX,add_zero→kY,blt_eq→kZ
open _root_.Array renaming eq_empty_of_size_eq_zero→uU,replicate→kN
open _root_.Option renaming isSome_iff_exists→uY,isSome_some→kB,getD_some→kI
open _root_.Bool renaming or_eq_true_iff→kH,or_true→kU
section
inductive Tree where
 |bad(n:Nat)
 |need(ns:List X)(t:Tree)
 |br(x:X)(t e:Tree)
 |amb(x:X)(neg:Bool)(t e:Tree)
 |leaf(xs:List X)
 |back(id:Nat)(xs:List X)
 |loop(id n:Nat)(init:List X)(body:Tree)
def evl(S:Nat→List D→Option (List D))(l:List D):Ev:=⟨fun k=>l.getD k .u,S⟩
def q98(e:Ev):List X→Prop
 |[]=>True
 |x::l=>x.says e∧q98 e l
def q0t(B:Nat→List D→Prop)(id:Nat)(I:List D→Prop):Nat→List D→Prop:=fun j=>if j=id then I else B j
def Tree.go(S:Nat→List D→Option (List D))(R:List D→Prop):Tree→List D→(Nat→List D→Prop)→Prop
 |.bad _,_,_=>False
 |.need ns t,l,B=>q98 (evl S l) ns∧t.go S R l B
 |.br x t e,l,B=>((x.ev (evl S l)).tt=true→t.go S R l B)∧((x.ev (evl S l)).tt=false→e.go S R l B)
 |.amb x neg t e,l,B=>((neg=false→(x.ev (evl S l)).rs=[])→t.go S R l B)∧((neg=true→(x.ev (evl S l)).rs=[])→e.go S R l B)
 |.leaf xs,l,B=>R (X.evs (evl S l) xs)
 |.back id xs,l,B=>B id (X.evs (evl S l) xs)
 | .loop id n init body, l, B => ∃ (I : List D → Prop) (μ : List D → Nat), I (X.evs (evl S l) init) ∧
   ∀st,st.length=init.length→I st→body.go S R (l.take n++st) (q0t B id fun st'=>I st'∧μ st'<μ st)
abbrev Item:=Nat×Ty×List (Nat×Nat)×List Nat
structure Head where
 ts:List (Nat×Ty×Bool)
 ms:List Nat
 kill:List Nat
 dep:List Nat
structure Ann where
 pub:List Nat
 heads:List (Nat×Head)
def prune(l:List Nat)(σ:St):St:=⟨σ.t.filter fun e=>zx l e.1,σ.m⟩
theorem qz1{α:Type}{q:Nat→Bool}{l:List (Nat×α)}{k:Nat}{e:α}(h:lkA (l.filter fun y=>q y.1) k=some e):lkA l k=some e:=by
 induction l with
 |nil=>cases h
 | cons a l ih =>
  obtain⟨j,x⟩:=a;by_cases hjk:j=k
  ·subst hjk;rw[kK] at h;split at h
   ·rw[q9] at h⊢;exact h
   ·rename_i hq;exfalso;have:=List.mem_filter.1 (jv h);exact hq this.2
  ·rw[qb hjk];rw[kK] at h;split at h
   ·rw[qb hjk] at h;exact ih h
   ·exact ih h
theorem z1m{c:Cx}{l:List Nat}{σ:St}{p:z0}{w:World}{a:Act}(h:SF c σ p w a):SF c (prune l σ) p w a:=⟨fun t x hx=>h.t t x (qz1 (q:=zx l) hx),h.m⟩
def sel{α:Type}(q:Nat→α→Bool):List (Nat×α)→List (Nat×α)
  |[]=>[]
  |(k,e)::l=>if q k e then(k,e)::sel q l else(sel q l).filter fun y=>y.1 !=k
theorem qqp{α:Type}{q:Nat→α→Bool}{l:List (Nat×α)}{k:Nat}{e:α}(h:lkA (sel q l) k=some e):lkA l k=some e∧q k e=true:=by
 induction l with
 |nil=>cases h
 | cons a l ih =>
  obtain⟨j,x⟩:=a;unfold sel at h;by_cases hjk:j=k
  ·subst hjk;split at h
   ·rename_i hq;rw[q9] at h;injection h with h;subst h;exact⟨q9,hq⟩
   ·rw[zb] at h;cases h
  ·rw[qb hjk];split at h
   ·rw[qb hjk] at h;exact ih h
   ·rw[q19 hjk] at h;exact ih h
def qqb(a b:List (Nat×Nat)):Bool:=a.all fun e=>match lkA b e.1 with
 |some x=>uK x e.2
 |none=>false
def qe8(a b:List (Nat×Nat)):Bool:=q36 a&&(q36 b&&(qqb a b&&qqb b a))
def SNK:Nat:=4000000000
def snB(ty:Ty)(dep:List Nat):Bool:=(q7k ty||qj2 ty)&&zx dep SNK
def itT(σ:St):Item→Option X
  | (t, ty, own, dep) => match lkA σ.t t with
    |some (.v x ty' own' dep')=>if !snB ty dep&&(Ty.beq ty' ty&&(qe8 own' own&&dep'.all (zx dep))) then some x else none
    |some (.sn q (.v x ty' own' dep'))=>if(!snB ty dep||uK q t)&&(Ty.beq ty' ty&&(qe8 own' own&&dep'.all (zx dep))) then some x else none
    | some .nilS => (match ty with
      |.row E=>if(qw E).isSome&& !zx dep SNK then some (.lit (.r [])) else none
      |_=>none)
    |_=>none
def itM(σ:St):Item→Option X
  | (k, ty, own, dep) => match lkA σ.m k with
    |some e=>if Ty.beq e.t ty&&(qe8 e.own own&&e.dep.all (zx dep)) then some e.x else none
    |none=>none
def its(f:Item→Option X):List Item→Option (List X)
 |[]=>some []
 |i::l=>match f i,its f l with
  |some x,some xs=>some (x::xs)
  |_,_=>none
def pairUp(own:List (Nat×Nat)):List (Nat×Nat)→List (Nat×Nat)
  |[]=>[]
  | (i, q) :: l => match lkA own i with
    |some x=>(x,q)::pairUp own l
    |none=>pairUp own l
def za5(σ:St)(t:Nat):List (Nat×Nat):=match lkA σ.t t with
 |some (.v _ _ own _)=>own
 |some (.sn _ (.v _ _ own _))=>own
 |_=>[]
def zbj(σ:St)(k:Nat):List (Nat×Nat):=match lkA σ.m k with
 |some e=>e.own
 |none=>[]
def z3j(f:Nat→List (Nat×Nat)):List Item→List (Nat×Nat)
  |[]=>[]
  |(k,_,own,_)::l=>pairUp (f k) own++z3j f l
def qhi(σ:St)(ts ms:List Item):List (Nat×Nat):=z3j (za5 σ) ts++z3j (zbj σ) ms
def conv(ts ms:List Item)(σ:St):Option (St×List X×List X):=if reB (qhi σ ts ms) then match its (itT (σ.ren (qhi σ ts ms))) ts,its (itM (σ.ren (qhi σ ts ms))) ms with
  |some a,some b=>some (σ.ren (qhi σ ts ms),a,b)
  |_,_=>none
 else none
def tgt(k:Nat)(ty:Ty)(own:List (Nat×Nat)):List (Nat×Nat):=(zd k ty).filter fun e=>(lkA own e.1).isSome
def z9l(σ:St):List (Nat×Ty×Bool)→List Item
  |[]=>[]
  | (t, ty, rd) :: l => (t, ty, (match lkA σ.t t with
    |some (.v _ _ own _)=>tgt t ty own
    |some (.sn _ (.v _ _ own _))=>tgt t ty own
    |some .nilS=>if rd then[] else zd t ty
    |_=>[]),[])::z9l σ l
def z9k(σ:St):List Nat→List Item
 |[]=>[]
 |k::l=>match lkA σ.m k with
  |some e=>(k,e.t,tgt k e.t e.own,[])::z9k σ l
  |none=>z9k σ l
def qpr(f:Nat→List Nat)(x:List Nat):List Item→List Item
  |[]=>[]
  |(k,ty,own,_)::l=>(k,ty,own,f k++x)::qpr f x l
def z8e(σ:St)(t:Nat):List Nat:=match lkA σ.t t with
 |some (.v _ _ _ dep)=>dep
 |some (.sn _ (.v _ _ _ dep))=>SNK::dep
 |_=>[]
def z7q(σ:St)(k:Nat):List Nat:=match lkA σ.m k with
 |some e=>e.dep
 |none=>[]
def heads(h:Head)(σ:St):List Item×List Item:=
 let ts:=z9l σ h.ts
 let ms:=z9k σ h.ms
 let σ1:=σ.ren (qhi σ ts ms)
 (qpr (z8e σ1) h.dep ts,qpr (z7q σ1) h.dep ms)
def keys(l:List Item):List Nat:=l.map (·.1)
def isAny:AV→Bool
 |.any=>true
 |_=>false
def qju(ts ms:List Item)(kill:List Nat)(n:Nat)(σ:St):St:=
 ⟨sel (fun t a=> !isAny a&&(!zx (keys ts) t&&(!zx kill t&&a.upto n))) σ.t,sel (fun k e=> !zx (keys ms) k&&X.upto n e.x) σ.m⟩
def z2x:List Item→Nat→List (Nat×AV)→List (Nat×AV)
  |[],_,r=>r
  |(t,ty,own,dep)::l,n,r=>(t,if snB ty dep then .sn t (.v (.tok n) ty own dep) else .v (.tok n) ty own dep)::z2x l (n+1) r
def z3o:List Item→Nat→List (Nat×Ent)→List (Nat×Ent)
  |[],_,r=>r
  |(k,ty,own,dep)::l,n,r=>(k,⟨.tok n,ty,own,dep⟩)::z3o l (n+1) r
def z2a(ts ms:List Item)(n:Nat)(σ:St):St:=⟨z2x ts n σ.t,z3o ms (n+ts.length) σ.m⟩
inductive ResD where
 |normal
 |ret
 |exit(id:Nat)
def ResD.exit':ResD→Exit
 |.normal=>.normal
 |.ret=>.ret
 |.exit id=>.exit id
def q27:Code→Nat
 |.region id _ _=>id+1
 |.seq x y=>(match q27 x with
  |0=>q27 y
  |n+1=>n+1)
 |.cond _ x y=>(match q27 x with
  |0=>q27 y
  |n+1=>n+1)
 |.block _ c=>q27 c
 |.loop c=>q27 c
 |.scope c=>q27 c
 |_=>0
def z1c(N:List X)(t:Tree):Tree:=match N with
 |[]=>t
 |_=>.need N t
mutual
/-- The slices that a value owns. -/
def qsn:AV→List Nat
 |.v _ _ own _=>own.map (·.2)
 |.rd _ _ _ wr=>(match wr with
  |some (pin,_)=>[pin]
  |none=>[])
 |.tup l=>qzq l
 |.gd _ a=>qsn a
 |.fn _ l=>qzq l
 |.bx _ _ a=>qsn a
 |.ax _ _ _ a=>qsn a
 |.fr _ a=>qsn a
 |.sn _ a=>qsn a
 |.pt pin _ _ a=>pin::qsn a
 |_=>[]
def qzq:List AV→List Nat
 |[]=>[]
 |a::l=>qsn a++qzq l
end
def qvl(kill:List Nat):List (Nat×AV)→List Nat
  |[]=>[]
  |(t,a)::l=>if zx kill t then qvl kill l else qsn a++qvl kill l
def qv3(kill:List Nat):List (Nat×Ent)→List Nat
  |[]=>[]
  |(k,e)::l=>if zx kill k then qv3 kill l else e.own.map (·.2)++qv3 kill l
def qek(kill:List Nat)(σ:St):Nat→Bool:=fun y=> !Nat.beq (y % 16) 0&& !zx (qvl kill σ.t++qv3 kill σ.m) y
def St.drop(kill:List Nat)(σ:St):St:=σ.un (qek kill σ)
def z2b(l:List Nat):D:=.r (l.map fun y=>.i (Int.ofNat y))
def z72(own:List (Nat×Nat))(dep:List Nat):X:=.lit (.a [z2b (own.map (·.1)),z2b (own.map (·.2)),z2b dep])
def z15(σ:St)(ts ms:List Item):List X:=(ts.map fun e=>match lkA σ.t e.1 with
 |some (.v _ _ own dep)=>z72 own dep
 |some .nilS=>.lit (.s ⟨#[]⟩)
 |some _=>.lit (.b false)
 |none=>.lit .u)++(ms.map fun e=>match lkA σ.m e.1 with
 |some e=>z72 e.own e.dep
 |none=>.lit .u)
def qe9:AV→AV
 |.v x ty own dep=>.v x ty [] (own.map (·.2)++dep)
 |a=>a
def qjj(e:Ent):Ent:=⟨e.x,e.t,[],e.own.map (·.2)++e.dep⟩
def qq9(ts:List Item)(k:Nat):Bool:=ts.any fun i=>uK i.1 k&&i.2.2.1.isEmpty
def qf4(ts ms:List Item)(σ:St):St:=⟨σ.t.map fun e=>(e.1,if qq9 ts e.1 then qe9 e.2 else e.2),σ.m.map fun e=>(e.1,if qq9 ms e.1 then qjj e.2 else e.2)⟩
def rdB(ts:List (Nat×Ty×Bool))(k:Nat):Bool:=ts.any fun i=>uK i.1 k&&i.2.2
def q2p(h:Head)(σ:St):St:=⟨σ.t.map fun e=>(e.1,if rdB h.ts e.1 then qe9 e.2 else e.2),σ.m.map fun e=>(e.1,if zx h.kill (1000000+e.1) then qjj e.2 else e.2)⟩
def z1s(id:Nat)(it:List Item×List Item)(kill:List Nat)(n:Nat)(σ:St)(body:Nat→St→(Nat→ResD→St→Tree)→Tree)(k:Nat→ResD→St→Tree):Tree:=match conv it.1 it.2 σ with
 | some (σ1, va, vb) => .loop (id - 1) n (va ++ vb) (body (n + (va ++ vb).length) (z2a it.1 it.2 n (qju it.1 it.2 kill n σ1)) fun n' r σ' => match r with
  |.normal=>(match conv it.1 it.2 ((qf4 it.1 it.2 σ').drop kill) with
   |some (σ2,va',vb')=>if covers σ2 (qju it.1 it.2 kill n σ1) then .back (id - 1) (va'++vb') else .bad (3000000+id)
   |none=>.need (z15 σ' it.1 it.2++((.lit (.b true))::z15 (σ'.ren (qhi σ' it.1 it.2)) it.1 it.2)) (.bad (4000000+id)))
  |.ret=>k n' .ret σ'
  |.exit i=>k n' (.exit i) σ')
 |none=>.need (z15 σ it.1 it.2) (.bad (5000000+id))
def qun(P:Program)(tbl:Tbl)(ds:List (Option Tmp)):Nat→St→List Oper→Nat
 |_,_,[]=>900
 |i,σ,o::l=>match stepG P tbl ds σ o with
  |some (_,σ')=>qun P tbl ds (i+1) σ' l
  |none=>i
def qzx(P:Program)(T:TypeId):Bool:=match P.built T [],P.underlying T with
 |some c,some (.struct _)=>uK c.size 0
 |_,_=>false
def z45(P:Program)(z:Nat):List Oper→Option TypeId
 |[o1,o2,o3]=>(match o1.op,o2.op,o3.op,o1.dst,o2.dst with
  |.build T ps,.makeInterface T' (.tmp a'),.panic (.tmp b'),some a,some b=>if uK T T'&&(uK a a'&&(uK b b'&&(uK ps.size 0&&(kJ a z&&(kJ b z&&(qzx P T&&(o1.guard.isNone&&(o2.guard.isNone&&o3.guard.isNone)))))))) then some T else none
  |_,_,_,_,_=>none)
 |_=>none
def zax(o:Option TypeId)(T:TypeId):Bool:=match o with
 |some T1=>uK T1 T
 |none=>false
def qpp(body:Nat→St→(Nat→ResD→St→Tree)→Tree)(k:Nat→ResD→St→Tree):Nat→Nat→St→Tree
 |0,_,_=>.bad 6000000
 |f+1,n,σ=>body n σ fun n' r σ'=>match r with
  |.normal=>qpp body k f n' σ'
  |.ret=>k n' .ret σ'
  |.exit i=>k n' (.exit i) σ'
def toT(P:Program)(tbl:Tbl)(ann:Ann)(lo z:Nat):Code→List Nat→Nat→St→(Nat→ResD→St→Tree)→Tree
 |.skip,_,n,σ,k=>k n .normal σ
 | .region id ops d, _, n, σ, k => (match z91 P tbl lo z σ ops.toList d with
  |some (N,σ')=>z1c N (k n .normal (prune ann.pub σ'))
  |none=>(match z45 P z ops.toList with
   |some T=>if tbl.any (fun e=>zax e.1.pn T)&& !d then .leaf [.lit .u] else .bad (id * 1000+qun P tbl (dsts ops.toList) 0 σ ops.toList)
   |none=>.bad (id * 1000+qun P tbl (dsts ops.toList) 0 σ ops.toList)))
 |.seq x y,ids,n,σ,k=>toT P tbl ann lo z x ids n σ fun n' r σ'=>match r with
  |.normal=>toT P tbl ann lo z y ids n' σ' k
  |.ret=>k n' .ret σ'
  |.exit i=>k n' (.exit i) σ'
 |.cond c x y,ids,n,σ,k=>(match opd σ [] c with
  |some (.v (.lit (.b true)) .bool _ _)=>toT P tbl ann lo z x ids n σ k
  |some (.v (.lit (.b false)) .bool _ _)=>toT P tbl ann lo z y ids n σ k
  |some (.v b .bool _ _)=>.br b (toT P tbl ann lo z x ids n σ k) (toT P tbl ann lo z y ids n σ k)
  |some (.nb b neg)=>.amb b neg (toT P tbl ann lo z x ids n σ k) (toT P tbl ann lo z y ids n σ k)
  |_=>.bad (1000000+q27 x))
 |.block id c,ids,n,σ,k=>toT P tbl ann lo z c ids n σ fun n' r σ'=>match r with
  |.exit i=>if uK i id then k n' .normal σ' else k n' (.exit i) σ'
  |.ret=>k n' .ret σ'
  |.normal=>k n' .normal σ'
 |.exit id,_,n,σ,k=>k n (.exit id) σ
 |.ret,_,n,σ,k=>k n .ret σ
 |.loop c,ids,n,σ,k=>(match lkA ann.heads (q27 c - 1) with
  |some h=>if zx ids (q27 c - 1) then .bad (2000000+q27 c) else z1s (q27 c) (heads h ((q2p h σ).drop h.kill)) h.kill n ((q2p h σ).drop h.kill) (fun n' σ0=>toT P tbl ann lo z c ((q27 c - 1)::ids) n' σ0) k
  |none=>qpp (fun n' σ0=>toT P tbl ann lo z c ids n' σ0) k 128 n σ)
 |.label _,_,n,σ,k=>k n .normal σ
 |.scope c,ids,n,σ,k=>toT P tbl ann lo z c ids n σ k
 |_,_,_,_,_=>.bad 7000000
section
variable{c:Cx}{p:z0}{w w0:World}{S0:Nat→Prop}{a:Act}{σ σ':St}{d:List Deferred}{z:Nat}{tbl:Tbl}
theorem qmf:∀(x:AV){v:Value},x.pd c p w v→(qe9 x).pd c p w v:=fun x v h=>by
 cases x with
 |v x ty own dep=>
  obtain⟨cs,hp,hc⟩:=h;exact⟨cs,hp,Con.of_rd (hc.rd (fun _ h=>uP _ h) (fun _ h=>uR _ h))⟩
 |_=>exact h
theorem qk5{α:Type}(f:α→α)(q:Nat→Bool){t:Nat}:∀(l:List (Nat×α)){x:α},lkA (l.map fun e=>(e.1,if q e.1 then f e.2 else e.2)) t=some x→∃y,lkA l t=some y∧(x=y∨x=f y)
 |[],x,h=>by cases h
 | e :: l, x, h => by
  simp only[List.map_cons,lkA] at h⊢;split at h
  ·rename_i hk;injection h with h;subst h;refine⟨e.2,if_pos hk,?_⟩;split
   ·exact .inr rfl
   ·exact .inl rfl
  ·rename_i hk;rw[if_neg hk];exact qk5 f q l h
theorem quy(ts ms:List Item)(hf:SF c σ p w a):SF c (qf4 ts ms σ) p w a:=by
 refine⟨fun t x hx=>?_,fun k e he=>?_⟩
 ·obtain⟨y,hy,h⟩:=qk5 qe9 (qq9 ts) σ.t hx;obtain⟨u,h1,h2⟩:=hf.t t y hy;refine⟨u,h1,?_⟩;rcases h with rfl|rfl
  ·exact h2
  ·exact qmf y h2
 ·obtain⟨y,hy,h⟩:=qk5 qjj (qq9 ms) σ.m he;obtain⟨g,cs,T,h1,h2,hty,h3⟩:=hf.m k y hy;rcases h with rfl|rfl
  ·exact⟨g,cs,T,h1,h2,hty,h3⟩
  ·exact⟨g,cs,T,h1,h2,hty,Con.of_rd (h3.rd (fun _ h=>uP _ h) (fun _ h=>uR _ h))⟩
theorem qua(h:Head)(hf:SF c σ p w a):SF c (q2p h σ) p w a:=by
 refine⟨fun t x hx=>?_,fun k e he=>?_⟩
 ·obtain⟨y,hy,h⟩:=qk5 qe9 (rdB h.ts) σ.t hx;obtain⟨u,h1,h2⟩:=hf.t t y hy;refine⟨u,h1,?_⟩;rcases h with rfl|rfl
  ·exact h2
  ·exact qmf y h2
 ·obtain⟨y,hy,h⟩:=qk5 qjj (fun k=>zx h.kill (1000000+k)) σ.m he;obtain⟨g,cs,T,h1,h2,hty,h3⟩:=hf.m k y hy;rcases h with rfl|rfl
  ·exact⟨g,cs,T,h1,h2,hty,h3⟩
  ·exact⟨g,cs,T,h1,h2,hty,Con.of_rd (h3.rd (fun _ h=>uP _ h) (fun _ h=>uR _ h))⟩
theorem qoi{e:Ev}:∀{ns:List X},q98 e ns→∀n∈ns,n.says e
 |[],_,n,hn=>by cases hn
 |x::l,h,n,hn=>by
  rcases uN.1 hn with rfl|hn
  ·exact h.1
  ·exact qoi h.2 n hn
theorem z2d{S:Nat→List D→Option (List D)}{R:List D→Prop}{N:List X}{t:Tree}{l:List D}{B:Nat→List D→Prop}(h:(z1c N t).go S R l B):(∀n∈N,n.says (evl S l))∧t.go S R l B:=by
 unfold z1c at h;split at h
 ·exact⟨(fun n hn=>by cases hn),h⟩
 ·exact⟨qoi h.1,h.2⟩
def ItT(sn:Nat→Value)(A:Nat→Prop)(p:z0)(w:World)(a:Act):List Item→List D→Prop
  |[],ds=>ds=[]
  |(t,ty,own,dep)::l,ds=>∃x r,ds=x::r∧(∃v cs,a.tmps[t]? =some v∧yh ty cs v∧Con A p w x ty own dep cs∧(snB ty dep=true→v=sn t))∧ItT sn A p w a l r
def ItM(A:Nat→Prop)(p:z0)(w:World):List Item→List D→Prop
  |[],ds=>ds=[]
  |(k,ty,own,dep)::l,ds=>∃x r,ds=x::r∧(∃g cs T,p (k * 16)=some g∧w.heap[g]? =some (.cells cs T (0,0))∧qw T=some ty∧Con A p w x ty own dep cs.toList)∧ItM A p w l r
theorem qch{a b:List (Nat×Nat)}(h:qe8 a b=true)(j:Nat):lkA a j=lkA b j:=by
 simp only[qe8,gnB] at h;have sub:∀{a b:List (Nat×Nat)},qqb a b=true→∀{x},lkA a j=some x→lkA b j=some x:=fun{a b}h{x}hx=>by
  have:=uJ.1 h _ (jv hx);split at this
  ·rename_i y hy;have hy':lkA b j=some y:=hy;rw[hy',gnN this]
  ·cases this
 cases ha:lkA a j with
 |some x=>exact(sub h.2.2.1 ha).symm
 |none=>
  cases hb:lkA b j with
  |none=>rfl
  |some x=>rw[sub h.2.2.2 hb] at ha;cases ha
theorem Con.same{A:Nat→Prop}{dep:List Nat}{own own':List (Nat×Nat)}(ho:∀j,lkA own j=lkA own' j){x:D}{t:Ty}{cs:List Value}(h:Con A p w x t own dep cs):Con A p w x t own' dep cs:=by
 have hF:∀{ds:List D}{j:Nat}{fs:List Ty}{cs:List Value},Fls A p w dep own j ds fs cs→Fls A p w dep own' j ds fs cs:=by
  intro ds
  induction ds with
  |nil=>intro j fs cs h;exact h
  |cons d ds ih=>
   rintro j fs cs⟨t,ts,c1,c2,e1,e2,h1,h2⟩;exact⟨t,ts,c1,c2,e1,e2,by rw[←ho];exact h1,ih h2⟩
 unfold Con at h⊢;split
 ·obtain⟨fs,ds,hf,e,h⟩:=h;exact⟨fs,ds,hf,e,hF h⟩
 ·rename_i hne;split at h
  ·rename_i T;exact absurd rfl (hne T)
  ·rw[←ho];exact h
theorem qx5(hf:SF c σ p w a):∀{l:List Item}{xs:List X},its (itT σ) l=some xs→ItT c.snap c.A p w a l (X.evs c.v xs)
  | [], xs, h => by
    simp only[its,uD] at h;subst h;rfl
  | (t, ty, own, dep) :: l, xs, h => by
    unfold its at h;split at h
    · rename_i x xs' hx hxs;injection h with h;subst h;refine⟨_,_,rfl,?_,qx5 hf hxs⟩;unfold itT at hx;simp only at hx;split at hx
      · rename_i x' ty' own' dep' hl;split at hx
        · rename_i hok;simp only[gnB] at hok;injection hx with hx;subst hx;obtain⟨v,hv,cs,hp,hc⟩:=hf.t t _ hl;obtain⟨h0,h1,h2,h3⟩:=hok;rw[Ty.beq_iff] at h1;subst h1;exact⟨v,cs,hv,hp,(hc.same (qch h2)).mono fun y hy=>y3.1 (uJ.1 h3 y hy),fun hs=>by rw[hs] at h0;cases h0⟩
        · cases hx
      · rename_i q x' ty' own' dep' hl;split at hx
        · rename_i hok;simp only[gnB] at hok;injection hx with hx;subst hx;obtain⟨v,hv,he,cs,hp,hc⟩:=hf.t t _ hl;obtain⟨hq,h1,h2,h3⟩:=hok;rw[Ty.beq_iff] at h1;subst h1;refine⟨v,cs,hv,hp,(hc.same (qch h2)).mono fun y hy=>y3.1 (uJ.1 h3 y hy),fun hs=>?_⟩;rcases kH.1 hq with hq|hq
          · rw[hs] at hq;cases hq
          · rw[←gnN hq];exact he
        · cases hx
      · rename_i hl;split at hx
        · rename_i E;split at hx
          · rename_i hE;injection hx with hx;subst hx;rw[gnB] at hE;obtain⟨hE,hsk⟩:=hE;obtain⟨te,hte⟩:=uY.1 hE;obtain⟨v,hv,rfl⟩:=hf.t t _ hl;refine⟨_,[.slice none 0 0],hv,qm5 rfl,?_,fun hs=>by
              simp only[snB,gnB] at hs;rw[hs.2] at hsk;cases hsk⟩
            show Fl c.A p w dep (lkA own 0) (.r []) (.row E) _
            cases lkA own 0 with
            |none=>exact⟨E,te,none,0,rfl,hte,rfl,by simp,by simp,by simp[maxLen],by simp[RdE]⟩
            |some pin=>exact .inl ⟨E,te,[],_,rfl,hte,rfl,rfl,.inl ⟨rfl,rfl⟩⟩
          · cases hx
        · cases hx
      · cases hx
    · cases h
theorem qw5(hf:SF c σ p w a):∀{l:List Item}{xs:List X},its (itM σ) l=some xs→ItM c.A p w l (X.evs c.v xs)
  | [], xs, h => by
    simp only[its,uD] at h;subst h;rfl
  | (k, ty, own, dep) :: l, xs, h => by
    unfold its at h;split at h
    · rename_i x xs' hx hxs;injection h with h;subst h;refine⟨_,_,rfl,?_,qw5 hf hxs⟩;unfold itM at hx;simp only at hx;split at hx
      · rename_i e he;split at hx
        · rename_i hok;simp only[gnB] at hok;injection hx with hx;subst hx;obtain⟨g,cs,T,hg,hh,hty,hc⟩:=hf.m k _ he;obtain⟨h1,h2,h3⟩:=hok;rw[Ty.beq_iff] at h1;rw[h1] at hc;exact⟨g,cs,T,hg,hh,h1▸hty,(hc.same (qch h2)).mono fun y hy=>y3.1 (uJ.1 h3 y hy)⟩
        · cases hx
      · cases hx
    · cases h
theorem qph{f:Item→Option X}:∀{l:List Item}{xs:List X},its f l=some xs→xs.length=l.length
 |[],xs,h=>by
  simp only[its,uD] at h;subst h;rfl
 | i :: l, xs, h => by
  unfold its at h;split at h
  ·rename_i x xs' hx hxs;injection h with h;subst h;simp[qph hxs]
  ·cases h
theorem qr5{e:Ev}(l m:List X):X.evs e (l++m)=X.evs e l++X.evs e m:=by
 induction l with
 |nil=>rfl
 |cons x l ih=>simp[X.evs,ih]
theorem qx2{r:List (Nat×AV)}(hr:∀t x,lkA r t=some x→∃v,a.tmps[t]? =some v∧x.pd c p w v):∀{l:List Item}{n:Nat}{ds:List D},ItT c.snap c.A p w a l ds→(∀i,i<ds.length→c.v.E (n+i)=ds.getD i .u)→
    ∀t x,lkA (z2x l n r) t=some x→∃v,a.tmps[t]? =some v∧x.pd c p w v
  |[],n,ds,_,_,t,x,h=>hr t x h
  | (s, ty, own, dep) :: l, n, ds, h, hE, t, x, hx => by
    obtain⟨y,ys,rfl,⟨v,cs,hv,hp,hc,hsn⟩,hl⟩:=h;by_cases hst:s=t
    · subst hst;simp only[z2x] at hx;rw[q9] at hx;injection hx with hx;subst hx;have:=hE 0 (by simp);simp only[kY,uM] at this;have hcon:Con c.A p w (c.v.E n) ty own dep cs:=by
        rw[this];exact hc
      refine⟨v,hv,?_⟩;split
      · rename_i hs;exact⟨hsn hs,cs,hp,hcon⟩
      · exact⟨cs,hp,hcon⟩
    · simp only[z2x] at hx;rw[qb hst] at hx;refine qx2 hr hl (n:=n+1) (fun i hi=>?_) t x hx;have:=hE (i+1) (by simp;omega);rw[show n+1+i=n+(i+1) by omega,this];simp
theorem qwg{r:List (Nat×Ent)}(hr:∀k e,lkA r k=some e→q34 c p w k e):∀{l:List Item}{n:Nat}{ds:List D},ItM c.A p w l ds→(∀i,i<ds.length→c.v.E (n+i)=ds.getD i .u)→
    ∀k e,lkA (z3o l n r) k=some e→q34 c p w k e
  |[],n,ds,_,_,t,x,h=>hr t x h
  | (s, ty, own, dep) :: l, n, ds, h, hE, t, x, hx => by
    obtain⟨y,ys,rfl,⟨g,cs,T,hg,hh,hty,hc⟩,hl⟩:=h;by_cases hst:s=t
    · subst hst;simp only[z3o] at hx;rw[q9] at hx;injection hx with hx;subst hx;refine⟨g,cs,T,hg,hh,hty,?_⟩;have:=hE 0 (by simp);simp only[kY,uM] at this
      show Con c.A p w (c.v.E n) ty own dep cs.toList
      rw[this];exact hc
    · simp only[z3o] at hx;rw[qb hst] at hx;refine qwg hr hl (n:=n+1) (fun i hi=>?_) t x hx;have:=hE (i+1) (by simp;omega);rw[show n+1+i=n+(i+1) by omega,this];simp
theorem qqk{sn:Nat→Value}{A:Nat→Prop}:∀{l:List Item}{ds:List D},ItT sn A p w a l ds→ds.length=l.length
  |[],ds,h=>by cases h;rfl
  |(_,_,_,_)::l,ds,⟨x,r,e,_,h⟩=>by subst e;simp[qqk h]
theorem qxc{A:Nat→Prop}:∀{l:List Item}{ds:List D},ItM A p w l ds→ds.length=l.length
  |[],ds,h=>by cases h;rfl
  |(_,_,_,_)::l,ds,⟨x,r,e,_,h⟩=>by subst e;simp[qxc h]
theorem z5b{c':Cx}(hS:c.v.S=c'.v.S)(hA:c.A=c'.A)(hT:c.At=c'.At∧c.snap=c'.snap∧c.F=c'.F){ts ms:List Item}{kill:List Nat}{n:Nat}{σ1:St}{da db:List D}(hE:∀k,k<n→c.v.E k=c'.v.E k)(hE':∀i,i<(da++db).length→c'.v.E (n+i)=(da++db).getD i .u)
  (hf:SF c (qju ts ms kill n σ1) p w a)(ht:ItT c.snap c.A p w a ts da)(hm:ItM c.A p w ms db):SF c' (z2a ts ms n (qju ts ms kill n σ1)) p w a:=by
 have hla:=qqk ht;rw[hA,hT.2.1] at ht;rw[hA] at hm;refine⟨qx2 (fun t x hx=>?_) ht (fun i hi=>?_),qwg (fun k e he=>?_) hm (fun i hi=>?_)⟩
 ·obtain⟨v,h1,h2⟩:=hf.t t x hx;have hq:=(qqp hx).2;simp only[gnB] at hq;exact⟨v,h1,AV.pd_upto hE hS hA hT x v hq.2.2.2 h2⟩
 ·rw[hE' i (by simp;omega)];simp[gnG,uF hi]
 ·have hq:=(qqp he).2;simp only[gnB] at hq;exact q34.upto hE hS hA hT hq.2 (hf.m k e he)
 ·rw[show n+ts.length+i=n+(ts.length+i) by omega,hE' (ts.length+i) (by simp;omega)];rw[←hla];simp[gnG,uZ]
theorem z2y{ts ms:List Item}{kill:List Nat}{n:Nat}(hf:SF c σ p w a):SF c (qju ts ms kill n σ) p w a:=⟨fun t x hx=>hf.t t x (qqp hx).1,fun k e he=>hf.m k e (qqp he).1⟩
def Cx.at(c:Cx)(S:Nat→List D→Option (List D))(l:List D):Cx:=⟨evl S l,c.A,c.F,c.lo,c.At,c.new,c.snap⟩
theorem qyv{l:List D}{n k:Nat}(h:k<n)(m:List D)(hn:n≤l.length):(l.take n++m).getD k .u=l.getD k .u:=by
 simp only[gnG];rw[uF (by simp;omega),kA h]
theorem z9c(ro:Option Nat)(nn:Nat){id:Nat}{ops:Array Oper}{T:TypeId}(hT:z45 uB z ops.toList=some T){Q:Exit→Act→World→Prop}(hq:∀a',a'.defers=d→Q (.panic (q93 T)) a' w)(hd:a.defers=d)(hz:a.tmps.size=z):
  (Code.region id ops false).wpIn (FR ro) nn uB Q a w:=by
 obtain⟨l⟩:=ops;have hT:z45 uB z l=some T:=hT;unfold z45 at hT;split at hT
 ·rename_i o1 o2 o3 _;split at hT
  ·rename_i T1 ps T2 a' b' a1 b1 e1 e2 e3 d1 d2;split at hT
   ·rename_i hok;injection hT with hT;subst hT;simp only[gnB] at hok;obtain⟨k1,k2,k3,k4,k5,k6,k7,k8,k9,k10⟩:=hok;obtain rfl:=gnN k1;obtain rfl:=gnN k2;obtain rfl:=gnN k3;have k4:ps= #[]:=uU (gnN k4);subst k4;rw[kZ] at k5 k6;obtain⟨hbt,fs,hu⟩:uB.built T1 []=some #[]∧∃fs,uB.underlying T1=some (.struct fs):=by
     unfold qzx at k7;split at k7
     ·rename_i c fs hc hu;exact⟨by rw[hc,uU (gnN k7)],fs,hu⟩
     ·cases k7
    refine wpIn_region ?_;have:wpOpsIn (FR ro) nn uB [o1,o2,o3].toArray Q (kC 0 3)=wpListIn (FR ro) nn uB [o1,o2,o3].toArray Q [o1,o2,o3]:=wpOpsIn_eq_wpListIn [o1,o2,o3] 0 (fun j=>by simp);rw[show uS (Array.mk [o1,o2,o3]).size=kC 0 3 by simp[List.range_eq_range']]
    show wpOpsIn (FR ro) nn uB [o1,o2,o3].toArray Q (kC 0 3) a w
    rw[this];have hw:∀{o:Oper}{y:Nat→Option Bool},o.guard.isNone=true→Region.wanted o y=true:=fun{o}{y}h=>by
     unfold Region.wanted;cases hg:o.guard with
     |none=>rfl
     |some g=>rw[hg] at h;cases h
    simp only[wpListIn,hw k8,hw k9,hw k10,if_true];refine Oper.wp_round ro (by rw[e1];simp) ?_;unfold Oper.wp;have r1:(execOp a.eval o1).run uB w=.ok (.value (.agg #[])) w:=by
     have:=run_build (P:=uB) w T1 #[] #[] hbt;simp[execOp,e1,this]
    rw[r1]
    show Oper.wpIn _ _ _ _ (a.put o1.dst _) w _ _
    refine Oper.wp_round ro (by rw[e2];simp) ?_;unfold Oper.wp;have v1:(a.put o1.dst (.agg #[])).eval (.tmp a1)=.agg #[]:=by
     rw[d1];simp[Act.put,Act.eval,hz,k5]
    have r2:(execOp (a.put o1.dst (.agg #[])).eval o2).run uB w=.ok (.value (.iface T1 (.agg #[]))) w:=by
     rw[show(a.put o1.dst (.agg #[])).eval=fun y=>(a.put o1.dst (.agg #[])).eval y from rfl];simp[execOp,e2,v1,Instr.makeInterface,run_underlying hu]
    rw[r2]
    show Oper.wpIn _ _ _ _ ((a.put o1.dst _).put o2.dst _) w _ _
    refine Oper.wp_round ro (by rw[e3];simp) ?_;unfold Oper.wp;have v2:((a.put o1.dst (.agg #[])).put o2.dst (.iface T1 (.agg #[]))).eval (.tmp b1)=.iface T1 (.agg #[]):=by
     rw[d1,d2];simp[Act.put,Act.eval,hz,k6]
    have r3:(execOp ((a.put o1.dst (.agg #[])).put o2.dst (.iface T1 (.agg #[]))).eval o3).run uB w=.halt (.panic (.iface T1 (.agg #[]))) w:=by
     simp[execOp,e3,v2,Instr.panic]
    rw[r3];exact hq _ (by rw[d1,d2];exact hd)
   ·cases hT
  ·cases hT
 ·cases hT
set_option maxHeartbeats 1000000 in
theorem z8a(ro:Option Nat)(nn:Nat)(htb:q16 tbl)(hfm:∀te,c.F.mx te≤flM tbl te){ann:Ann}{R:List D→Prop}:∀(cd:Code){ids:List Nat}{n:Nat}{σ:St}{k:Nat→ResD→St→Tree}{l:List D}{B:Nat→List D→Prop}{p:z0}{w:World}{a:Act}{Q:Exit→Act→World→Prop},
  (toT uB tbl ann c.lo z cd ids n σ k).go (yx tbl) R l B→l.length=n→Bs c.A c.F w0 S0 p w→SF (c.at (yx tbl) l) σ p w a→a.defers=d→a.tmps.size=z→qeq tbl w0 S0 d Q→zbd tbl R w0 S0 d Q→
  (∀n' r σ' l' B' p' w' a',l'.length=n'→l'.take n=l→(∀id∈ids,B' id=B id)→(k n' r σ').go (yx tbl) R l' B'→Bs c.A c.F w0 S0 p' w'→SF (c.at (yx tbl) l') σ' p' w' a'→a'.defers=d→a'.tmps.size=z→Q r.exit' a' w')→cd.wpIn (FR ro) nn uB Q a w:=by
 intro cd
 induction cd with
 |skip=>
  intro ids n σ k l B p w a Q h hl hb hf hd hz hQ hR hk;exact wpIn_skip (hk n .normal σ l B p w a hl (by rw[←hl];exact uC) (fun _ _=>rfl) h hb hf hd hz)
 | region id ops dr =>
  intro ids n σ k l B p w a Q h hl hb hf hd hz hQ hR hk;simp only[toT] at h;split at h
  ·rename_i N σ1 h1;obtain⟨hN,hgo⟩:=z2d h;exact z5z ro nn (c:=c.at (yx tbl) l) htb ⟨rfl,hfm⟩ h1 hN hb hf hd hz hQ fun a' w'⟨p',hb',hf',hd',hz'⟩=>hk n .normal (prune ann.pub σ1) l B p' w' a' hl (by rw[←hl];exact uC) (fun _ _=>rfl) hgo hb' (z1m hf') hd' hz'
  ·split at h
   ·rename_i T hT;split at h
    ·rename_i hok;have hdr:dr=false:=by
      cases dr with
      |false=>rfl
      |true=>simp at hok
     subst hdr;have hok:=(Bool.and_eq_true_iff.1 hok).1;obtain⟨e,he,hp⟩:=kM.1 hok;have hp:e.1.pn=some T:=by
      unfold zax at hp;split at hp
      ·rename_i T' hT';rw[hT',gnN hp]
      ·cases hp
     exact z9c ro nn hT (fun a' h1=>hR h e he T hp a' w h1 hb.but) hd hz
    ·exact h.elim
   ·exact h.elim
 | seq x y ihx ihy =>
  intro ids n σ k l B p w a Q h hl hb hf hd hz hQ hR hk;simp only[toT] at h;refine wpIn_seq (ihx h hl hb hf hd hz hQ hR fun n' r σ' l' B' p' w' a' hl' hpre hB hgo hb' hf' hd' hz'=>?_);cases r with
  | normal =>
   refine ihy hgo hl' hb' hf' hd' hz' hQ hR fun n2 r2 σ2 l2 B2 p2 w2 a2 hl2 hpre2 hB2 hgo2 hb2 hf2 hd2 hz2=>hk n2 r2 σ2 l2 B2 p2 w2 a2 hl2 ?_ (fun id hid=>(hB2 id hid).trans (hB id hid)) hgo2 hb2 hf2 hd2 hz2;have hnn:n≤n':=by
    have:=congrArg kD hpre;simp at this;omega
   rw[←hpre,←hpre2,uQ,uX hnn]
  |ret=>exact hk n' .ret σ' l' B' p' w' a' hl' hpre hB hgo hb' hf' hd' hz'
  |exit i=>exact hk n' (.exit i) σ' l' B' p' w' a' hl' hpre hB hgo hb' hf' hd' hz'
 | cond b x y ihx ihy =>
  intro ids n σ k l B p w a Q h hl hb hf hd hz hQ hR hk;simp only[toT] at h;split at h
  ·rename_i hc;obtain⟨u,e1,e2⟩:=q3u (qv hf rfl hc);obtain rfl:true=u:=by have:D.b true=D.b u:=e1;injection this
   exact wpIn_cond_true e2 (ihx h hl hb hf hd hz hQ hR hk)
  ·rename_i hc;obtain⟨u,e1,e2⟩:=q3u (qv hf rfl hc);obtain rfl:false=u:=by have:D.b false=D.b u:=e1;injection this
   exact wpIn_cond_false e2 (ihy h hl hb hf hd hz hQ hR hk)
  ·rename_i q _ _ _ _ hc;obtain⟨u,e1,e2⟩:=q3u (qv hf rfl hc);have e1':(q.ev (evl (yx tbl) l))=.b u:=e1;cases u with
   |true=>exact wpIn_cond_true e2 (ihx (h.1 (by rw[e1'];rfl)) hl hb hf hd hz hQ hR hk)
   |false=>exact wpIn_cond_false e2 (ihy (h.2 (by rw[e1'];rfl)) hl hb hf hd hz hQ hR hk)
  ·rename_i q neg hc;obtain⟨u,e1,e2⟩:=qv hf rfl hc;cases u with
   |true=>exact wpIn_cond_true e1 (ihx (h.1 (fun hn=>e2 (by rw[hn];rfl))) hl hb hf hd hz hQ hR hk)
   |false=>exact wpIn_cond_false e1 (ihy (h.2 (fun hn=>e2 (by rw[hn];rfl))) hl hb hf hd hz hQ hR hk)
  ·exact h.elim
 | block id cd ih =>
  intro ids n σ k l B p w a Q h hl hb hf hd hz hQ hR hk;simp only[toT] at h;refine wpIn_block (ih h hl hb hf hd hz hQ hR fun n' r σ' l' B' p' w' a' hl' hpre hB hgo hb' hf' hd' hz'=>?_);cases r with
  |normal=>exact hk n' .normal σ' l' B' p' w' a' hl' hpre hB hgo hb' hf' hd' hz'
  |ret=>exact hk n' .ret σ' l' B' p' w' a' hl' hpre hB hgo hb' hf' hd' hz'
  | exit i =>
   show Exit.inBlock id Q (.exit i) a' w'
   simp only at hgo;by_cases hi:i=id
   ·rw[if_pos (by rw[hi];exact kX id)] at hgo;simp only[Exit.inBlock,if_pos hi];exact hk n' .normal σ' l' B' p' w' a' hl' hpre hB hgo hb' hf' hd' hz'
   ·rw[if_neg (fun e=>hi (gnN e))] at hgo;simp only[Exit.inBlock,if_neg hi];exact hk n' (.exit i) σ' l' B' p' w' a' hl' hpre hB hgo hb' hf' hd' hz'
 |exit id=>
  intro ids n σ k l B p w a Q h hl hb hf hd hz hQ hR hk;exact wpIn_exit (hk n (.exit id) σ l B p w a hl (by rw[←hl];exact uC) (fun _ _=>rfl) h hb hf hd hz)
 |ret=>
  intro ids n σ k l B p w a Q h hl hb hf hd hz hQ hR hk;exact wpIn_ret (hk n .ret σ l B p w a hl (by rw[←hl];exact uC) (fun _ _=>rfl) h hb hf hd hz)
 |label s=>
  intro ids n σ k l B p w a Q h hl hb hf hd hz hQ hR hk;exact wpIn_label (hk n .normal σ l B p w a hl (by rw[←hl];exact uC) (fun _ _=>rfl) h hb hf hd hz)
 |scope cd ih=>
  intro ids n σ k l B p w a Q h hl hb hf hd hz hQ hR hk;simp only[toT] at h;refine qc0 (ih h hl hb hf hd hz hQ hR fun n' r σ' l' B' p' w' a' hl' hpre hB hgo hb' hf' hd' hz'=>?_);have:=hk n' r σ' l' B' p' w' a' hl' hpre hB hgo hb' hf' hd' hz';cases r<;>exact this
 | loop cd ih =>
  intro ids n σ k l B p w a Q h hl hb0 hf0 hd hz hQ hR hk;simp only[toT] at h;split at h
  ·rename_i hh hann;split at h
   ·exact h.elim
   ·rename_i hids;have hb:=hb0.un (qek hh.kill (q2p hh σ));have hf:=SF.un (c:=c.at (yx tbl) l) (q:=qek hh.kill (q2p hh σ)) hb0.inj hb0.pa (qua hh hf0);change (z1s _ (heads hh ((q2p hh σ).un (qek hh.kill (q2p hh σ)))) hh.kill n ((q2p hh σ).un (qek hh.kill (q2p hh σ))) _ k).go _ _ _ _ at h;generalize heads hh ((q2p hh σ).un (qek hh.kill (q2p hh σ)))=it at h;generalize (q2p hh σ).un (qek hh.kill (q2p hh σ))=σ at h hf;obtain⟨ts,ms⟩:=it;unfold z1s at h;simp only at h;split at h
    ·rename_i σ1 va vb hcv;unfold conv at hcv
     split at hcv
     ·rename_i hrb;split at hcv
      ·rename_i va' vb' hva hvb;simp only[gnS] at hcv;obtain⟨rfl,rfl,rfl⟩:=hcv;obtain⟨I,μ,hI,hbody⟩:=h;obtain⟨p1,hb1,hf1⟩:=qvp (c:=c.at (yx tbl) l) hrb hb hf
       -- the rounds
       have key:∀(m:Nat)(da db:List D)(l2:List D)(p:z0)(w:World)(a:Act),n≤l2.length→l2.take n=l→I (da++db)→μ (da++db)<m→Bs c.A c.F w0 S0 p w→SF (c.at (yx tbl) l2) (qju ts ms hh.kill n (σ.ren (qhi σ ts ms))) p w a→ItT c.snap c.A p w a ts da→ItM c.A p w ms db→a.defers=d→a.tmps.size=z→
         Code.roundsIn (FR ro) nn uB cd Q m a w:=by
        intro m
        induction m with
        |zero=>intro da db l2 p w a _ _ _ hm;omega
        | succ m ihm =>
         intro da db l2 p w a hn2 hl2 hIs hm hb hf hta htb' hd hz;rw[roundsIn_succ];have hlen:(da++db).length=(va'++vb').length:=by
          rw[uT,uT,qqk hta,qxc htb',qph hva,qph hvb]
         have hgo:=hbody (da++db) hlen hIs;have hln:(l.take n++(da++db)).length=n+(va'++vb').length:=by
          rw[uT,hlen];simp[hl]
         have hlt:l.take n=l:=by rw[←hl];exact uC
         have hhead:SF (c.at (yx tbl) (l.take n++(da++db))) (z2a ts ms n (qju ts ms hh.kill n (σ.ren (qhi σ ts ms)))) p w a:=
          z5b (c:=c.at (yx tbl) l2) (c':=c.at (yx tbl) (l.take n++(da++db))) rfl rfl ⟨rfl,rfl,rfl⟩ (fun k hk=>by
           show l2.getD k .u=(l.take n++(da++db)).getD k .u
           rw[qyv hk _ (by omega),←hl2];simp only[gnG];rw[kA hk]) (fun i hi=>by
           show(l.take n++(da++db)).getD (n+i) .u=_
           simp only[gnG];rw[uZ (by simp;omega)]
           congr 2
           simp;omega) hf hta htb'
         refine ih hgo hln hb hhead hd hz hQ hR fun n' r σ' l' B' p' w' a' hl' hpre hB hgo' hb' hf' hd' hz'=>?_;have hpre':l'.take n=l:=by
          have h1:(l'.take (n+(va'++vb').length)).take n=(l.take n++(da++db)).take n:=by rw[hpre]
          rw[uQ,uX (Nat.le_add_right _ _)] at h1;rw[h1,uV (by simp;omega),uQ,Nat.min_self,hlt]
         have hBo:∀id∈ids,B' id=B id:=fun id hid=>by
          rw[hB id (uI _ hid)];unfold q0t;rw[if_neg];intro e;subst e;exact hids (y3.2 hid)
         cases r with
         |ret=>exact hk n' .ret σ' l' B' p' w' a' hl' hpre' hBo hgo' hb' hf' hd' hz'
         |exit i=>exact hk n' (.exit i) σ' l' B' p' w' a' hl' hpre' hBo hgo' hb' hf' hd' hz'
         | normal =>
          simp only at hgo';have hf'':=SF.un (c:=c.at (yx tbl) l') (q:=qek hh.kill (qf4 ts ms σ')) hb'.inj hb'.pa (quy ts ms hf');have hb'':=hb'.un (qek hh.kill (qf4 ts ms σ'));change SF _ ((qf4 ts ms σ').drop hh.kill) _ _ _ at hf'';split at hgo'
          ·rename_i σ2 wa wb hcv2;split at hgo'
           ·rename_i hcov;unfold conv at hcv2
            split at hcv2
            ·rename_i hrb2;split at hcv2
             ·rename_i wa' wb' hwa hwb;simp only[gnS] at hcv2;obtain⟨rfl,rfl,rfl⟩:=hcv2;obtain⟨p2,hb2,hf2⟩:=qvp (c:=c.at (yx tbl) l') hrb2 hb'' hf'';have hbk:B' (q27 cd - 1) (X.evs (evl (yx tbl) l') (wa'++wb')):=hgo';rw[hB _ uH] at hbk;unfold q0t at hbk;rw[if_pos rfl,qr5] at hbk;have hnl:n≤l'.length:=by
               have:=congrArg kD hpre';simp at this;omega
              show Exit.then (Code.roundsIn (FR ro) nn uB cd Q m) Q .normal a' w'
              exact ihm (X.evs (evl (yx tbl) l') wa') (X.evs (evl (yx tbl) l') wb') l' p2 w' a' hnl hpre' hbk.1 (by have:=hbk.2;omega) hb2 (q6f hcov hf2) (qx5 hf2 hwa) (qw5 hf2 hwb) hd' hz'
             ·cases hcv2
            ·cases hcv2
           ·exact hgo'.elim
          ·exact hgo'.2.elim
       rw[qr5] at hI;exact wpIn_loop_rounds _ (key (μ (X.evs (evl (yx tbl) l) va'++X.evs (evl (yx tbl) l) vb')+1) _ _ l p1 w a (by omega) (by rw[←hl];exact uC) hI (kO _) hb1 (z2y hf1) (qx5 hf1 hva) (qw5 hf1 hvb) hd hz)
      ·cases hcv
     ·cases hcv
    ·exact h.2.elim
  ·have key:∀(m:Nat){n1:Nat}{σ:St}{l1:List D}{B1:Nat→List D→Prop}{p:z0}{w:World}{a:Act},(qpp (fun n' σ0=>toT uB tbl ann c.lo z cd ids n' σ0) k m n1 σ).go (yx tbl) R l1 B1→l1.length=n1→n≤n1→l1.take n=l→(∀id∈ids,B1 id=B id)→Bs c.A c.F w0 S0 p w→SF (c.at (yx tbl) l1) σ p w a→a.defers=d→a.tmps.size=z→Code.roundsIn (FR ro) nn uB cd Q m a w:=by
    intro m
    induction m with
    |zero=>intro n1 σ l1 B1 p w a h;exact h.elim
    | succ m ihm =>
     intro n1 σ l1 B1 p w a h hl1 hn1 hp1 hB1 hb hf hd hz;rw[roundsIn_succ];refine ih h hl1 hb hf hd hz hQ hR fun n' r σ' l' B' p' w' a' hl' hpre hB hgo' hb' hf' hd' hz'=>?_;have hpre':l'.take n=l:=by
      rw[←hp1,←hpre,uQ,uX hn1]
     have hBo:∀id∈ids,B' id=B id:=fun id hid=>(hB id hid).trans (hB1 id hid);have hle:n≤n':=by
      have h1:=congrArg kD hpre;rw[List.length_take,hl1] at h1;omega
     cases r with
     |ret=>exact hk n' .ret σ' l' B' p' w' a' hl' hpre' hBo hgo' hb' hf' hd' hz'
     |exit i=>exact hk n' (.exit i) σ' l' B' p' w' a' hl' hpre' hBo hgo' hb' hf' hd' hz'
     |normal=>exact ihm hgo' hl' hle hpre' hBo hb' hf' hd' hz'
   exact wpIn_loop_rounds _ (key 128 h hl (uE _) (by rw[←hl];exact uC) (fun _ _=>rfl) hb0 hf0 hd hz)
 |_=>intro ids n σ k l B p w a Q h;exact h.elim
end
end
section
abbrev Rs:=List (ResultVar×Ty×Bool)
def z9m(σ:St):ResultVar→List (Nat×Nat)
 |.tmp s=>(match lkA σ.t s with
  |some (.v _ _ own _)=>own
  |_=>[])
 | .cell s _ => match lkA σ.t s with
  |some (.ref k _ _ _)=>(match lkA σ.m k with
   |some e=>e.own
   |none=>[])
  |_=>[]
def qrk(σ:St):Rs→Nat→List (Nat×Nat)
 |[],_=>[]
 |(rv,t,own)::l,n=>(if own then pairUp (z9m σ rv) (zd n t) else[])++qrk σ l (n+1)
def qgk(σ:St):List (Nat×Ar)→List (Nat×Nat)
  |[]=>[]
  | (i, .ref t o) :: l => (match lkA σ.m i with
    |some e=>pairUp e.own (qzc o i t)
    |none=>[])++qgk σ l
  |(i,.mref t)::l=>pairUp (za5 σ i) (zd i t)++qgk σ l
  |_::l=>qgk σ l
def qec:List (Nat×Ar)→List Nat
  |[]=>[]
  |(i,.ref _ _)::l=>i * 16::qec l
  |_::l=>qec l
mutual
/-- The value holds a pointer to the variable. -/
def AV.has(i:Nat):AV→Bool
 |.ref k _ _ _=>uK k i
 |.fn _ l=>qry i l
 |.bx _ _ a=>AV.has i a
 |.fr _ a=>AV.has i a
 |.sn _ a=>AV.has i a
 |_=>false
def qry(i:Nat):List AV→Bool
 |[]=>false
 |a::l=>AV.has i a||qry i l
end
mutual
theorem AV.has_ok{c:Cx}{p:z0}{w:World}{i:Nat}:∀(a:AV){v:Value},a.has i=true→a.pd c p w v→∃g,p (i * 16)=some g∧c.At i g
 |.ref k _ _ _,v,h,hx=>by
  have h:=gnN h;subst h;obtain⟨g,hg,-,hat⟩:=hx;exact⟨g,hg,hat⟩
 |.fn _ l,v,h,hx=>by
  obtain⟨vs,-,hl⟩:=hx;exact qu4 l (by simpa[AV.has] using h) hl
 |.bx _ _ a,v,h,hx=>by
  obtain⟨g,u,-,-,-,hu⟩:=hx;exact AV.has_ok a (by simpa[AV.has] using h) hu
 |.fr _ a,v,h,hx=>by
  obtain⟨g,u,-,-,-,-,hu⟩:=hx;exact AV.has_ok a (by simpa[AV.has] using h) hu
 |.ff _ _ _ _ _ _ _ _,v,h,_=>by simp[AV.has] at h
 |.sn _ a,v,h,hx=>AV.has_ok a (by simpa[AV.has] using h) hx.2
 |.any,v,h,_=>by simp[AV.has] at h
 |.undef,v,h,_=>by simp[AV.has] at h
 |.v _ _ _ _,v,h,_=>by simp[AV.has] at h
 |.nilS,v,h,_=>by simp[AV.has] at h
 |.nilP,v,h,_=>by simp[AV.has] at h
 |.rd _ _ _ _,v,h,_=>by simp[AV.has] at h
 |.tup _,v,h,_=>by simp[AV.has] at h
 |.gd _ _,v,h,_=>by simp[AV.has] at h
 |.nb _ _,v,h,_=>by simp[AV.has] at h
 |.pt _ _ _ _,v,h,_=>by simp[AV.has] at h
 |.ar _ _ _,v,h,_=>by simp[AV.has] at h
 |.lv _ _,v,h,_=>by simp[AV.has] at h
 |.wf _ _ _ _ _ _ _,v,h,_=>by simp[AV.has] at h
 |.ax _ _ _ _,v,h,_=>by simp[AV.has] at h
theorem qu4{c:Cx}{p:z0}{w:World}{i:Nat}:∀(l:List AV){vs:List Value},qry i l=true→pds c p w l vs→∃g,p (i * 16)=some g∧c.At i g
 |[],vs,h,_=>by simp[qry] at h
 |a::l,vs,h,hx=>by
  obtain⟨v,r,rfl,h1,h2⟩:=hx;simp only[qry,Bool.or_eq_true] at h;rcases h with h|h
  ·exact AV.has_ok a h h1
  ·exact qu4 l h h2
end
def q92(σ:St):List ResultVar→List Nat
 |[]=>[]
 |.cell s _::l=>(match lkA σ.t s with
  |some (.ref k _ _ _)=>k * 16::q92 σ l
  |_=>q92 σ l)
 |_::l=>q92 σ l
def qqm(σ:St)(n:Nat)(rv:ResultVar)(t:Ty)(own:Bool):Option X:=match rv with
 |.tmp s=>itT σ (s,t,if own then zd n t else[],[])
 |.cell s T=>match lkA σ.t s with
  |some (.ref k [] 0 t')=>if qbs T t&&Ty.beq t' t then itM σ (k,t,if own then zd n t else[],[]) else none
  |_=>none
def z06(σ:St):Rs→Nat→Option (List X)
  |[],_=>some []
  | (rv, t, own) :: l, n => match qqm σ n rv t own, z06 σ l (n + 1) with
    |some x,some xs=>some (x::xs)
    |_,_=>none
def zaa(σ:St)(n i:Nat):Bool:=(uS n).any fun t=>match lkA σ.t t with
 |some a=>a.has i
 |none=>false
def qqc(σ:St)(n:Nat):List (Nat×Ar)→Option (List X)
  |[]=>some []
  | (i, .ref t o) :: l => (match itM σ (i, t, qzc o i t, []), qqc σ n l with
    |some x,some xs=>if zaa σ n i then some (x::xs) else none
    |_,_=>none)
  | (i, .mref t) :: l => (match itT σ (i, t, zd i t, [SNK]), qqc σ n l with
    |some x,some xs=>if kJ i n&&(kJ i VB&&(q7k t||qj2 t)) then some (x::xs) else none
    |_,_=>none)
  |_::l=>qqc σ n l
def fin(ct:Ct)(results:List ResultVar)(σ:St):Option (List X):=
 let z:=results.zip ct.rs
 let rr:=qrk σ z ct.ar.length++qgk σ ct.all
 let keep:=rr.map (·.1)++(qec ct.all++q92 σ results)
 let σ2:=(σ.un fun y=> !zx keep y).ren rr
 if reB rr&&uK results.length ct.rs.length then match z06 σ2 z ct.ar.length,qqc σ2 ct.ar.length ct.all with
  |some a,some b=>some (a++b)
  |_,_=>none
 else none
def z8x(ct:Ct)(results:List ResultVar):Nat→ResD→St→Tree:=fun _ r σ=>match r with
 |.exit i=>.bad (8000000+i)
 |_=>match fin ct results σ with
  |some xs=>.leaf xs
  |none=>.bad 9000000
def q7w:List Ar→Nat
 |[]=>0
 |.val _::l=>q7w l+1
 |.ref _ _::l=>q7w l+1
 |.rref _::l=>q7w l+1
 |.own _::l=>q7w l+1
 |.mref _::l=>q7w l+1
 |_::l=>q7w l
def Ct.ars(ct:Ct):List Ar:=ct.ar++ct.vr.map (·.2)
def qf1:Nat→List (Nat×Ar)→List (Nat×Nat×Ar)
 |_,[]=>[]
 |j,(i,r)::l=>(i,j,r)::qf1 (j+q7w [r]) l
def qwk(tb:List (Nat×Nat×Ar)):Nat→Nat→AV
 |0,q=>.sn q .any
 |f+1,q=>.sn q (match tb[q]? with
  |some (_,j,.val t)=>.v (.tok j) t [] []
  |some (i,_,.ref t _)=>.ref i [] 0 t
  |some (_,j,.rref t)=>.rd (.tok j) t [] none
  |some (i,j,.own t)=>.v (.tok j) t (zd i t) []
  |some (i,j,.mref t)=>.sn q (.v (.tok j) t (zd i t) [])
  |some (_,_,.nils)=>.nilS
  |some (_,_,.nilp)=>.nilP
  |some (_,_,.cst t d)=>.v (.lit d) t [] []
  |some (_,_,.fn g ks)=>.fn g (ks.map (qwk tb f))
  |some (_,_,.cell T k)=>.fr T (qwk tb f k)
  |none=>.any)
def z38:AV→AV
 |.sn q (.rd x t dep wr)=>.sn q (.rd x t dep wr)
 |.sn _ a=>a
 |a=>a
def z63(tb:List (Nat×Nat×Ar)):Nat→Nat→List (Nat×AV)
 |_,0=>[]
 |q,m+1=>(q,z38 (qwk tb 6 q))::z63 tb (q+1) m
def z1h:List (Nat×Nat×Ar)→List (Nat×Ent)
  |[]=>[]
  |(i,j,.ref t o)::l=>(i,⟨.tok j,t,qnd o i t,[]⟩)::z1h l
  |_::l=>z1h l
def zb6(ct:Ct):St:=⟨z63 (qf1 0 ct.all) 0 ct.ar.length,z1h (qf1 0 ct.all)⟩
def qb7(P:Program)(tbl:Tbl)(ann:Ann)(ct:Ct)(fn:Func)(cd:Code):Tree:=
 toT P tbl ann ct.ar.length fn.ntmps cd [] (q7w ct.ars) (zb6 ct) (z8x ct fn.results.toList)
def WfA:List Ar→List D→Prop
 |[],ds=>ds=[]
 |.val t::l,ds=>∃d r,ds=d::r∧Wf d t∧WfA l r
 |.ref t _::l,ds=>∃d r,ds=d::r∧Wf d t∧WfA l r
 |.rref t::l,ds=>∃d r,ds=d::r∧Wf d t∧WfA l r
 |.own t::l,ds=>∃d r,ds=d::r∧Wf d t∧WfA l r
 |.mref t::l,ds=>∃d r,ds=d::r∧Wf d t∧WfA l r
 |_::l,ds=>WfA l ds
section
variable{A:Nat→Prop}{F:Flr}{p:z0}{w:World}
theorem y9.wf{V:List Value}:∀{all:List (Nat×Ar)}{vs:List Value}{ds:List D},y9 V A p w all vs ds→WfA (all.map (·.2)) ds∧ds.length=q7w (all.map (·.2))∧vs.length=all.length
  | [], vs, ds, h => by
    obtain⟨rfl,rfl⟩:=h;exact⟨rfl,rfl,rfl⟩
  | (_, .val t) :: l, vs, ds, h => by
    obtain⟨v,r,d,ds',rfl,rfl,⟨cs,hp,hr⟩,h⟩:=h;obtain⟨h1,h2,h3⟩:=y9.wf h;exact⟨⟨d,ds',rfl,⟨w,_,cs,hr⟩,h1⟩,by simp[q7w,h2],by simp[h3]⟩
  | (i, .ref t o) :: l, vs, ds, h => by
    obtain⟨v,r,d,ds',rfl,rfl,⟨g,cs,T,-,-,-,-,hc⟩,h⟩:=h;obtain⟨h1,h2,h3⟩:=y9.wf h;exact⟨⟨d,ds',rfl,⟨w,_,_,hc.rd (dep':=(qnd o i t).map (·.2)) (fun x hx=>by cases hx) (fun x hx=>hx)⟩,h1⟩,by simp[q7w,h2],by simp[h3]⟩
  | (_, .rref t) :: l, vs, ds, h => by
    obtain⟨v,r,d,ds',rfl,rfl,⟨b,o,cs,-,-,-,-,hr⟩,h⟩:=h;obtain⟨h1,h2,h3⟩:=y9.wf h;exact⟨⟨d,ds',rfl,⟨w,_,cs,hr⟩,h1⟩,by simp[q7w,h2],by simp[h3]⟩
  | (i, .own t) :: l, vs, ds, h => by
    obtain⟨v,r,d,ds',rfl,rfl,⟨cs,-,hc⟩,h⟩:=h;obtain⟨h1,h2,h3⟩:=y9.wf h;exact⟨⟨d,ds',rfl,⟨w,_,_,hc.rd (dep':=(zd i t).map (·.2)) (fun x hx=>by cases hx) (fun x hx=>hx)⟩,h1⟩,by simp[q7w,h2],by simp[h3]⟩
  | (i, .mref t) :: l, vs, ds, h => by
    obtain⟨v,r,d,ds',rfl,rfl,⟨cs,-,hc⟩,h⟩:=h;obtain⟨h1,h2,h3⟩:=y9.wf h;exact⟨⟨d,ds',rfl,⟨w,_,_,hc.rd (dep':=(zd i t).map (·.2)) (fun x hx=>by cases hx) (fun x hx=>hx)⟩,h1⟩,by simp[q7w,h2],by simp[h3]⟩
  | (_, .nils) :: l, vs, ds, h => by
    obtain⟨r,rfl,h⟩:=h;obtain⟨h1,h2,h3⟩:=y9.wf h;exact⟨h1,h2,by simp[h3]⟩
  | (_, .nilp) :: l, vs, ds, h => by
    obtain⟨r,rfl,h⟩:=h;obtain⟨h1,h2,h3⟩:=y9.wf h;exact⟨h1,h2,by simp[h3]⟩
  | (_, .cst t d) :: l, vs, ds, h => by
    obtain⟨v,r,rfl,-,h⟩:=h;obtain⟨h1,h2,h3⟩:=y9.wf h;exact⟨h1,h2,by simp[h3]⟩
  | (_, .fn f ks) :: l, vs, ds, h => by
    obtain⟨r,rfl,h⟩:=h;obtain⟨h1,h2,h3⟩:=y9.wf h;exact⟨h1,h2,by simp[h3]⟩
  | (_, .cell T j) :: l, vs, ds, h => by
    obtain⟨b,r,rfl,-,-,-,h⟩:=h;obtain⟨h1,h2,h3⟩:=y9.wf h;exact⟨h1,h2,by simp[h3]⟩
theorem qpz:∀(i:Nat)(l:List Ar),(idx i l).map (·.2)=l
 |_,[]=>rfl
 |i,a::l=>by simp[idx,qpz (i+1) l]
theorem all_map(ct:Ct):ct.all.map (·.2)=ct.ars:=by simp[Ct.all,Ct.ars,qpz]
theorem qpl:∀{i n:Nat}{l:List Ar}{e:Nat×Ar},e∈idx i l→i+l.length=n→i≤e.1∧e.1<n
 |_,_,[],e,h,_=>by cases h
 | i, n, a :: l, e, h, hn => by
  rcases uN.1 h with rfl|h
  ·simp at hn;exact⟨uE _,by simp;omega⟩
  ·obtain⟨h1,h2⟩:=qpl (n:=n) h (by simp at hn;omega);exact⟨by omega,h2⟩
theorem z48{ct:Ct}{e:Nat×Ar}(h:e∈ct.all):e.1<ct.ar.length∨VB≤e.1:=by
 rcases kQ.1 h with h|h
 ·exact .inl (qpl (n:=ct.ar.length) h (by simp)).2
 ·exact .inr (qpl h rfl).1
def z62(V:List Value)(A:Nat→Prop)(p:z0)(w:World)(i:Nat):Ar→Value→D→Prop
 |.val t,v,d=>∃cs,yh t cs v∧Rd w (FFD A p []) d t cs
 |.ref t o,v,d=>∃g cs T,p (i * 16)=some g∧v=.pointer (some ⟨g,0,none⟩)∧w.heap[g]? =some (.cells cs T (0,0))∧qw T=some t∧Con A p w d t (qnd o i t) [] cs.toList
 |.rref t,v,d=>∃b o cs,v=.pointer (some ⟨b,o,none⟩)∧FFD A p [] b∧w.rangeAt b o cs∧0<cs.length∧Rd w (FFD A p []) d t cs
 |.own t,v,d=>∃cs,yh t cs v∧Con A p w d t (zd i t) [] cs
 |.mref t,v,d=>∃cs,yh t cs v∧Con A p w d t (zd i t) [] cs
 |.nils,v,_=>v=.slice none 0 0
 |.nilp,v,_=>v=.pointer none
 |.cst t d,v,_=>∃cs,yh t cs v∧Rd w (FFD A p []) d t cs
 |.fn f ks,v,_=>v=.func (.func f) #[] (ks.map fun k=>V.getD k undef).toArray
 |.cell T j,v,_=>∃b,v=.pointer (some ⟨b,0,none⟩)∧A b∧q9h p b∧w.heap[b]? =some (.cells #[V.getD j undef] T (0,0))
theorem qlp{V:List Value}:∀{all:List (Nat×Ar)}{j0:Nat}{vs:List Value}{ds:List D}{q i j:Nat}{r:Ar},y9 V A p w all vs ds→(qf1 j0 all)[q]? =some (i,j,r)→∃v,vs[q]? =some v∧j0≤j∧z62 V A p w i r v (ds.getD (j - j0) .u)
  |[],j0,vs,ds,q,i,j,r,h,hq=>by simp[qf1] at hq
  | (i', r') :: l, j0, vs, ds, q, i, j, r, h, hq => by
    cases q with
    | zero =>
      simp only[qf1,uL,gnS] at hq;obtain⟨rfl,rfl,rfl⟩:=hq;cases r' with
      |val t=>obtain⟨v,r,d,ds',rfl,rfl,h1,-⟩:=h;exact⟨v,rfl,uE _,by rw[uO];exact h1⟩
      |ref t o=>obtain⟨v,r,d,ds',rfl,rfl,h1,-⟩:=h;exact⟨v,rfl,uE _,by rw[uO];exact h1⟩
      |rref t=>obtain⟨v,r,d,ds',rfl,rfl,h1,-⟩:=h;exact⟨v,rfl,uE _,by rw[uO];exact h1⟩
      |own t=>obtain⟨v,r,d,ds',rfl,rfl,h1,-⟩:=h;exact⟨v,rfl,uE _,by rw[uO];exact h1⟩
      |mref t=>obtain⟨v,r,d,ds',rfl,rfl,h1,-⟩:=h;exact⟨v,rfl,uE _,by rw[uO];exact h1⟩
      |nils=>obtain⟨r,rfl,-⟩:=h;exact⟨_,rfl,uE _,rfl⟩
      |nilp=>obtain⟨r,rfl,-⟩:=h;exact⟨_,rfl,uE _,rfl⟩
      |cst t d=>obtain⟨v,r,rfl,h1,-⟩:=h;exact⟨v,rfl,uE _,h1⟩
      |fn f ks=>obtain⟨r,rfl,-⟩:=h;exact⟨_,rfl,uE _,rfl⟩
      |cell T k=>obtain⟨b,r,rfl,h1,h2,h3,-⟩:=h;exact⟨_,rfl,uE _,⟨b,rfl,h1,h2,h3⟩⟩
    | succ q =>
      simp only[qf1,uG] at hq;have one:∀{v:Value}{vs':List Value}{d:D}{ds':List D},y9 V A p w l vs' ds'→(qf1 (j0+1) l)[q]? =some (i,j,r)→∃u,(v::vs')[q+1]? =some u∧j0≤j∧z62 V A p w i r u ((d::ds').getD (j - j0) .u):=fun h hq=>by
        obtain⟨u,h1,h2,h3⟩:=qlp h hq;refine⟨u,by simpa using h1,by omega,?_⟩;rw[show j - j0=(j - (j0+1))+1 by omega];simpa using h3
      have non:∀{v:Value}{vs':List Value},y9 V A p w l vs' ds→(qf1 j0 l)[q]? =some (i,j,r)→∃u,(v::vs')[q+1]? =some u∧j0≤j∧z62 V A p w i r u (ds.getD (j - j0) .u):=fun h hq=>by
        obtain⟨u,h1,h2,h3⟩:=qlp h hq;exact⟨u,by simpa using h1,h2,h3⟩
      cases r' with
      |val t=>obtain⟨v,r,d,ds',rfl,rfl,-,h⟩:=h;exact one h hq
      |ref t o=>obtain⟨v,r,d,ds',rfl,rfl,-,h⟩:=h;exact one h hq
      |rref t=>obtain⟨v,r,d,ds',rfl,rfl,-,h⟩:=h;exact one h hq
      |own t=>obtain⟨v,r,d,ds',rfl,rfl,-,h⟩:=h;exact one h hq
      |mref t=>obtain⟨v,r,d,ds',rfl,rfl,-,h⟩:=h;exact one h hq
      |nils=>obtain⟨r,rfl,h⟩:=h;exact non h hq
      |nilp=>obtain⟨r,rfl,h⟩:=h;exact non h hq
      |cst t d=>obtain⟨v,r,rfl,-,h⟩:=h;exact non h hq
      |fn f ks=>obtain⟨r,rfl,h⟩:=h;exact non h hq
      |cell T k=>obtain⟨b,r,rfl,-,-,-,h⟩:=h;exact non h hq
section
variable{c:Cx}{n0:Nat}{V:List Value}{all:List (Nat×Ar)}{ds:List D}
theorem qkb(hA:c.A=A)(hAt:c.At=fun k g=>(k<n0∨VB≤k)→p (k * 16)=some g)(hsn:c.snap=fun q=>V.getD q undef)(h:y9 V A p w all V ds)(hE:∀k,c.v.E k=ds.getD k .u):∀(f q:Nat),(qwk (qf1 0 all) f q).pd c p w (V.getD q undef)
 |0,q=>⟨by rw[hsn],trivial⟩
 | f + 1, q => by
  refine⟨by rw[hsn],?_⟩;have key:∀{i j:Nat}{r:Ar},(qf1 0 all)[q]? =some (i,j,r)→z62 V A p w i r (V.getD q undef) (c.v.E j):=fun hq=>by
   obtain⟨v,h1,-,h3⟩:=qlp h hq;rw[gnG,h1,hE];exact h3
  split
  ·rename_i i j t hq;obtain⟨cs,hp,hr⟩:=key hq;refine⟨cs,hp,?_⟩;rw[hA];exact Con.of_rd hr
  ·rename_i i j t hq;obtain⟨g,cs,T,hg,e,-⟩:=key hq;exact⟨g,hg,e,by rw[hAt];exact fun _=>hg⟩
  ·rename_i i j t hq;obtain⟨b,o,cs,e,hfb,hrg,h0,hr⟩:=key hq;refine⟨b,o,cs,e,by rw[hA];exact hfb,hrg,h0,?_,trivial⟩
   show Rd w (FFD c.A p []) (c.v.E j) t cs
   rw[hA];exact hr
  ·rename_i i j t hq;obtain⟨cs,hp,hr⟩:=key hq;refine⟨cs,hp,?_⟩
   show Con c.A p w (c.v.E j) t (zd i t) [] cs
   rw[hA];exact hr
  ·rename_i i j t hq;obtain⟨cs,hp,hr⟩:=key hq;refine⟨by rw[hsn],cs,hp,?_⟩
   show Con c.A p w (c.v.E j) t (zd i t) [] cs
   rw[hA];exact hr
  ·rename_i i j hq;exact key hq
  ·rename_i i j hq;exact key hq
  ·rename_i i j t d hq;obtain⟨cs,hp,hr⟩:=key hq;refine⟨cs,hp,?_⟩;rw[hA];exact Con.of_rd hr
  ·rename_i i j g ks hq;refine⟨_,key hq,?_⟩;clear hq
   induction ks with
   |nil=>rfl
   |cons k ks ih=>exact⟨_,_,rfl,qkb hA hAt hsn h hE f k,ih⟩
  ·rename_i i j T k hq;obtain⟨b,e,h1,h2,h3⟩:=key hq;exact⟨b,_,by rw[hA];exact h1,h2,e,h3,qkb hA hAt hsn h hE f k⟩
  ·trivial
theorem z3p{x:AV}{v:Value}(h:x.pd c p w v):(z38 x).pd c p w v:=by
 unfold z38;split
 ·exact h
 ·exact h.2
 ·exact h
theorem qy4(hA:c.A=A)(hAt:c.At=fun k g=>(k<n0∨VB≤k)→p (k * 16)=some g)(hsn:c.snap=fun q=>V.getD q undef)(h:y9 V A p w all V ds)(hE:∀k,c.v.E k=ds.getD k .u):∀(m q t:Nat)(x:AV),lkA (z63 (qf1 0 all) q m) t=some x→t<q+m∧x.pd c p w (V.getD t undef)
 |0,q,t,x,hx=>by cases hx
 | m + 1, q, t, x, hx => by
  unfold z63 at hx;by_cases hqt:q=t
  ·subst hqt;rw[q9] at hx;injection hx with hx;subst hx;exact⟨by omega,z3p (qkb hA hAt hsn h hE 6 q)⟩
  ·rw[qb hqt] at hx;obtain⟨h1,h2⟩:=qy4 hA hAt hsn h hE m (q+1) t x hx;exact⟨by omega,h2⟩
theorem qwn(hA:c.A=A)(hE:∀k,c.v.E k=ds.getD k .u)(h:y9 V A p w all V ds):∀{tb:List (Nat×Nat×Ar)},(∀e:Nat×Nat×Ar,e∈tb→∃q:Nat,(qf1 0 all)[q]? =some e)→∀k e,lkA (z1h tb) k=some e→q34 c p w k e
  |[],_,k,e,he=>by cases he
  | (i, j, r) :: l, hm, k, e, he => by
    have go:=qwn hA hE h (tb:=l) fun e he=>hm e (uI _ he);cases r with
    | ref t o =>
      have he':lkA ((i,⟨.tok j,t,qnd o i t,[]⟩)::z1h l) k=some e:=he;by_cases hik:i=k
      · subst hik;rw[q9] at he';injection he' with he';subst he';obtain⟨q,hq⟩:=hm _ uH;obtain⟨v,-,-,⟨g,cs,T,hg,-,hh,hty,hc⟩⟩:=qlp h hq;refine⟨g,cs,T,hg,hh,hty,?_⟩
        show Con c.A p w (c.v.E j) t (qnd o i t) [] cs.toList
        rw[hE,hA];exact hc
      · rw[qb hik] at he';exact go k e he'
    |_=>exact go k e he
end
end
def qbn(tmps:Array Value):ResultVar→Sem Value
 |.tmp t=>pure (tmps.getD t undef)
 |.cell a t=>do loadVar t (←asAddr (tmps.getD a undef))
theorem results_read(fn:Func)(tmps:Array Value):results fn tmps=(do let vs←fn.results.mapM (qbn tmps);pure (if h:vs.size=1 then vs[0] else .tuple vs)):=by
 unfold results
 congr 1
def Reads(tmps:Array Value)(w:World):List ResultVar→List Value→Prop
 |[],l=>l=[]
 |r::rs,l=>∃v l',l=v::l'∧(qbn tmps r).run uB w=.ok v w∧Reads tmps w rs l'
theorem qhj{fn:Func}{tmps:Array Value}{w:World}{l:List Value}(h:Reads tmps w fn.results.toList l):(results fn tmps).run uB w=.ok (qkk l) w:=by
 have key:∀(rs:List ResultVar)(l:List Value),Reads tmps w rs l→(rs.mapM (qbn tmps)).run uB w=.ok l w:=by
  intro rs
  induction rs with
  |nil=>
   intro l h;cases h;simp
  |cons r rs ih=>
   rintro l⟨v,l',rfl,h1,h2⟩;simp only[List.mapM_cons,Sem.run_bind,h1,Result.andThen_ok,ih l' h2,Sem.run_pure]
 rw[results_read,Array.mapM_eq_mapM_toList];simp only[map_eq_pure_bind,Sem.run_bind,key _ _ h,Result.andThen_ok,Sem.run_pure]
 congr 1
 clear h key
 match l with
 |[]=>rfl
 |[v]=>rfl
 |_::_::_=>rfl
section
variable{c:Cx}{p:z0}{w w0:World}{S0:Nat→Prop}{a:Act}{σ σ':St}
theorem zas{i:Item}{x:X}(hf:SF c σ p w a)(h:itT σ i=some x):∃v cs,a.tmps[i.1]? =some v∧yh i.2.1 cs v∧Con c.A p w (x.ev c.v) i.2.1 i.2.2.1 i.2.2.2 cs∧(snB i.2.1 i.2.2.2=true→v=c.snap i.1):=by
 obtain⟨t,ty,own,dep⟩:=i;have:=qx5 hf (l:=[(t,ty,own,dep)]) (xs:=[x]) (by simp only[its,h]);obtain⟨y,r,e,h1,-⟩:=this;simp only[X.evs,List.cons.injEq] at e;rw[e.1];exact h1
theorem zat{i:Item}{x:X}(hf:SF c σ p w a)(h:itM σ i=some x):∃g cs T,p (i.1 * 16)=some g∧w.heap[g]? =some (.cells cs T (0,0))∧qw T=some i.2.1∧Con c.A p w (x.ev c.v) i.2.1 i.2.2.1 i.2.2.2 cs.toList:=by
 obtain⟨t,ty,own,dep⟩:=i;have:=qw5 hf (l:=[(t,ty,own,dep)]) (xs:=[x]) (by simp only[its,h]);obtain⟨y,r,e,h1,-⟩:=this;simp only[X.evs,List.cons.injEq] at e;rw[e.1];exact h1
theorem qv2(hf:SF c σ p w a){n:Nat}{rv:ResultVar}{t:Ty}{own:Bool}{x:X}(h:qqm σ n rv t own=some x):∃v,(qbn a.tmps rv).run uB w=.ok v w∧∃cs,yh t cs v∧Con c.A p w (x.ev c.v) t (if own then zd n t else[]) [] cs:=by
 cases rv with
 |tmp s=>
  obtain⟨v,cs,hv,hp,hc,-⟩:=zas (i:=(s,t,if own then zd n t else[],[])) hf h;exact⟨v,by simp[qbn,show a.tmps[s]? =some v from hv],cs,hp,hc⟩
 | cell s T =>
  simp only[qqm] at h;split at h
  ·rename_i k t' hl;split at h
   ·rename_i hok;simp only[gnB] at hok;obtain⟨v,hv,g,hg,rfl,-⟩:=hf.t s _ hl;obtain⟨g',cs,T',hg',hh,hty,hc⟩:=zat (i:=(k,t,if own then zd n t else[],[])) hf h;obtain rfl:=gnI (hg.symm.trans hg');have hr:w.rangeAt g 0 cs.toList:=fun j u hj=>by
     rw[cell_of_row w g (0+j) cs T' (0,0) hh,←Array.getElem?_toList];simpa using hj
    obtain⟨u,hu,hp⟩:=q89 (q1v hok.1) hr (hc.rd (dep':=(if own then zd n t else[]).map (·.2)) (fun x hx=>by cases hx) (fun x hx=>hx));refine⟨u,?_,cs.toList,hp,hc⟩;simpa[qbn,show a.tmps[s]? =some _ from hv,asAddr,Instr.loadAt,Instr.sureAddr] using hu
   ·cases h
  ·cases h
theorem qx1(hf:SF c σ p w a):∀{rvs:List ResultVar}{ts:List (Ty×Bool)}{n:Nat}{xs:List X},rvs.length=ts.length→z06 σ (rvs.zip ts) n=some xs→
  ∃l,Reads a.tmps w rvs l∧qi8 c.A p w ts n l (X.evs c.v xs)∧xs.length=ts.length
 |[],[],n,xs,_,h=>by
  simp only[List.zip_nil_left,z06,uD] at h;subst h;exact⟨[],rfl,rfl,rfl⟩
 | rv :: rvs, (t, own) :: ts, n, xs, hl, h => by
  simp only[List.zip_cons_cons,z06] at h;split at h
  ·rename_i x xs' hx hxs;injection h with h;subst h;obtain⟨l,h1,h2,h3⟩:=qx1 hf (by simpa using hl) hxs;obtain⟨v,hv,hc⟩:=qv2 hf hx;exact⟨v::l,⟨v,l,rfl,hv,h1⟩,⟨v,l,_,_,rfl,rfl,hc,h2⟩,by simp[h3]⟩
  ·cases h
 |[],_::_,_,_,hl,_=>by cases hl
 |_::_,[],_,_,hl,_=>by cases hl
theorem z47(hf:SF c σ p w a){n i:Nat}(h:zaa σ n i=true):∃g,p (i * 16)=some g∧c.At i g:=by
 obtain⟨t,-,ht⟩:=kM.1 h;split at ht
 ·rename_i x hx;obtain⟨v,-,hv⟩:=hf.t t x hx;exact AV.has_ok x ht hv
 ·cases ht
theorem qxy{VV:List Value}{p0:z0}(hf:SF c σ p w a){n0 n:Nat}(hAt:c.At=fun k g=>(k<n0∨VB≤k)→p0 (k * 16)=some g):∀{all:List (Nat×Ar)}{xs:List X},(∀e∈all,e.1<n0∨VB≤e.1)→(∀i t,(i,Ar.mref t)∈all→i<n→i<VB→VV[i]? =some (c.snap i)∧(q7k t=true→∃g,c.snap i=.map (some g)∧p0 (i * 16+1)=some g))→qqc σ n all=some xs→q7q VV c.A p0 p w all (X.evs c.v xs)
  | [], xs, _, _, h => by
    simp only[qqc,uD] at h;subst h;rfl
  | (i, r) :: l, xs, hi, hMr, h => by
    have go:∀{xs},qqc σ n l=some xs→q7q VV c.A p0 p w l (X.evs c.v xs):=fun h=>qxy hf hAt (all:=l) (fun e he=>hi e (uI _ he)) (fun i t hm=>hMr i t (uI _ hm)) h;cases r with
    | ref t o =>
      simp only[qqc] at h;split at h
      · rename_i x xs' hx hxs;split at h
        · rename_i hk;injection h with h;subst h;obtain⟨g,hg,hat⟩:=z47 hf hk;obtain⟨g',cs,T,hg',hh,hty,hc⟩:=zat (i:=(i,t,qzc o i t,[])) hf hx;obtain rfl:=gnI (hg.symm.trans hg');rw[hAt] at hat;exact⟨_,_,rfl,⟨g,cs,T,hat (hi _ uH),hg,hh,hty,hc⟩,go hxs⟩
        · cases h
      · cases h
    | mref t =>
      simp only[qqc] at h;split at h
      · rename_i x xs' hx hxs;split at h
        · rename_i hk;injection h with h;subst h;simp only[gnB,kZ] at hk;obtain⟨k1,k2,k3⟩:=hk;obtain⟨v,cs,hv,hpk,hc,hs⟩:=zas (i:=(i,t,zd i t,[SNK])) hf hx;by_cases hrw:qj2 t=true
          · have hve:v=c.snap i:=hs (by simp only[snB,gnB];exact⟨k3,rfl⟩);exact⟨_,_,rfl,.inr ⟨hrw,v,cs,by rw[hve];exact(hMr i t uH k1 k2).1,hpk,hc.flat1 (k:=i) (fun _ h=>h) (qjp k3).1⟩,go hxs⟩
          have k3:q7k t=true:=(kH.1 k3).resolve_right hrw;obtain⟨g,hg,hp0⟩:=(hMr i t uH k1 k2).2 k3;have hkv:∃K V,t=.map K V:=by
            cases t with
            |map K V=>exact⟨K,V,rfl⟩
            |_=>cases k3
          obtain⟨K,V',rfl⟩:=hkv;have hve:v=.map (some g):=(hs rfl).trans hg;have hc0:Con c.A p w (x.ev c.v) (.map K V') [(0,i * 16+1)] [SNK] cs:=hc;have hc1:Con c.A p w (x.ev c.v) (.map K V') [(0,i * 16+1)] [] cs:=by
            have h0:Fl c.A p w [SNK] (lkA [(0,i * 16+1)] 0) (x.ev c.v) (.map K V') cs:=hc0
            show Fl c.A p w [] (lkA [(0,i * 16+1)] 0) (x.ev c.v) (.map K V') cs
            rw[q9] at h0⊢;rcases h0 with⟨E,te,l,u,e0,-⟩|h0
            · cases e0
            · exact .inr h0
          have hc2:Fl c.A p w [] (lkA [(0,i * 16+1)] 0) (x.ev c.v) (.map K V') cs:=hc1;rw[q9] at hc2;rcases hc2 with⟨E,te,l,u,e0,-⟩|⟨K1,V1,kt,vt,l,g1,es,clock,e0,-,-,-,rfl,hg1,-⟩
          · cases e0
          · have hpv:[Value.map (some g1)]=[v]:=hpk;injection hpv with hpv;rw[hve] at hpv;injection hpv with hpv;injection hpv with hpv;subst hpv;exact⟨_,_,rfl,.inl ⟨g1,hp0,hg1,hc1⟩,go hxs⟩
        · cases h
      · cases h
    |_=>exact go h
theorem z6j{V:List Value}{A:Nat→Prop}{p:z0}{w:World}{ct:Ct}{vs:List Value}{ds:List D}(h:y9 V A p w ct.all vs ds)(i:Nat)(t:Ty)(hm:(i,Ar.mref t)∈ct.all)(h1:i<ct.ar.length)(h2:i<VB)(h3:q7k t=true):∃g,vs.getD i undef=.map (some g)∧p (i * 16+1)=some g:=by
 have key:∀{l:List Ar}{k n:Nat}{r:Ar},(n,r)∈idx k l→k≤n∧l[n - k]? =some r:=by
  intro l
  induction l with
  |nil=>intro k n r h;cases h
  | cons x l ih =>
   intro k n r h;rcases uN.1 h with h|h
   ·injection h with e1 e2;subst e1 e2;exact⟨uE _,by simp⟩
   ·obtain⟨q1,q2⟩:=ih h;refine⟨by omega,?_⟩;rw[show n - k=(n - (k+1))+1 by omega];simpa using q2
 have pos:∀(l:List Ar)(k q:Nat),(idx k l)[q]? =l[q]?.map fun r=>(k+q,r):=by
  intro l
  induction l with
  |nil=>intro k q;simp[idx]
  | cons x l ih =>
   intro k q;cases q with
   |zero=>simp[idx]
   |succ q=>
    simp only[idx,uG,ih]
    congr 1
    funext r
    congr 1
    omega
 have hat:ct.all[i]? =some (i,.mref t):=by
  rcases kQ.1 hm with hm|hm
  ·obtain⟨-,q⟩:=key hm;rw[Nat.sub_zero] at q;unfold Ct.all;rw[uF (by
    have:(idx 0 ct.ar).length=ct.ar.length:=by rw[←uW (f:=(·.2)),qpz]
    omega),pos,q]
   simp
  ·have:=(key hm).1;omega
 have tab:∀(l:List (Nat×Ar))(j q:Nat)(e:Nat×Ar),l[q]? =some e→∃j',(qf1 j l)[q]? =some (e.1,j',e.2):=by
  intro l
  induction l with
  |nil=>intro j q e h;simp at h
  | cons x l ih =>
   intro j q e h;cases q with
   |zero=>
    simp only[uL,uD] at h;subst h;exact⟨j,rfl⟩
   |succ q=>
    simp only[uG] at h;exact ih _ q e h
 obtain⟨j',hj⟩:=tab _ 0 _ _ hat;obtain⟨v,hv,-,cs,hpk,hc⟩:=qlp h hj;rw[gnG,hv];have hkv:∃K V,t=.map K V:=by
  cases t with
  |map K V=>exact⟨K,V,rfl⟩
  |_=>cases h3
 obtain⟨K,V',rfl⟩:=hkv;have hc2:Fl A p w [] (lkA [(0,i * 16+1)] 0) (ds.getD (j' - 0) .u) (.map K V') cs:=hc;rw[q9] at hc2;rcases hc2 with⟨E,te,l,u,e0,-⟩|⟨K1,V1,kt,vt,l,g1,es,clock,e0,-,-,-,rfl,hg1,-⟩
 ·cases e0
 ·have hpv:[Value.map (some g1)]=[v]:=hpk;injection hpv with hpv;exact⟨g1,hpv.symm,hg1⟩
end
def cxA(tbl:Tbl)(ct:Ct)(A:Nat→Prop)(F:Flr)(p:z0)(vs us:List Value)(ds:List D):Cx:=⟨evl (yx tbl) ds,A,F,ct.ar.length,fun k g=>(k<ct.ar.length∨VB≤k)→p (k * 16)=some g,fun k g hk h2 h=>absurd h (by omega),fun q=>(vs++us).getD q undef⟩
theorem qzj{ct:Ct}{tbl:Tbl}{fn:Func}(hsz:ct.ar.length≤fn.ntmps){A:Nat→Prop}{F:Flr}{p:z0}{w:World}{vs us:List Value}{ds:List D}(hfo:Flo F w w)(hpre:Pre ct.ar.length A F p w)(hvl:vs.length=ct.ar.length)(hargs:y9 (vs++us) A p w ct.all (vs++us) ds):
  Bs (cxA tbl ct A F p vs us ds).A (cxA tbl ct A F p vs us ds).F w (pinned p) p w∧SF ((cxA tbl ct A F p vs us ds).at (yx tbl) ds) (zb6 ct) p w {tmps:=vs.toArray++kN (fn.ntmps - vs.toArray.size) undef,defers:=[]}:=by
 have hb0:Bs (cxA tbl ct A F p vs us ds).A (cxA tbl ct A F p vs us ds).F w (pinned p) p w:=⟨hpre.inj,hpre.bd,But.refl _ _,fun x b hx=>.inl ⟨x,hx⟩,hpre.new,hpre.pa,hpre.obj,hfo⟩;refine⟨hb0,fun t x hx=>?_,qwn (c:=(cxA tbl ct A F p vs us ds).at (yx tbl) ds) (A:=A) rfl (fun k=>rfl) hargs fun e he=>List.mem_iff_getElem?.1 he⟩;obtain⟨h1,h2⟩:=qy4 (c:=(cxA tbl ct A F p vs us ds).at (yx tbl) ds) (A:=A) (n0:=ct.ar.length) rfl rfl rfl hargs (fun k=>rfl) _ _ t x hx;have hlt:t<vs.length:=by omega
 refine⟨(vs++us).getD t undef,?_,h2⟩
 show(vs.toArray++_)[t]? =_
 rw[Array.getElem?_append_left (by simpa using hlt),gnG,uF hlt];simp[gnK hlt]
theorem z6m{ct:Ct}{tbl:Tbl}{fn:Func}{A:Nat→Prop}{p p':z0}{w w':World}{vs us:List Value}{ds l':List D}{σ':St}{a':Act}{c:Cx}(hcA:c.A=A)(hcAt:c.At=fun k g=>(k<ct.ar.length∨VB≤k)→p (k * 16)=some g)(hcs:∀i,i<VB→c.snap i=(vs++us).getD i undef)(hargs:y9 (vs++us) A p w ct.all (vs++us) ds)
  (hvl:vs.length=ct.ar.length)(hb':Bs c.A c.F w (pinned p) p' w')(hf':SF (c.at (yx tbl) l') σ' p' w' a'){xs:List X}(hfin:fin ct fn.results.toList σ'=some xs):
  ∃rs p2,(results fn a'.tmps).run uB w'=.ok (qkk rs) w'∧Bs A c.F w (pinned p) p2 w'∧qi8 A p2 w' ct.rs ct.ar.length rs ((X.evs (evl (yx tbl) l') xs).take ct.rs.length)∧q7q (vs++us) A p p2 w' ct.all ((X.evs (evl (yx tbl) l') xs).drop ct.rs.length):=by
 subst hcA;generalize houts:X.evs (evl (yx tbl) l') xs=outs;unfold fin at hfin;simp only at hfin;split at hfin
 ·rename_i hok;simp only[gnB] at hok;split at hfin
  ·rename_i xa xb hxa hxb;injection hfin with hfin;subst hfin;have hb1:=hb'.un (fun y=> !zx ((qrk σ' (fn.results.toList.zip ct.rs) ct.ar.length++qgk σ' ct.all).map (·.1)++(qec ct.all++q92 σ' fn.results.toList)) y);have hf1:=SF.un (c:=c.at (yx tbl) l') (q:=fun y=> !zx ((qrk σ' (fn.results.toList.zip ct.rs) ct.ar.length++qgk σ' ct.all).map (·.1)++(qec ct.all++q92 σ' fn.results.toList)) y) hb'.inj hb'.pa hf';obtain⟨p2,hb2,hf2⟩:=qvp (c:=c.at (yx tbl) l') hok.1 hb1 hf1;obtain⟨l,h1,h2,h3⟩:=qx1 hf2 (gnN hok.2) hxa;have h4:=qxy (p0:=p) (n0:=ct.ar.length) hf2 hcAt (fun e he=>z48 he) (VV:=vs++us) (fun i t hm h1 h2=>⟨by
    show _=some (c.snap i)
    rw[hcs i h2,gnG,uF (by omega),gnK (by omega)];rfl,fun h3=>by
    obtain⟨g,e1,e2⟩:=z6j hargs i t hm h1 h2 h3;exact⟨g,(hcs i h2).trans e1,e2⟩⟩) hxb
   have hev:X.evs (evl (yx tbl) l') xa++X.evs (evl (yx tbl) l') xb=outs:=by rw[←qr5];exact houts
   have hla:(X.evs (evl (yx tbl) l') xa).length=ct.rs.length:=by rw[qyf,h3]
   refine⟨l,p2,qhj h1,hb2,?_,?_⟩
   ·rw[←hev,uV (by omega),←hla,uC];exact h2
   ·rw[←hev,←hla,List.drop_left];exact h4
  ·cases hfin
 ·cases hfin
theorem z9f{ct:Ct}{tbl:Tbl}(ann:Ann)(fn:Func)(cd:Code)(htb:q16 tbl)(hf:uB.funcs[ct.f]? =some fn)(hb:fn.body=some cd)(hsz:ct.ar.length≤fn.ntmps)
  {A:Nat→Prop}{F:Flr}{p:z0}{w:World}{vs us:List Value}{ds:List D}{R:List D→Prop}(hfm:∀te,F.mx te≤flM tbl te)(hfo:Flo F w w)(hpre:Pre ct.ar.length A F p w)(hvl:vs.length=ct.ar.length)(hargs:y9 (vs++us) A p w ct.all (vs++us) ds)
  (h:WfA ct.ars ds→(qb7 uB tbl ann ct fn cd).go (yx tbl) R ds fun _ _=>False){P:Ending→World→Prop}
  (hret:∀o rs p' w',R o→Bs A F w (pinned p) p' w'→qi8 A p' w' ct.rs ct.ar.length rs (o.take ct.rs.length)→q7q (vs++us) A p p' w' ct.all (o.drop ct.rs.length)→P (.returned (qkk rs)) w')
  (hQ:∀e∈tbl,∀T,e.1.pn=some T→(∃ds,e.2 ds=some [.u])→∀w',But (pinned p) w w'→P (.panicked (q93 T)) w')
  (hR:R [.u]→∀e∈tbl,∀T,e.1.pn=some T→∀w',But (pinned p) w w'→P (.panicked (q93 T)) w'):cd.wp uB (bodyPost uB fn P) {tmps:=vs.toArray++kN (fn.ntmps - vs.toArray.size) undef,defers:=[]} w:=by
 obtain⟨hwf,hdl,-⟩:=hargs.wf;rw[all_map] at hwf hdl;have hgo:=h hwf;obtain⟨hb0,hsf⟩:=qzj (tbl:=tbl) hsz hfo hpre hvl hargs;refine(wpIn_wide (n:=0)).1 ?_;refine z8a none 0 (c:=cxA tbl ct A F p vs us ds) (S0:=pinned p) (w0:=w) (d:=[]) (z:=fn.ntmps) htb hfm cd hgo hdl hb0 hsf rfl (by simp;omega) (fun e he T h1 h2 a w2 h3 h4=>⟨h3,hQ e he T h1 h2 w2 h4⟩) (fun h0 e he T h1 a w2 h3 h4=>⟨h3,hR h0 e he T h1 w2 h4⟩) fun n' r σ' l' B' p' w' a' hl' hpre' hB hgo' hb' hf' hd' hz'=>?_;have fin':∀xs,fin ct fn.results.toList σ'=some xs→R (X.evs (evl (yx tbl) l') xs)→a'.defers=[]∧∃v,(results fn a'.tmps).run uB w'=.ok v w'∧P (.returned v) w':=by
  intro xs hfin hout;obtain⟨rs,p2,h1,h2,h3,h4⟩:=z6m (c:=cxA tbl ct A F p vs us ds) rfl rfl (fun _ _=>rfl) hargs hvl hb' hf' hfin;exact⟨hd',_,h1,hret _ rs p2 w' hout h2 h3 h4⟩
 cases r with
 |exit i=>exact hgo'.elim
 | normal =>
  simp only[z8x] at hgo';split at hgo'
  ·rename_i xs hx;exact fin' xs hx hgo'
  ·exact hgo'.elim
 | ret =>
  simp only[z8x] at hgo';split at hgo'
  ·rename_i xs hx;exact fin' xs hx hgo'
  ·exact hgo'.elim
theorem qly{ct:Ct}{tbl:Tbl}(ann:Ann)(fn:Func)(cd:Code)(htb:q16 tbl)(hf:uB.funcs[ct.f]? =some fn)(hb:fn.body=some cd)(hsz:ct.ar.length≤fn.ntmps)
  {A:Nat→Prop}{F:Flr}{p:z0}{w:World}{vs us:List Value}{ds:List D}{R:List D→Prop}(hfm:∀te,F.mx te≤flM tbl te)(hfo:Flo F w w)(hpre:Pre ct.ar.length A F p w)(hvl:vs.length=ct.ar.length)(hargs:y9 (vs++us) A p w ct.all (vs++us) ds)
  (h:WfA ct.ars ds→(qb7 uB tbl ann ct fn cd).go (yx tbl) R ds fun _ _=>False){P:Ending→World→Prop}
  (hret:∀o rs p' w',R o→Bs A F w (pinned p) p' w'→qi8 A p' w' ct.rs ct.ar.length rs (o.take ct.rs.length)→q7q (vs++us) A p p' w' ct.all (o.drop ct.rs.length)→P (.returned (qkk rs)) w')
  (hQ:∀e∈tbl,∀T,e.1.pn=some T→(∃ds,e.2 ds=some [.u])→∀w',But (pinned p) w w'→P (.panicked (q93 T)) w')
  (hR:R [.u]→∀e∈tbl,∀T,e.1.pn=some T→∀w',But (pinned p) w w'→P (.panicked (q93 T)) w'):Calls uB ct.f vs.toArray w P:=calls_of_wp hf hb (z9f ann fn cd htb hf hb hsz hfm hfo hpre hvl hargs h hret hQ hR)
def FlF(ct:Ct)(tbl:Tbl)(ds:List D):Prop:=∀F,qd5 ct F ds→∀te,F.mx te≤flM tbl te
theorem FlF.none{ct:Ct}{tbl:Tbl}{ds:List D}(h:ct.fl=[]):FlF ct tbl ds:=fun F hF te=>by rw[hF.zero h];exact Nat.zero_le _
theorem z3l{ct:Ct}{g:List D→Option (List D)}{tbl:Tbl}(ann:Ann)(fn:Func)(cd:Code)(htb:q16 tbl)(hf:uB.funcs[ct.f]? =some fn)(hb:fn.body=some cd)
  (hen:∀args w,(callFunc ct.f args).run uB w=.ok (.enter ct.f args) w)(hsz:ct.ar.length≤fn.ntmps)
  (h:∀ds outs,WfA ct.ars ds→g ds=some outs→(qb7 uB tbl ann ct fn cd).go (yx tbl) (fun o=>o=outs) ds fun _ _=>False)(hnp:qwo tbl=true:=by rfl)(hkp:ct.kp=[]:=by rfl)(hfl:ct.fl=[]:=by rfl):FOk ct g:=
 ⟨hen,fun A F p w vs us ds outs hg hfo0 hfo hpre hvl hargs=>qly ann fn cd htb hf hb hsz (FlF.none hfl F hfo0) hfo hpre hvl hargs (fun hw=>h ds outs hw hg)
  (fun o rs p' w' ho h1 h2 h3=>.inr ⟨rs,p',rfl,h1,by rw[←ho];exact h2,by rw[←ho];exact h3⟩) (fun e he T hT=>(qtc hnp he hT).elim) (fun _ e he T hT=>(qtc hnp he hT).elim),fun h=>absurd hkp h⟩
def FAt(ct:Ct)(ds outs:List D):Prop:=∀(A:Nat→Prop)(F:Flr)(p:z0)(w:World)(vs us:List Value),qd5 ct F ds→Flo F w w→Pre ct.ar.length A F p w→vs.length=ct.ar.length→y9 (vs++us) A p w ct.all (vs++us) ds→
  Calls uB ct.f vs.toArray w fun e w'=>(∃T,ct.pn=some T∧outs=[.u]∧e=.panicked (q93 T)∧But (pinned p) w w')∨∃rs p',e=.returned (qkk rs)∧Bs A F w (pinned p) p' w'∧qi8 A p' w' ct.rs ct.ar.length rs (outs.take ct.rs.length)∧q7q (vs++us) A p p' w' ct.all (outs.drop ct.rs.length)
theorem FOk.of_at{ct:Ct}{g:List D→Option (List D)}(hen:∀args w,(callFunc ct.f args).run uB w=.ok (.enter ct.f args) w)(h:∀ds outs,WfA ct.ars ds→g ds=some outs→FAt ct ds outs)(hkp:ct.kp=[]:=by rfl):FOk ct g:=
 ⟨hen,fun A F p w vs us ds outs hg hfl hfo hpre hvl hargs=>h ds outs (by rw[←all_map];exact hargs.wf.1) hg A F p w vs us hfl hfo hpre hvl hargs,fun h=>absurd hkp h⟩
theorem z4i{ct:Ct}{tbl:Tbl}(ann:Ann)(fn:Func)(cd:Code)(htb:q16 tbl)(hf:uB.funcs[ct.f]? =some fn)(hb:fn.body=some cd)(hsz:ct.ar.length≤fn.ntmps)(hnp:∀e∈tbl,∀ds,e.1.pn≠none→e.2 ds≠some [.u])
  {ds outs:List D}(ho:outs≠[.u])(h:(qb7 uB tbl ann ct fn cd).go (yx tbl) (fun o=>o=outs) ds fun _ _=>False)(hfm:FlF ct tbl ds:=by exact FlF.none rfl):FAt ct ds outs:=
 fun A F p w vs us hfl hfo hpre hvl hargs=>qly ann fn cd htb hf hb hsz (hfm F hfl) hfo hpre hvl hargs (fun _=>h)
  (fun o rs p' w' ho h1 h2 h3=>.inr ⟨rs,p',rfl,h1,by rw[←ho];exact h2,by rw[←ho];exact h3⟩) (fun e he T hT⟨ds,hd⟩=>(hnp e he ds (by rw[hT];simp) hd).elim) (fun h0=>(ho h0.symm).elim)
def z8v(ct:Ct)(o:List D):Prop:=∀A p w n rs,¬qi8 A p w ct.rs n rs (o.take ct.rs.length)
theorem z61{ct:Ct}{tbl:Tbl}(ann:Ann)(fn:Func)(cd:Code)(htb:q16 tbl)(hf:uB.funcs[ct.f]? =some fn)(hb:fn.body=some cd)(hsz:ct.ar.length≤fn.ntmps){T:TypeId}(hT:ct.pn=some T)(hnp:∀e∈tbl,∀T',e.1.pn=some T'→T'=T)
  {ds:List D}(h:(qb7 uB tbl ann ct fn cd).go (yx tbl) (z8v ct) ds fun _ _=>False)(hfm:FlF ct tbl ds:=by exact FlF.none rfl):FAt ct ds [.u]:=
 fun A F p w vs us hfl hfo hpre hvl hargs=>qly ann fn cd htb hf hb hsz (hfm F hfl) hfo hpre hvl hargs (fun _=>h)
  (fun o rs p' w' ho h1 h2 h3=>(ho _ _ _ _ _ h2).elim) (fun e he T' hT' _ w' hb=>.inl ⟨T',by rw[hT,hnp e he T' hT'],rfl,rfl,hb⟩) (fun _ e he T' hT' w' hb=>.inl ⟨T',by rw[hT,hnp e he T' hT'],rfl,rfl,hb⟩)
theorem q16.nil:q16 []:=fun e he=>by cases he
theorem q16.cons{ct:Ct}{g:List D→Option (List D)}{l:Tbl}(h:FOk ct g)(hl:q16 l):q16 ((ct,g)::l):=fun e he=>by
 rcases uN.1 he with rfl|he
 ·exact h
 ·exact hl e he
end
theorem Wf.row{d:D}{E:TypeId}(h:Wf d (.row E)):∃l te,d=.r l∧qw E=some te∧l.length≤LM te∧∀x∈l,Wf x te:=by
 obtain⟨w,F,cs,h⟩:=h;cases d with
 |r l=>
  obtain⟨E',te,A,cap,e,hte,e3,h1,h2,-,hR⟩:=h;injection e with e;subst e;refine⟨l,te,rfl,hte,h2,fun x hx=>?_⟩;obtain⟨i,hi,rfl⟩:=List.mem_iff_getElem.1 hx;obtain⟨b,o,c,-,-,-,hr⟩:=q1u.1 hR i hi;exact⟨w,F,c,hr⟩
 |u=>exact h.elim
 |i n=>rcases h with⟨k,e,-⟩|⟨e,-⟩<;>cases e
 |b x=>cases h.1
 |s x=>cases h.1
 |a l=>obtain⟨T',fs0,e1,-⟩:=h;cases e1
 |mp l=>obtain⟨K,V,kt,vt,g,es,clock,e,-⟩:=h;cases e
theorem Wf.int{d:D}{k:IntKind}(h:Wf d (.int k)):∃n,d=.i n∧q0r k n=true:=by
 obtain⟨w,F,cs,h⟩:=h;cases d with
 | i n =>
  rcases h with⟨k',e,-,hr⟩|⟨e,-⟩
  ·injection e with e;subst e;exact⟨n,rfl,hr⟩
  ·cases e
 |u=>exact h.elim
 |r l=>obtain⟨E,te,A,cap,e,-⟩:=h;cases e
 |b x=>cases h.1
 |s x=>cases h.1
 |a l=>obtain⟨T',fs0,e1,-⟩:=h;cases e1
 |mp l=>obtain⟨K,V,kt,vt,g,es,clock,e,-⟩:=h;cases e
theorem Wf.bool{d:D}(h:Wf d .bool):∃x,d=.b x:=by
 obtain⟨w,F,cs,h⟩:=h;cases d with
 |b x=>exact⟨x,rfl⟩
 |u=>exact h.elim
 |r l=>obtain⟨E,te,A,cap,e,-⟩:=h;cases e
 |i n=>rcases h with⟨k,e,-⟩|⟨e,-⟩<;>cases e
 |s x=>cases h.1
 |a l=>obtain⟨T',fs0,e1,-⟩:=h;cases e1
 |mp l=>obtain⟨K,V,kt,vt,g,es,clock,e,-⟩:=h;cases e
theorem Wf.str{d:D}(h:Wf d .str):∃x,d=.s x∧x.size≤LIM:=by
 obtain⟨w,F,cs,h⟩:=h;cases d with
 |s x=>exact⟨x,rfl,h.2.2⟩
 |u=>exact h.elim
 |r l=>obtain⟨E,te,A,cap,e,-⟩:=h;cases e
 |i n=>rcases h with⟨k,e,-⟩|⟨e,-⟩<;>cases e
 |b x=>cases h.1
 |a l=>obtain⟨T',fs0,e1,-⟩:=h;cases e1
 |mp l=>obtain⟨K,V,kt,vt,g,es,clock,e,-⟩:=h;cases e
def WfL:List D→List Ty→Prop
 |[],fs=>fs=[]
 |d::ds,fs=>∃t ts,fs=t::ts∧Wf d t∧WfL ds ts
theorem RdF.wf{w:World}{F:Nat→Prop}:∀{ds:List D}{fs:List Ty}{cs:List Value},RdF w F ds fs cs→WfL ds fs
 |[],fs,cs,h=>h.1
 |d::ds,fs,cs,h=>by
  obtain⟨t,ts,c1,c2,e1,-,h1,h2⟩:=h;exact⟨t,ts,e1,⟨w,F,c1,h1⟩,RdF.wf h2⟩
theorem Wf.st{d:D}{S:TypeId}(h:Wf d (.st S)):∃ds fs,d=.a ds∧flds S=some fs∧WfL ds fs:=by
 obtain⟨w,F,cs,h⟩:=h;cases d with
 |a l=>
  obtain⟨T',fs0,e1,e2,h⟩:=h;injection e1 with e1;subst e1;exact⟨l,fs0,rfl,e2,RdF.wf h⟩
 |u=>exact h.elim
 |r l=>obtain⟨E,te,A,cap,e,-⟩:=h;cases e
 |i n=>rcases h with⟨k,e,-⟩|⟨e,-⟩<;>cases e
 |b x=>cases h.1
 |s x=>cases h.1
 |mp l=>obtain⟨K,V,kt,vt,g,es,clock,e,-⟩:=h;cases e
def z5a(e:Ev):List X→Bool
 |[]=>true
 |x::l=>(x.ev e).tt&&z5a e l
theorem qy5{e:Ev}:∀{l:List X},z5a e l=true→q98 e l
 |[],_=>trivial
 |x::l,h=>by
  simp only[z5a,gnB] at h;exact⟨h.1,qy5 h.2⟩
def itf(f:List D→Option (Nat×List D))(id:Nat):Nat→List D→Option (Nat×List D)
 |0,_=>none
 |k+1,st=>match f st with
  |some (j,st')=>if uK j (id+1) then itf f id k st' else some (j,st')
  |none=>none
def qqy:Nat×List D→Nat×List D→Bool:=fun a b=>uK a.1 b.1&&D.beqs a.2 b.2
def Tree.den(S:Nat→List D→Option (List D))(fuel:Nat):Tree→List D→Option (Nat×List D)
 |.bad _,_=>none
 |.need ns t,l=>if z5a (evl S l) ns then t.den S fuel l else none
 |.br x t e,l=>if(x.ev (evl S l)).tt then t.den S fuel l else e.den S fuel l
 | .amb x neg t e, l => if (x.ev (evl S l)).rs.isEmpty then (match t.den S fuel l, e.den S fuel l with
   |some a,some b=>if qqy a b then some a else none
   |_,_=>none) else if neg then t.den S fuel l else e.den S fuel l
 |.leaf xs,l=>some (0,X.evs (evl S l) xs)
 |.back id xs,l=>some (id+1,X.evs (evl S l) xs)
 |.loop id n init body,l=>itf (fun st=>body.den S fuel (l.take n++st)) id fuel (X.evs (evl S l) init)
def z7o(R:List D→Prop)(B:Nat→List D→Prop):Nat×List D→Prop
  |(0,xs)=>R xs
  |(id+1,xs)=>B id xs
theorem qw7:∀{l m:List D},D.beqs l m=true→l=m
 |[],[],_=>rfl
 |x::l,y::m,h=>by
  simp only[D.beqs,gnB] at h;rw[(D.beq_iff _ _).1 h.1,qw7 h.2]
 |[],_::_,h=>by simp[D.beqs] at h
 |_::_,[],h=>by simp[D.beqs] at h
theorem quf{a b:Nat×List D}(h:qqy a b=true):a=b:=by
 obtain⟨i,l⟩:=a;obtain⟨j,m⟩:=b;simp only[qqy,gnB] at h;rw[gnN h.1,qw7 h.2]
theorem qs1{P:Nat→Prop}(h:∃k,P k):∃m,P m∧∀k,P k→m≤k:=by
 obtain⟨k,hk⟩:=h
 induction k using Nat.strongRecOn with
 | _ k ih =>
  by_cases hl:∃j,j<k∧P j
  ·obtain⟨j,hj,hp⟩:=hl;exact ih j hj hp
  ·exact⟨k,hk,fun j hj=>Nat.le_of_not_lt fun hlt=>hl ⟨j,hlt,hj⟩⟩
open Classical in
noncomputable def qcm(P:Nat→Prop):Nat:=if h:∃k,P k then(qs1 h).choose else 0
theorem qp4{P:Nat→Prop}(h:∃k,P k):P (qcm P)∧∀k,P k→qcm P≤k:=by
 unfold qcm;rw[dif_pos h];exact(qs1 h).choose_spec
theorem qyn{S:Nat→List D→Option (List D)}{fuel:Nat}{R:List D→Prop}:∀(t:Tree){l:List D}{B:Nat→List D→Prop}{out:Nat×List D},t.den S fuel l=some out→z7o R B out→t.go S R l B:=by
 intro t
 induction t with
 |bad n=>intro l B out h;cases h
 | need ns t ih =>
  intro l B out h ho;unfold Tree.den at h;split at h
  ·rename_i hs;exact⟨qy5 hs,ih h ho⟩
  ·cases h
 | br x t e iht ihe =>
  intro l B out h ho;unfold Tree.den at h;refine⟨fun hx=>?_,fun hx=>?_⟩
  ·rw[if_pos hx] at h;exact iht h ho
  ·rw[if_neg (by rw[hx];decide)] at h;exact ihe h ho
 | amb x neg t e iht ihe =>
  intro l B out h ho;unfold Tree.den at h;split at h
  ·split at h
   ·rename_i a b ha hb;split at h
    ·rename_i hs;injection h with h;subst h;have:=quf hs;subst this;exact⟨fun _=>iht ha ho,fun _=>ihe hb ho⟩
    ·cases h
   ·cases h
  ·rename_i hne;have hne':¬(x.ev (evl S l)).rs=[]:=fun e=>hne (by rw[e];rfl);split at h
   ·rename_i hn;exact⟨fun _=>iht h ho,fun hc=>absurd (hc hn) hne'⟩
   ·rename_i hn;exact⟨fun hc=>absurd (hc (by simpa using hn)) hne',fun _=>ihe h ho⟩
 |leaf xs=>
  intro l B out h ho;simp only[Tree.den,uD] at h;subst h;exact ho
 |back id xs=>
  intro l B out h ho;simp only[Tree.den,uD] at h;subst h;exact ho
 | loop id n init body ih =>
  intro l B out h ho;unfold Tree.den at h;generalize hf:(fun st=>body.den S fuel (l.take n++st))=f at h;have hfe:∀st,body.den S fuel (l.take n++st)=f st:=fun st=>by rw[←hf]
  -- more rounds answer alike
  have mono:∀k st o,itf f id k st=some o→itf f id (k+1) st=some o:=by
   intro k
   induction k with
   |zero=>intro st o h;cases h
   | succ k ihk =>
    intro st o h;unfold itf at h⊢;split at h
    ·rename_i j st' hj;split at h
     ·rename_i hb;rw[if_pos hb];exact ihk _ _ h
     ·rename_i hb;rw[if_neg hb];exact h
    ·cases h
  refine⟨fun st=>∃k o,itf f id k st=some o∧z7o R B o,fun st=>qcm fun k=>(itf f id k st).isSome=true,⟨fuel,out,h,ho⟩,?_⟩;rintro st - ⟨k,o,hk,hoo⟩;have hex:∃k,(itf f id k st).isSome=true:=⟨k,by rw[hk];rfl⟩;obtain⟨hmin,-⟩:=qp4 hex;obtain⟨o',ho'⟩:=uY.1 hmin;have up:∀a b st o,itf f id a st=some o→itf f id (a+b) st=some o:=by
   intro a b
   induction b with
   |zero=>intro st o h;exact h
   |succ b ihb=>intro st o h;exact mono _ _ _ (ihb st o h)
  have hoo':o'=o:=by
   have h1:=up _ k st o' ho';have h2:=up k (qcm fun k=>(itf f id k st).isSome=true) st o hk;rw[Nat.add_comm] at h2;exact gnI (h1.symm.trans h2)
  rw[hoo'] at ho';cases hm:qcm (fun k=>(itf f id k st).isSome=true) with
  |zero=>rw[hm] at ho';cases ho'
  | succ m =>
   rw[hm] at ho';unfold itf at ho';split at ho'
   ·rename_i j st' hj;refine ih ((hfe st).trans hj) ?_;split at ho'
    ·rename_i hb;obtain rfl:=gnN hb
     show q0t B id _ id st'
     unfold q0t;rw[if_pos rfl];refine⟨⟨m,o,ho',hoo⟩,?_⟩;have hex':∃k,(itf f id k st').isSome=true:=⟨m,by rw[ho'];rfl⟩
     show _<qcm (fun k=>(itf f id k st).isSome=true)
     rw[hm];exact Nat.lt_succ_of_le ((qp4 hex').2 m (by rw[ho'];rfl))
    ·rename_i hb;injection ho' with ho';subst ho';cases j with
     |zero=>exact hoo
     | succ j =>
      show q0t B id _ j st'
      unfold q0t;rw[if_neg]
      ·exact hoo
      ·intro e;subst e;exact hb (kX _)
   ·cases ho'
def z1o:Option (Nat×List D)→Option (List D)
 |some (0,xs)=>some xs
 |_=>none
theorem z26{o:Option (Nat×List D)}{xs:List D}(h:z1o o=some xs):o=some (0,xs):=by
 unfold z1o at h;split at h
 ·injection h with h;rw[h]
 ·cases h
def z9b(tbl:Tbl)(fuel:Nat)(t:Tree):List D→Option (List D):=fun ds=>z1o (t.den (yx tbl) fuel ds)
theorem z49{tbl:Tbl}{fuel:Nat}{t:Tree}{ds outs:List D}(h:z9b tbl fuel t ds=some outs):t.go (yx tbl) (fun o=>o=outs) ds fun _ _=>False:=
 qyn t (z26 h) rfl
theorem FOk.none{ct:Ct}(hen:∀args w,(callFunc ct.f args).run uB w=.ok (.enter ct.f args) w):FOk ct fun _=>Option.none:=⟨hen,fun A F p w vs us ds outs h=>(by cases h),fun _ A F p w vs us ds outs h=>(by cases h)⟩
def jt(m:List D→Nat)(n:Nat)(g:List D→Option (List D)):List D→Option (List D):=fun ds=>if m ds<n then g ds else none
theorem q29{ct:Ct}{m:List D→Nat}{g:List D→Option (List D)}(hen:∀args w,(callFunc ct.f args).run uB w=.ok (.enter ct.f args) w)(h:∀n,FOk ct (jt m n g)→FOk ct (jt m (n+1) g)):FOk ct g:=by
 have key:∀n,FOk ct (jt m n g):=by
  intro n
  induction n with
  |zero=>exact⟨hen,fun A F p w vs us ds outs h=>(by simp[jt] at h),fun _ A F p w vs us ds outs h=>(by simp[jt] at h)⟩
  |succ n ih=>exact h n ih
 refine⟨hen,fun A F p w vs us ds outs hg f1 f2 hp hl ha=>(key (m ds+1)).call A F p w vs us ds outs ?_ f1 f2 hp hl ha,fun hk A F p w vs us ds outs hg f1 f2 hp hl ha=>(key (m ds+1)).keep hk A F p w vs us ds outs ?_ f1 f2 hp hl ha⟩<;>
 ·simp only[jt,if_pos (kO _)];exact hg
theorem FOk.sub{ct:Ct}{g g':List D→Option (List D)}(h:FOk ct g)(hs:∀ds outs,g' ds=some outs→g ds=some outs):FOk ct g':=⟨h.enter,fun A F p w vs us ds outs hg f1 f2 hp hl ha=>h.call A F p w vs us ds outs (hs ds outs hg) f1 f2 hp hl ha,fun hk A F p w vs us ds outs hg f1 f2 hp hl ha=>h.keep hk A F p w vs us ds outs (hs ds outs hg) f1 f2 hp hl ha⟩
theorem FOk.subW{ct:Ct}{g g':List D→Option (List D)}(h:FOk ct g)(hs:∀ds outs,WfA ct.ars ds→g' ds=some outs→g ds=some outs):FOk ct g':=⟨h.enter,fun A F p w vs us ds outs hg f1 f2 hp hl ha=>h.call A F p w vs us ds outs (hs ds outs (by rw[←all_map];exact ha.wf.1) hg) f1 f2 hp hl ha,fun hk A F p w vs us ds outs hg f1 f2 hp hl ha=>h.keep hk A F p w vs us ds outs (hs ds outs (by rw[←all_map];exact ha.wf.1) hg) f1 f2 hp hl ha⟩
section
section
variable{A A':Nat→Prop}{F:Flr}{p:z0}{w:World}(hA:∀b,b<w.heap.size→A b→A' b)
include hA
end
section
variable{c c':Cx}{p:z0}{w:World}
end
section
variable{A:Nat→Prop}{F:Flr}{p p':z0}{w w' w0:World}{S0:Nat→Prop}
end
end
section
section
variable{c:Cx}{p:z0}{w w' w0:World}{S0:Nat→Prop}{a:Act}{σ σ':St}{d:List Deferred}{z:Nat}{tbl:Tbl}{A:Nat→Prop}{F:Flr}
end
end
section
section
variable{lo z:Nat}{tbl:Tbl}
end
end
section
theorem q04(n:Int):(D.i n).int=n:=rfl
theorem qdc(x:Bool):(D.b x).tt=x:=by cases x<;>rfl
theorem q7p(l:List D):(D.r l).rs=l:=rfl
theorem z87(l:List D):(D.a l).fs=l:=rfl
theorem qew(x:ByteArray):(D.s x).str=x:=rfl
theorem z6v(m n:Int):(D.i m=D.i n)=(m=n):=by simp
theorem z6t(m n:Bool):(D.b m=D.b n)=(m=n):=by simp
theorem z0q(m n:ByteArray):(D.s m=D.s n)=(m=n):=by simp
theorem yp{S:Nat→List D→Option (List D)}{R:List D→Prop}{ns:List X}{t:Tree}{l:List D}{B:Nat→List D→Prop}:(Tree.need ns t).go S R l B=(q98 (evl S l) ns∧t.go S R l B):=rfl
theorem yb{S:Nat→List D→Option (List D)}{R:List D→Prop}{x:X}{t e:Tree}{l:List D}{B:Nat→List D→Prop}:(Tree.br x t e).go S R l B=(((x.ev (evl S l)).tt=true→t.go S R l B)∧((x.ev (evl S l)).tt=false→e.go S R l B)):=rfl
theorem q9f{S:Nat→List D→Option (List D)}{R:List D→Prop}{xs:List X}{l:List D}{B:Nat→List D→Prop}:(Tree.leaf xs).go S R l B=R (X.evs (evl S l) xs):=rfl
theorem qwx{S:Nat→List D→Option (List D)}{R:List D→Prop}{id:Nat}{xs:List X}{l:List D}{B:Nat→List D→Prop}:(Tree.back id xs).go S R l B=B id (X.evs (evl S l) xs):=rfl
theorem j4{S:Nat→List D→Option (List D)}{R:List D→Prop}{id n:Nat}{init:List X}{body:Tree}{l:List D}{B:Nat→List D→Prop}:(Tree.loop id n init body).go S R l B=∃(I:List D→Prop)(μ:List D→Nat),I (X.evs (evl S l) init)∧
   ∀st,st.length=init.length→I st→body.go S R (l.take n++st) (q0t B id fun st'=>I st'∧μ st'<μ st):=rfl
theorem qxk{n:Int}:q0r .i64 n=true↔-9223372036854775808≤n∧n≤9223372036854775807:=by simp[q0r]
theorem gnA:type_of% (uA @uM.{0} (uA @kG.{0} (uA @uL.{0} (uA @uG.{0} (uA @qdc (uA @q04 (uA @qew (uA @q7p (uA @kB.{0} (uA @kI.{0} (uA @decide_eq_true_eq (uA @decide_eq_false_iff_not (uA @uW.{0,0} (uA @z6v (uA @z6t (uA @z0q (uA @qxk (uA @kF.{0} (uA @kS.{0} (uA @kP.{0} (uA @kL.{0} (uA @decide_true (uA @decide_false (uA @kU (uA @true_and @and_true))))))))))))))))))))))))):=uA @uM.{0} (uA @kG.{0} (uA @uL.{0} (uA @uG.{0} (uA @qdc (uA @q04 (uA @qew (uA @q7p (uA @kB.{0} (uA @kI.{0} (uA @decide_eq_true_eq (uA @decide_eq_false_iff_not (uA @uW.{0,0} (uA @z6v (uA @z6t (uA @z0q (uA @qxk (uA @kF.{0} (uA @kS.{0} (uA @kP.{0} (uA @kL.{0} (uA @decide_true (uA @decide_false (uA @kU (uA @true_and @and_true))))))))))))))))))))))))
theorem gnZ:type_of% (uA @yp (uA @yb (uA @q9f (uA @qwx (uA @q98.eq_1 (uA @q98.eq_2 (uA @X.says.eq_1 (uA @X.ev.eq_1 (uA @X.ev.eq_2 (uA @X.ev.eq_3 (uA @X.ev.eq_4 (uA @X.ev.eq_5 (uA @X.ev.eq_6 (uA @X.ev.eq_7 (uA @X.ev.eq_8 (uA @X.ev.eq_9 (uA @X.ev.eq_10 (uA @X.ev.eq_11 (uA @X.ev.eq_12 (uA @X.ev.eq_13 (uA @X.ev.eq_14 (uA @X.ev.eq_15 (uA @X.ev.eq_16 (uA @X.ev.eq_17 (uA @X.ev.eq_18 (uA @X.ev.eq_19 (uA @X.ev.eq_20 (uA @X.ev.eq_21 (uA @X.ev.eq_22 (uA @X.ev.eq_23 (uA @X.ev.eq_24 (uA @X.ev.eq_25 (uA @X.ev.eq_26 (uA @X.ev.eq_27 (uA @X.ev.eq_28 (uA @X.ev.eq_29 (uA @X.evs.eq_1 (uA @X.evs.eq_2 (uA @evl.eq_1 (uA @yx.eq_1 @gnA)))))))))))))))))))))))))))))))))))))))):=uA @yp (uA @yb (uA @q9f (uA @qwx (uA @q98.eq_1 (uA @q98.eq_2 (uA @X.says.eq_1 (uA @X.ev.eq_1 (uA @X.ev.eq_2 (uA @X.ev.eq_3 (uA @X.ev.eq_4 (uA @X.ev.eq_5 (uA @X.ev.eq_6 (uA @X.ev.eq_7 (uA @X.ev.eq_8 (uA @X.ev.eq_9 (uA @X.ev.eq_10 (uA @X.ev.eq_11 (uA @X.ev.eq_12 (uA @X.ev.eq_13 (uA @X.ev.eq_14 (uA @X.ev.eq_15 (uA @X.ev.eq_16 (uA @X.ev.eq_17 (uA @X.ev.eq_18 (uA @X.ev.eq_19 (uA @X.ev.eq_20 (uA @X.ev.eq_21 (uA @X.ev.eq_22 (uA @X.ev.eq_23 (uA @X.ev.eq_24 (uA @X.ev.eq_25 (uA @X.ev.eq_26 (uA @X.ev.eq_27 (uA @X.ev.eq_28 (uA @X.ev.eq_29 (uA @X.evs.eq_1 (uA @X.evs.eq_2 (uA @evl.eq_1 (uA @yx.eq_1 @gnA)))))))))))))))))))))))))))))))))))))))
section
variable{α:Type}[Inhabited α]
theorem get_map(e:α→D){l:List α}{i:Nat}(h:i<l.length):(l.map e).getD i .u=e (l.getD i default):=by
 simp[gnG,h]
theorem z9t(e:α→D){l:List α}{i:Nat}(h:i<l.length):(D.r (l.map e)).get (i:Int)=e (l.getD i default):=get_map e (by simpa using h)
omit [Inhabited α] in
theorem qgd{e:α→D}{P:α→Prop}{l:List D}(h:∀x∈l,∃a,x=e a∧P a):∃m:List α,l=m.map e∧∀a∈m,P a:=by
 induction l with
 |nil=>exact⟨[],rfl,fun a ha=>by cases ha⟩
 |cons x l ih=>
  obtain⟨a,rfl,ha⟩:=h x uH;obtain⟨m,rfl,hm⟩:=ih fun y hy=>h y (uI _ hy);refine⟨a::m,rfl,fun b hb=>?_⟩;rcases uN.1 hb with rfl|hb
  ·exact ha
  ·exact hm b hb
theorem qkw{l:List α}{i:Nat}(h:i<l.length):l.getD i default∈l:=by
 rw[gnG,gnK h];exact List.getElem_mem h
theorem ji{l:List α}{k:Nat}(h:k<l.length):l.take (k+1)=l.take k++[l.getD k default]:=by
 rw[List.take_add_one,gnK h];simp[gnG,h]
end
theorem z6q{n:Nat}{P:Nat→Bool}(h:∀j,j<n→P j=true):(uS n).all P=true:=by
 rw[uJ];exact fun j hj=>h j (kT.1 hj)
theorem z6p{n k:Nat}{P:Nat→Bool}(hk:k<n)(h:P k=false):(uS n).all P=false:=by
 cases ha:(uS n).all P with
 |false=>rfl
 |true=>rw[uJ.1 ha k (kT.2 hk)] at h;cases h
theorem q8z{P:Nat→Prop}{k:Nat}(h:∀j,j<k→P j)(hk:P k):∀j,j<k+1→P j:=fun j hj=>by
 rcases Nat.lt_succ_iff_lt_or_eq.1 hj with h1|h1
 ·exact h j h1
 ·exact h1▸hk
theorem quv{ds:List D}{t u:Ty}(h:WfL ds [t,u]):∃a b,ds=[a,b]∧Wf a t∧Wf b u:=by
 match ds,h with
 |[],h=>cases h
 |[a],h=>obtain⟨t,ts,e,h1,h2⟩:=h;rw[h2] at e;cases e
 |[a,b],h=>
  obtain⟨t,ts,e,h1,t2,ts2,e2,h2,-⟩:=h;injection e with e e';subst e e';injection e2 with e2 e2';subst e2;exact⟨a,b,rfl,h1,h2⟩
 |a::b::c::l,h=>obtain⟨t,ts,e,h1,t2,ts2,e2,h2,t3,ts3,e3,-⟩:=h;subst e2 e3;cases e
theorem q76{ds:List D}{t:Ty}{ts:List Ty}(h:WfL ds (t::ts)):∃a r,ds=a::r∧Wf a t∧WfL r ts:=by
 match ds,h with
 |[],h=>cases h
 |a::r,h=>
  obtain⟨t,ts,e,h1,h2⟩:=h;injection e with e e';subst e e';exact⟨a,r,rfl,h1,h2⟩
theorem Wf.st_of{d:D}{S:TypeId}{fs:List Ty}(h:Wf d (.st S))(hf:flds S=some fs):∃ds,d=.a ds∧WfL ds fs:=by
 obtain⟨ds,fs',rfl,hf',hl⟩:=h.st;rw[hf] at hf';injection hf' with hf';subst hf';exact⟨ds,rfl,hl⟩
theorem Wf.row_of{d:D}{E:TypeId}{te:Ty}(h:Wf d (.row E))(hE:qw E=some te):∃l,d=.r l∧l.length≤LM te∧∀x∈l,Wf x te:=by
 obtain⟨l,te',rfl,hE',h1,h2⟩:=h.row;rw[hE] at hE';injection hE' with hE';subst hE';exact⟨l,rfl,h1,h2⟩
end
section
section
variable{c:Cx}{s:Nat→Value}{p:z0}{w:World}
end
section
variable{c:Cx}{p:z0}{w w0:World}{S0:Nat→Prop}{a:Act}{σ σ':St}{d:List Deferred}{z:Nat}{tbl:Tbl}
end
end
end Go.Proofs.Ytbmaffphliignaa
