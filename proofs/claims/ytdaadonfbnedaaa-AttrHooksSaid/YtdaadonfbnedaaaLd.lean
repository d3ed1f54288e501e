/-
 Lemmas of the walk and plain laws, put together. No condition.
-/
import Derived.Defers
import Derived.Laws.Tables
import Derived.Test.YtdaadonfbnedaaaLc
namespace Go.Proofs.Ytdaadonfbnedaaa
open Go.RowKit
set_option linter.unusedVariables false
set_option linter.unusedSimpArgs false
set_option maxRecDepth 100000
open _root_.Go.Proofs.Try renaming prog→uA,f81→kX,f80→kY,f51→kZ,f10→vA
open _root_.Nat renaming le_refl→uB,beq→uJ,le_trans→uK,sub_self→uO,min_eq_left→uW,lt_of_lt_of_le→kI,blt→kJ,lt_succ_self→kN,beq_refl→kT,add_zero→kU,zero_le→kV,blt_eq→kW
open _root_.List renaming mem_cons_self→uC,mem_cons_of_mem→uD,take_length→uE,getElem?_append_left→uG,all_eq_true→uI,mem_cons→uL,getElem?_cons_succ→uM,range→uN,mem_append_right→uP,take_take→uQ,mem_append_left→uR,length_append→uT,take_append_of_le_length→uV,mem_range→uY,getElem?_append_right→uZ,getElem?_take_of_lt→kB,getElem?_cons_zero→kC,range'→kD,length→kE,getD_cons_zero→kG,filter_cons→kK,any_eq_true→kL,mem_append→kO
open _root_.Option.some renaming injEq→uF
open World renaming putObj_heap_other→uH
open _root_.Array renaming eq_empty_of_size_eq_zero→uU,replicate→kM
open _root_.Option renaming isSome_iff_exists→uX,map_eq_some_iff→kA
variable{α:Type}{p:qj}{e:Ev}{S:Nat→List D→Option (List D)}{R:List D→Prop}{B:Nat→List D→Prop}{A:Nat→Prop}{dep kill:List Nat}{cs:List Value}{Q:Exit→Act→World→Prop}
section
inductive Tree where
 |bad(n:Nat)
 |need(ns:List X)(t:Tree)
 |br(x:X)(t e:Tree)
 |amb(x:X)(neg:Bool)(t e:Tree)
 |leaf(xs:List X)
 |back(id:Nat)(xs:List X)
 |loop(id n:Nat)(init:List X)(body:Tree)
def evl(S:Nat→List D→Option (List D))(l:List D):Ev:=⟨fun k=>l.getD k .u,S⟩
def q0s(e:Ev):List X→Prop
 |[]=>True
 |x::l=>x.says e∧q0s e l
def jv(B:Nat→List D→Prop)(id:Nat)(I:List D→Prop):Nat→List D→Prop:=fun j=>if j=id then I else B j
def Tree.go(S:Nat→List D→Option (List D))(R:List D→Prop):Tree→List D→(Nat→List D→Prop)→Prop
 |.bad _,_,_=>False
 |.need ns t,l,B=>q0s (evl S l) ns∧t.go S R l B
 |.br x t e,l,B=>((x.ev (evl S l)).tt=true→t.go S R l B)∧((x.ev (evl S l)).tt=false→e.go S R l B)
 |.amb x neg t e,l,B=>((neg=false→(x.ev (evl S l)).rs=[])→t.go S R l B)∧((neg=true→(x.ev (evl S l)).rs=[])→e.go S R l B)
 |.leaf xs,l,B=>R (X.evs (evl S l) xs)
 |.back id xs,l,B=>B id (X.evs (evl S l) xs)
 | .loop id n init body, l, B => ∃ (I : List D → Prop) (μ : List D → Nat), I (X.evs (evl S l) init) ∧
   ∀st,st.length=init.length→I st→body.go S R (l.take n++st) (jv B id fun st'=>I st'∧μ st'<μ st)
abbrev Item:=Nat×Ty×List (Nat×Nat)×List Nat
structure Head where
 ts:List (Nat×Ty×Bool)
 ms:List Nat
 kill:List Nat
 dep:List Nat
structure Ann where
 pub:List Nat
 heads:List (Nat×Head)
def prune(l:List Nat)(σ:St):St:=⟨σ.t.filter fun e=>zs l e.1,σ.m⟩
theorem zda{q:Nat→Bool}{l:List (Nat×α)}{k:Nat}{e:α}(h:lkA (l.filter fun y=>q y.1) k=some e):lkA l k=some e:=by
 induction l with
 |nil=>cases h
 | cons a l ih =>
  obtain⟨j,x⟩:=a;by_cases hjk:j=k
  ·subst hjk;rw[kK] at h;split at h
   ·rw[qa] at h⊢;exact h
   ·rename_i hq;exfalso;have:=List.mem_filter.1 (qx h);exact hq this.2
  ·rw[qd hjk];rw[kK] at h;split at h
   ·rw[qd hjk] at h;exact ih h
   ·exact ih h
theorem zfy{c:Cx}{l:List Nat}{σ:St}{w:World}{a:Act}(h:SF c σ p w a):SF c (prune l σ) p w a:=⟨fun t x hx=>h.t t x (zda (q:=zs l) hx),h.m⟩
def sel{α:Type}(q:Nat→α→Bool):List (Nat×α)→List (Nat×α)
  |[]=>[]
  |(k,e)::l=>if q k e then(k,e)::sel q l else(sel q l).filter fun y=>y.1 !=k
theorem z28{q:Nat→α→Bool}{l:List (Nat×α)}{k:Nat}{e:α}(h:lkA (sel q l) k=some e):lkA l k=some e∧q k e=true:=by
 induction l with
 |nil=>cases h
 | cons a l ih =>
  obtain⟨j,x⟩:=a;unfold sel at h;by_cases hjk:j=k
  ·subst hjk;split at h
   ·rename_i hq;rw[qa] at h;injection h with h;subst h;exact⟨qa,hq⟩
   ·rw[zb] at h;cases h
  ·rw[qd hjk];split at h
   ·rw[qd hjk] at h;exact ih h
   ·rw[q35 hjk] at h;exact ih h
def z1r(a b:List (Nat×Nat)):Bool:=a.all fun e=>match lkA b e.1 with
 |some x=>uJ x e.2
 |none=>false
def qlv(a b:List (Nat×Nat)):Bool:=q5u a&&(q5u b&&(z1r a b&&z1r b a))
def SNK:Nat:=4000000000
def snB(ty:Ty)(dep:List Nat):Bool:=(qbm ty||qpx ty)&&zs dep SNK
def itT(σ:St):Item→Option X
  | (t, ty, own, dep) => match lkA σ.t t with
    |some (.v x ty' own' dep')=>if !snB ty dep&&(Ty.beq ty' ty&&(qlv own' own&&dep'.all (zs dep))) then some x else none
    |some (.sn q (.v x ty' own' dep'))=>if(!snB ty dep||uJ q t)&&(Ty.beq ty' ty&&(qlv own' own&&dep'.all (zs dep))) then some x else none
    | some .nilS => (match ty with
      |.row E=>if(qm E).isSome&& !zs dep SNK then some (.lit (.r [])) else none
      |_=>none)
    |_=>none
def itM(σ:St):Item→Option X
  | (k, ty, own, dep) => match lkA σ.m k with
    |some e=>if Ty.beq e.t ty&&(qlv e.own own&&e.dep.all (zs dep)) then some e.x else none
    |none=>none
def its(f:Item→Option X):List Item→Option (List X)
 |[]=>some []
 |i::l=>match f i,its f l with
  |some x,some xs=>some (x::xs)
  |_,_=>none
def pairUp(own:List (Nat×Nat)):List (Nat×Nat)→List (Nat×Nat)
  |[]=>[]
  | (i, q) :: l => match lkA own i with
    |some x=>(x,q)::pairUp own l
    |none=>pairUp own l
def zwi(σ:St)(t:Nat):List (Nat×Nat):=match lkA σ.t t with
 |some (.v _ _ own _)=>own
 |some (.sn _ (.v _ _ own _))=>own
 |_=>[]
def zx2(σ:St)(k:Nat):List (Nat×Nat):=match lkA σ.m k with
 |some e=>e.own
 |none=>[]
def zf8(f:Nat→List (Nat×Nat)):List Item→List (Nat×Nat)
  |[]=>[]
  |(k,_,own,_)::l=>pairUp (f k) own++zf8 f l
def qou(σ:St)(ts ms:List Item):List (Nat×Nat):=zf8 (zwi σ) ts++zf8 (zx2 σ) ms
def conv(ts ms:List Item)(σ:St):Option (St×List X×List X):=if reB (qou σ ts ms) then match its (itT (σ.ren (qou σ ts ms))) ts,its (itM (σ.ren (qou σ ts ms))) ms with
  |some a,some b=>some (σ.ren (qou σ ts ms),a,b)
  |_,_=>none
 else none
def tgt(k:Nat)(ty:Ty)(own:List (Nat×Nat)):List (Nat×Nat):=(qp k ty).filter fun e=>(lkA own e.1).isSome
def zwg(σ:St):List (Nat×Ty×Bool)→List Item
  |[]=>[]
  | (t, ty, rd) :: l => (t, ty, (match lkA σ.t t with
    |some (.v _ _ own _)=>tgt t ty own
    |some (.sn _ (.v _ _ own _))=>tgt t ty own
    |some .nilS=>if rd then[] else qp t ty
    |_=>[]),[])::zwg σ l
def zrm(σ:St):List Nat→List Item
 |[]=>[]
 |k::l=>match lkA σ.m k with
  |some e=>(k,e.t,tgt k e.t e.own,[])::zrm σ l
  |none=>zrm σ l
def z2x(f:Nat→List Nat)(x:List Nat):List Item→List Item
  |[]=>[]
  |(k,ty,own,_)::l=>(k,ty,own,f k++x)::z2x f x l
def zqz(σ:St)(t:Nat):List Nat:=match lkA σ.t t with
 |some (.v _ _ _ dep)=>dep
 |some (.sn _ (.v _ _ _ dep))=>SNK::dep
 |_=>[]
def zs5(σ:St)(k:Nat):List Nat:=match lkA σ.m k with
 |some e=>e.dep
 |none=>[]
def heads(h:Head)(σ:St):List Item×List Item:=
 let ts:=zwg σ h.ts
 let ms:=zrm σ h.ms
 let σ1:=σ.ren (qou σ ts ms)
 (z2x (zqz σ1) h.dep ts,z2x (zs5 σ1) h.dep ms)
def keys(l:List Item):List Nat:=l.map (·.1)
def isAny:AV→Bool
 |.any=>true
 |_=>false
def q28(ts ms:List Item)(kill:List Nat)(n:Nat)(σ:St):St:=
 ⟨sel (fun t a=> !isAny a&&(!zs (keys ts) t&&(!zs kill t&&a.upto n))) σ.t,sel (fun k e=> !zs (keys ms) k&&X.upto n e.x) σ.m⟩
def zh2:List Item→Nat→List (Nat×AV)→List (Nat×AV)
  |[],_,r=>r
  |(t,ty,own,dep)::l,n,r=>(t,if snB ty dep then .sn t (.v (.tok n) ty own dep) else .v (.tok n) ty own dep)::zh2 l (n+1) r
def zen:List Item→Nat→List (Nat×Ent)→List (Nat×Ent)
  |[],_,r=>r
  |(k,ty,own,dep)::l,n,r=>(k,⟨.tok n,ty,own,dep⟩)::zen l (n+1) r
def q33(ts ms:List Item)(n:Nat)(σ:St):St:=⟨zh2 ts n σ.t,zen ms (n+ts.length) σ.m⟩
inductive ResD where
 |normal
 |ret
 |exit(id:Nat)
def ResD.exit':ResD→Exit
 |.normal=>.normal
 |.ret=>.ret
 |.exit id=>.exit id
def q3y:Code→Nat
 |.region id _ _=>id+1
 |.seq x y=>(match q3y x with
  |0=>q3y y
  |n+1=>n+1)
 |.cond _ x y=>(match q3y x with
  |0=>q3y y
  |n+1=>n+1)
 |.block _ c=>q3y c
 |.loop c=>q3y c
 |.scope c=>q3y c
 |_=>0
def z5y(N:List X)(t:Tree):Tree:=match N with
 |[]=>t
 |_=>.need N t
mutual
/-- The slices that a value owns. -/
def z4g:AV→List Nat
 |.v _ _ own _=>own.map (·.2)
 |.rd _ _ _ wr=>(match wr with
  |some (pin,_)=>[pin]
  |none=>[])
 |.tup l=>zi4 l
 |.gd _ a=>z4g a
 |.fn _ l=>zi4 l
 |.bx _ _ a=>z4g a
 |.ax _ _ _ a=>z4g a
 |.fr _ a=>z4g a
 |.sn _ a=>z4g a
 |.pt pin _ _ a=>pin::z4g a
 |_=>[]
def zi4:List AV→List Nat
 |[]=>[]
 |a::l=>z4g a++zi4 l
end
def z98(kill:List Nat):List (Nat×AV)→List Nat
  |[]=>[]
  |(t,a)::l=>if zs kill t then z98 kill l else z4g a++z98 kill l
def z7s(kill:List Nat):List (Nat×Ent)→List Nat
  |[]=>[]
  |(k,e)::l=>if zs kill k then z7s kill l else e.own.map (·.2)++z7s kill l
def qh1(kill:List Nat)(σ:St):Nat→Bool:=fun y=> !Nat.beq (y % 16) 0&& !zs (z98 kill σ.t++z7s kill σ.m) y
def St.drop(kill:List Nat)(σ:St):St:=σ.un (qh1 kill σ)
def zjy(l:List Nat):D:=.r (l.map fun y=>.i (Int.ofNat y))
def zpp(own:List (Nat×Nat))(dep:List Nat):X:=.lit (.a [zjy (own.map (·.1)),zjy (own.map (·.2)),zjy dep])
def zai(σ:St)(ts ms:List Item):List X:=(ts.map fun e=>match lkA σ.t e.1 with
 |some (.v _ _ own dep)=>zpp own dep
 |some .nilS=>.lit (.s ⟨#[]⟩)
 |some _=>.lit (.b false)
 |none=>.lit .u)++(ms.map fun e=>match lkA σ.m e.1 with
 |some e=>zpp e.own e.dep
 |none=>.lit .u)
def qlx:AV→AV
 |.v x ty own dep=>.v x ty [] (own.map (·.2)++dep)
 |a=>a
def qr5(e:Ent):Ent:=⟨e.x,e.t,[],e.own.map (·.2)++e.dep⟩
def z0h(ts:List Item)(k:Nat):Bool:=ts.any fun i=>uJ i.1 k&&i.2.2.1.isEmpty
def qlg(ts ms:List Item)(σ:St):St:=⟨σ.t.map fun e=>(e.1,if z0h ts e.1 then qlx e.2 else e.2),σ.m.map fun e=>(e.1,if z0h ms e.1 then qr5 e.2 else e.2)⟩
def rdB(ts:List (Nat×Ty×Bool))(k:Nat):Bool:=ts.any fun i=>uJ i.1 k&&i.2.2
def q4s(h:Head)(σ:St):St:=⟨σ.t.map fun e=>(e.1,if rdB h.ts e.1 then qlx e.2 else e.2),σ.m.map fun e=>(e.1,if zs h.kill (1000000+e.1) then qr5 e.2 else e.2)⟩
def zho(id:Nat)(it:List Item×List Item)(kill:List Nat)(n:Nat)(σ:St)(body:Nat→St→(Nat→ResD→St→Tree)→Tree)(k:Nat→ResD→St→Tree):Tree:=match conv it.1 it.2 σ with
 | some (σ1, va, vb) => .loop (id - 1) n (va ++ vb) (body (n + (va ++ vb).length) (q33 it.1 it.2 n (q28 it.1 it.2 kill n σ1)) fun n' r σ' => match r with
  |.normal=>(match conv it.1 it.2 ((qlg it.1 it.2 σ').drop kill) with
   |some (σ2,va',vb')=>if covers σ2 (q28 it.1 it.2 kill n σ1) then .back (id - 1) (va'++vb') else .bad (3000000+id)
   |none=>.need (zai σ' it.1 it.2++((.lit (.b true))::zai (σ'.ren (qou σ' it.1 it.2)) it.1 it.2)) (.bad (4000000+id)))
  |.ret=>k n' .ret σ'
  |.exit i=>k n' (.exit i) σ')
 |none=>.need (zai σ it.1 it.2) (.bad (5000000+id))
def z75(P:Program)(tbl:Tbl)(ds:List (Option Tmp)):Nat→St→List Oper→Nat
 |_,_,[]=>900
 |i,σ,o::l=>match stepG P tbl ds σ o with
  |some (_,σ')=>z75 P tbl ds (i+1) σ' l
  |none=>i
def zey(P:Program)(T:TypeId):Bool:=match P.built T [],P.underlying T with
 |some c,some (.struct _)=>uJ c.size 0
 |_,_=>false
def zo0(P:Program)(z:Nat):List Oper→Option TypeId
 |[o1,o2,o3]=>(match o1.op,o2.op,o3.op,o1.dst,o2.dst with
  |.build T ps,.makeInterface T' (.tmp a'),.panic (.tmp b'),some a,some b=>if uJ T T'&&(uJ a a'&&(uJ b b'&&(uJ ps.size 0&&(kJ a z&&(kJ b z&&(zey P T&&(o1.guard.isNone&&(o2.guard.isNone&&o3.guard.isNone)))))))) then some T else none
  |_,_,_,_,_=>none)
 |_=>none
def zuj(o:Option TypeId)(T:TypeId):Bool:=match o with
 |some T1=>uJ T1 T
 |none=>false
def z2n(body:Nat→St→(Nat→ResD→St→Tree)→Tree)(k:Nat→ResD→St→Tree):Nat→Nat→St→Tree
 |0,_,_=>.bad 6000000
 |f+1,n,σ=>body n σ fun n' r σ'=>match r with
  |.normal=>z2n body k f n' σ'
  |.ret=>k n' .ret σ'
  |.exit i=>k n' (.exit i) σ'
def toT(P:Program)(tbl:Tbl)(ann:Ann)(lo z:Nat):Code→List Nat→Nat→St→(Nat→ResD→St→Tree)→Tree
 |.skip,_,n,σ,k=>k n .normal σ
 | .region id ops d, _, n, σ, k => (match zqs P tbl lo z σ ops.toList d with
  |some (N,σ')=>z5y N (k n .normal (prune ann.pub σ'))
  |none=>(match zo0 P z ops.toList with
   |some T=>if tbl.any (fun e=>zuj e.1.pn T)&& !d then .leaf [.lit .u] else .bad (id * 1000+z75 P tbl (dsts ops.toList) 0 σ ops.toList)
   |none=>.bad (id * 1000+z75 P tbl (dsts ops.toList) 0 σ ops.toList)))
 |.seq x y,ids,n,σ,k=>toT P tbl ann lo z x ids n σ fun n' r σ'=>match r with
  |.normal=>toT P tbl ann lo z y ids n' σ' k
  |.ret=>k n' .ret σ'
  |.exit i=>k n' (.exit i) σ'
 |.cond c x y,ids,n,σ,k=>(match opd σ [] c with
  |some (.v (.lit (.b true)) .bool _ _)=>toT P tbl ann lo z x ids n σ k
  |some (.v (.lit (.b false)) .bool _ _)=>toT P tbl ann lo z y ids n σ k
  |some (.v b .bool _ _)=>.br b (toT P tbl ann lo z x ids n σ k) (toT P tbl ann lo z y ids n σ k)
  |some (.nb b neg)=>.amb b neg (toT P tbl ann lo z x ids n σ k) (toT P tbl ann lo z y ids n σ k)
  |_=>.bad (1000000+q3y x))
 |.block id c,ids,n,σ,k=>toT P tbl ann lo z c ids n σ fun n' r σ'=>match r with
  |.exit i=>if uJ i id then k n' .normal σ' else k n' (.exit i) σ'
  |.ret=>k n' .ret σ'
  |.normal=>k n' .normal σ'
 |.exit id,_,n,σ,k=>k n (.exit id) σ
 |.ret,_,n,σ,k=>k n .ret σ
 |.loop c,ids,n,σ,k=>(match lkA ann.heads (q3y c - 1) with
  |some h=>if zs ids (q3y c - 1) then .bad (2000000+q3y c) else zho (q3y c) (heads h ((q4s h σ).drop h.kill)) h.kill n ((q4s h σ).drop h.kill) (fun n' σ0=>toT P tbl ann lo z c ((q3y c - 1)::ids) n' σ0) k
  |none=>z2n (fun n' σ0=>toT P tbl ann lo z c ids n' σ0) k 128 n σ)
 |.label _,_,n,σ,k=>k n .normal σ
 |.scope c,ids,n,σ,k=>toT P tbl ann lo z c ids n σ k
 |_,_,_,_,_=>.bad 7000000
section
variable{c:Cx}{p:qj}{w w0:World}{S0:Nat→Prop}{a:Act}{σ σ':St}{d:List Deferred}{z:Nat}{tbl:Tbl}
theorem qv8:∀(x:AV){v:Value},x.pd c p w v→(qlx x).pd c p w v:=fun x v h=>by
 cases x with
 |v x ty own dep=>
  obtain⟨cs,hp,hc⟩:=h;exact⟨cs,hp,Con.of_rd (hc.rd (fun _ h=>uP _ h) (fun _ h=>uR _ h))⟩
 |_=>exact h
theorem qtb(f:α→α)(q:Nat→Bool){t:Nat}:∀(l:List (Nat×α)){x:α},lkA (l.map fun e=>(e.1,if q e.1 then f e.2 else e.2)) t=some x→∃y,lkA l t=some y∧(x=y∨x=f y)
 |[],x,h=>by cases h
 | e :: l, x, h => by
  simp only[List.map_cons,lkA] at h⊢;split at h
  ·rename_i hk;injection h with h;subst h;refine⟨e.2,if_pos hk,?_⟩;split
   ·exact .inr rfl
   ·exact .inl rfl
  ·rename_i hk;rw[if_neg hk];exact qtb f q l h
theorem z8t(ts ms:List Item)(hf:SF c σ p w a):SF c (qlg ts ms σ) p w a:=by
 refine⟨fun t x hx=>?_,fun k e he=>?_⟩
 ·obtain⟨y,hy,h⟩:=qtb qlx (z0h ts) σ.t hx;obtain⟨u,h1,h2⟩:=hf.t t y hy;refine⟨u,h1,?_⟩;rcases h with rfl|rfl
  ·exact h2
  ·exact qv8 y h2
 ·obtain⟨y,hy,h⟩:=qtb qr5 (z0h ms) σ.m he;obtain⟨g,cs,T,h1,h2,hty,h3⟩:=hf.m k y hy;rcases h with rfl|rfl
  ·exact⟨g,cs,T,h1,h2,hty,h3⟩
  ·exact⟨g,cs,T,h1,h2,hty,Con.of_rd (h3.rd (fun _ h=>uP _ h) (fun _ h=>uR _ h))⟩
theorem z7t(h:Head)(hf:SF c σ p w a):SF c (q4s h σ) p w a:=by
 refine⟨fun t x hx=>?_,fun k e he=>?_⟩
 ·obtain⟨y,hy,h⟩:=qtb qlx (rdB h.ts) σ.t hx;obtain⟨u,h1,h2⟩:=hf.t t y hy;refine⟨u,h1,?_⟩;rcases h with rfl|rfl
  ·exact h2
  ·exact qv8 y h2
 ·obtain⟨y,hy,h⟩:=qtb qr5 (fun k=>zs h.kill (1000000+k)) σ.m he;obtain⟨g,cs,T,h1,h2,hty,h3⟩:=hf.m k y hy;rcases h with rfl|rfl
  ·exact⟨g,cs,T,h1,h2,hty,h3⟩
  ·exact⟨g,cs,T,h1,h2,hty,Con.of_rd (h3.rd (fun _ h=>uP _ h) (fun _ h=>uR _ h))⟩
theorem qyc:∀{ns:List X},q0s e ns→∀n∈ns,n.says e
 |[],_,n,hn=>by cases hn
 |x::l,h,n,hn=>by
  rcases uL.1 hn with rfl|hn
  ·exact h.1
  ·exact qyc h.2 n hn
theorem qtg{N:List X}{t:Tree}{l:List D}(h:(z5y N t).go S R l B):(∀n∈N,n.says (evl S l))∧t.go S R l B:=by
 unfold z5y at h;split at h
 ·exact⟨(fun n hn=>by cases hn),h⟩
 ·exact⟨qyc h.1,h.2⟩
def ItT(sn:Nat→Value)(A:Nat→Prop)(p:qj)(w:World)(a:Act):List Item→List D→Prop
  |[],ds=>ds=[]
  |(t,ty,own,dep)::l,ds=>∃x r,ds=x::r∧(∃v cs,a.tmps[t]? =some v∧jj ty cs v∧Con A p w x ty own dep cs∧(snB ty dep=true→v=sn t))∧ItT sn A p w a l r
def ItM(A:Nat→Prop)(p:qj)(w:World):List Item→List D→Prop
  |[],ds=>ds=[]
  |(k,ty,own,dep)::l,ds=>∃x r,ds=x::r∧(∃g cs T,p (k * 16)=some g∧w.heap[g]? =some (.cells cs T (0,0))∧qm T=some ty∧Con A p w x ty own dep cs.toList)∧ItM A p w l r
theorem qjd{a b:List (Nat×Nat)}(h:qlv a b=true)(j:Nat):lkA a j=lkA b j:=by
 simp only[qlv,gnB] at h;have sub:∀{a b:List (Nat×Nat)},z1r a b=true→∀{x},lkA a j=some x→lkA b j=some x:=fun{a b}h{x}hx=>by
  have:=uI.1 h _ (qx hx);split at this
  ·rename_i y hy;have hy':lkA b j=some y:=hy;rw[hy',gnN this]
  ·cases this
 cases ha:lkA a j with
 |some x=>exact(sub h.2.2.1 ha).symm
 |none=>
  cases hb:lkA b j with
  |none=>rfl
  |some x=>rw[sub h.2.2.2 hb] at ha;cases ha
theorem Con.same{own own':List (Nat×Nat)}(ho:∀j,lkA own j=lkA own' j){x:D}{t:Ty}(h:Con A p w x t own dep cs):Con A p w x t own' dep cs:=by
 have hF:∀{ds:List D}{j:Nat}{fs:List Ty}{cs:List Value},Fls A p w dep own j ds fs cs→Fls A p w dep own' j ds fs cs:=by
  intro ds
  induction ds with
  |nil=>intro j fs cs h;exact h
  |cons d ds ih=>
   rintro j fs cs⟨t,ts,c1,c2,e1,e2,h1,h2⟩;exact⟨t,ts,c1,c2,e1,e2,by rw[←ho];exact h1,ih h2⟩
 unfold Con at h⊢;split
 ·obtain⟨fs,ds,hf,e,h⟩:=h;exact⟨fs,ds,hf,e,hF h⟩
 ·rename_i hne;split at h
  ·rename_i T;exact absurd rfl (hne T)
  ·rw[←ho];exact h
theorem z5v(hf:SF c σ p w a):∀{l:List Item}{xs:List X},its (itT σ) l=some xs→ItT c.snap c.A p w a l (X.evs c.v xs)
  | [], xs, h => by
    simp only[its,uF] at h;subst h;rfl
  | (t, ty, own, dep) :: l, xs, h => by
    unfold its at h;split at h
    · rename_i x xs' hx hxs;injection h with h;subst h;refine⟨_,_,rfl,?_,z5v hf hxs⟩;unfold itT at hx;simp only at hx;split at hx
      · rename_i x' ty' own' dep' hl;split at hx
        · rename_i hok;simp only[gnB] at hok;injection hx with hx;subst hx;obtain⟨v,hv,cs,hp,hc⟩:=hf.t t _ hl;obtain⟨h0,h1,h2,h3⟩:=hok;rw[Ty.beq_iff] at h1;subst h1;exact⟨v,cs,hv,hp,(hc.same (qjd h2)).mono fun y hy=>yo.1 (uI.1 h3 y hy),fun hs=>by rw[hs] at h0;cases h0⟩
        · cases hx
      · rename_i q x' ty' own' dep' hl;split at hx
        · rename_i hok;simp only[gnB] at hok;injection hx with hx;subst hx;obtain⟨v,hv,he,cs,hp,hc⟩:=hf.t t _ hl;obtain⟨hq,h1,h2,h3⟩:=hok;rw[Ty.beq_iff] at h1;subst h1;refine⟨v,cs,hv,hp,(hc.same (qjd h2)).mono fun y hy=>yo.1 (uI.1 h3 y hy),fun hs=>?_⟩;rcases Bool.or_eq_true_iff.1 hq with hq|hq
          · rw[hs] at hq;cases hq
          · rw[←gnN hq];exact he
        · cases hx
      · rename_i hl;split at hx
        · rename_i E;split at hx
          · rename_i hE;injection hx with hx;subst hx;rw[gnB] at hE;obtain⟨hE,hsk⟩:=hE;obtain⟨te,hte⟩:=uX.1 hE;obtain⟨v,hv,rfl⟩:=hf.t t _ hl;refine⟨_,[.slice none 0 0],hv,qtc rfl,?_,fun hs=>by
              simp only[snB,gnB] at hs;rw[hs.2] at hsk;cases hsk⟩
            show Fl c.A p w dep (lkA own 0) (.r []) (.row E) _
            cases lkA own 0 with
            |none=>exact⟨E,te,none,0,rfl,hte,rfl,by simp,by simp,by simp[maxLen],by simp[RdE]⟩
            |some pin=>exact .inl ⟨E,te,[],_,rfl,hte,rfl,rfl,.inl ⟨rfl,rfl⟩⟩
          · cases hx
        · cases hx
      · cases hx
    · cases h
theorem z6m(hf:SF c σ p w a):∀{l:List Item}{xs:List X},its (itM σ) l=some xs→ItM c.A p w l (X.evs c.v xs)
  | [], xs, h => by
    simp only[its,uF] at h;subst h;rfl
  | (k, ty, own, dep) :: l, xs, h => by
    unfold its at h;split at h
    · rename_i x xs' hx hxs;injection h with h;subst h;refine⟨_,_,rfl,?_,z6m hf hxs⟩;unfold itM at hx;simp only at hx;split at hx
      · rename_i e he;split at hx
        · rename_i hok;simp only[gnB] at hok;injection hx with hx;subst hx;obtain⟨g,cs,T,hg,hh,hty,hc⟩:=hf.m k _ he;obtain⟨h1,h2,h3⟩:=hok;rw[Ty.beq_iff] at h1;rw[h1] at hc;exact⟨g,cs,T,hg,hh,h1▸hty,(hc.same (qjd h2)).mono fun y hy=>yo.1 (uI.1 h3 y hy)⟩
        · cases hx
      · cases hx
    · cases h
theorem qkf{f:Item→Option X}:∀{l:List Item}{xs:List X},its f l=some xs→xs.length=l.length
 |[],xs,h=>by
  simp only[its,uF] at h;subst h;rfl
 | i :: l, xs, h => by
  unfold its at h;split at h
  ·rename_i x xs' hx hxs;injection h with h;subst h;simp[qkf hxs]
  ·cases h
theorem qdm(l m:List X):X.evs e (l++m)=X.evs e l++X.evs e m:=by
 induction l with
 |nil=>rfl
 |cons x l ih=>simp[X.evs,ih]
theorem zbz{r:List (Nat×AV)}(hr:∀t x,lkA r t=some x→∃v,a.tmps[t]? =some v∧x.pd c p w v):∀{l:List Item}{n:Nat}{ds:List D},ItT c.snap c.A p w a l ds→(∀i,i<ds.length→c.v.E (n+i)=ds.getD i .u)→
    ∀t x,lkA (zh2 l n r) t=some x→∃v,a.tmps[t]? =some v∧x.pd c p w v
  |[],n,ds,_,_,t,x,h=>hr t x h
  | (s, ty, own, dep) :: l, n, ds, h, hE, t, x, hx => by
    obtain⟨y,ys,rfl,⟨v,cs,hv,hp,hc,hsn⟩,hl⟩:=h;by_cases hst:s=t
    · subst hst;simp only[zh2] at hx;rw[qa] at hx;injection hx with hx;subst hx;have:=hE 0 (by simp);simp only[kU,kG] at this;have hcon:Con c.A p w (c.v.E n) ty own dep cs:=by
        rw[this];exact hc
      refine⟨v,hv,?_⟩;split
      · rename_i hs;exact⟨hsn hs,cs,hp,hcon⟩
      · exact⟨cs,hp,hcon⟩
    · simp only[zh2] at hx;rw[qd hst] at hx;refine zbz hr hl (n:=n+1) (fun i hi=>?_) t x hx;have:=hE (i+1) (by simp;omega);rw[show n+1+i=n+(i+1) by omega,this];simp
theorem z9y{r:List (Nat×Ent)}(hr:∀k e,lkA r k=some e→q1v c p w k e):∀{l:List Item}{n:Nat}{ds:List D},ItM c.A p w l ds→(∀i,i<ds.length→c.v.E (n+i)=ds.getD i .u)→
    ∀k e,lkA (zen l n r) k=some e→q1v c p w k e
  |[],n,ds,_,_,t,x,h=>hr t x h
  | (s, ty, own, dep) :: l, n, ds, h, hE, t, x, hx => by
    obtain⟨y,ys,rfl,⟨g,cs,T,hg,hh,hty,hc⟩,hl⟩:=h;by_cases hst:s=t
    · subst hst;simp only[zen] at hx;rw[qa] at hx;injection hx with hx;subst hx;refine⟨g,cs,T,hg,hh,hty,?_⟩;have:=hE 0 (by simp);simp only[kU,kG] at this
      show Con c.A p w (c.v.E n) ty own dep cs.toList
      rw[this];exact hc
    · simp only[zen] at hx;rw[qd hst] at hx;refine z9y hr hl (n:=n+1) (fun i hi=>?_) t x hx;have:=hE (i+1) (by simp;omega);rw[show n+1+i=n+(i+1) by omega,this];simp
theorem z10{sn:Nat→Value}:∀{l:List Item}{ds:List D},ItT sn A p w a l ds→ds.length=l.length
  |[],ds,h=>by cases h;rfl
  |(_,_,_,_)::l,ds,⟨x,r,e,_,h⟩=>by subst e;simp[z10 h]
theorem zbc:∀{l:List Item}{ds:List D},ItM A p w l ds→ds.length=l.length
  |[],ds,h=>by cases h;rfl
  |(_,_,_,_)::l,ds,⟨x,r,e,_,h⟩=>by subst e;simp[zbc h]
theorem qro{c':Cx}(hS:c.v.S=c'.v.S)(hA:c.A=c'.A)(hT:c.At=c'.At∧c.snap=c'.snap∧c.F=c'.F){ts ms:List Item}{n:Nat}{σ1:St}{da db:List D}(hE:∀k,k<n→c.v.E k=c'.v.E k)(hE':∀i,i<(da++db).length→c'.v.E (n+i)=(da++db).getD i .u)
  (hf:SF c (q28 ts ms kill n σ1) p w a)(ht:ItT c.snap c.A p w a ts da)(hm:ItM c.A p w ms db):SF c' (q33 ts ms n (q28 ts ms kill n σ1)) p w a:=by
 have hla:=z10 ht;rw[hA,hT.2.1] at ht;rw[hA] at hm;refine⟨zbz (fun t x hx=>?_) ht (fun i hi=>?_),z9y (fun k e he=>?_) hm (fun i hi=>?_)⟩
 ·obtain⟨v,h1,h2⟩:=hf.t t x hx;have hq:=(z28 hx).2;simp only[gnB] at hq;exact⟨v,h1,AV.pd_upto hE hS hA hT x v hq.2.2.2 h2⟩
 ·rw[hE' i (by simp;omega)];simp[gnG,uG hi]
 ·have hq:=(z28 he).2;simp only[gnB] at hq;exact q1v.upto hE hS hA hT hq.2 (hf.m k e he)
 ·rw[show n+ts.length+i=n+(ts.length+i) by omega,hE' (ts.length+i) (by simp;omega)];rw[←hla];simp[gnG,uZ]
theorem ql4{ts ms:List Item}{n:Nat}(hf:SF c σ p w a):SF c (q28 ts ms kill n σ) p w a:=⟨fun t x hx=>hf.t t x (z28 hx).1,fun k e he=>hf.m k e (z28 he).1⟩
def Cx.at(c:Cx)(S:Nat→List D→Option (List D))(l:List D):Cx:=⟨evl S l,c.A,c.F,c.lo,c.At,c.new,c.snap⟩
theorem getD_take{l:List D}{n k:Nat}(h:k<n)(m:List D)(hn:n≤l.length):(l.take n++m).getD k .u=l.getD k .u:=by
 simp only[gnG];rw[uG (by simp;omega),kB h]
theorem zsk(ro:Option Nat)(nn:Nat){id:Nat}{ops:Array Oper}{T:TypeId}(hT:zo0 uA z ops.toList=some T)(hq:∀a',a'.defers=d→Q (.panic (qao T)) a' w)(hd:a.defers=d)(hz:a.tmps.size=z):
  (Code.region id ops false).wpIn (FR ro) nn uA Q a w:=by
 obtain⟨l⟩:=ops;have hT:zo0 uA z l=some T:=hT;unfold zo0 at hT;split at hT
 ·rename_i o1 o2 o3 _;split at hT
  ·rename_i T1 ps T2 a' b' a1 b1 e1 e2 e3 d1 d2;split at hT
   ·rename_i hok;injection hT with hT;subst hT;simp only[gnB] at hok;obtain⟨k1,k2,k3,k4,k5,k6,k7,k8,k9,k10⟩:=hok;obtain rfl:=gnN k1;obtain rfl:=gnN k2;obtain rfl:=gnN k3;have k4:ps= #[]:=uU (gnN k4);subst k4;rw[kW] at k5 k6;obtain⟨hbt,fs,hu⟩:uA.built T1 []=some #[]∧∃fs,uA.underlying T1=some (.struct fs):=by
     unfold zey at k7;split at k7
     ·rename_i c fs hc hu;exact⟨by rw[hc,uU (gnN k7)],fs,hu⟩
     ·cases k7
    refine wpIn_region ?_;have:wpOpsIn (FR ro) nn uA [o1,o2,o3].toArray Q (kD 0 3)=wpListIn (FR ro) nn uA [o1,o2,o3].toArray Q [o1,o2,o3]:=wpOpsIn_eq_wpListIn [o1,o2,o3] 0 (fun j=>by simp);rw[show uN (Array.mk [o1,o2,o3]).size=kD 0 3 by simp[List.range_eq_range']]
    show wpOpsIn (FR ro) nn uA [o1,o2,o3].toArray Q (kD 0 3) a w
    rw[this];have hw:∀{o:Oper}{y:Nat→Option Bool},o.guard.isNone=true→Region.wanted o y=true:=fun{o}{y}h=>by
     unfold Region.wanted;cases hg:o.guard with
     |none=>rfl
     |some g=>rw[hg] at h;cases h
    simp only[wpListIn,hw k8,hw k9,hw k10,if_true];refine Oper.wp_round ro (by rw[e1];simp) ?_;unfold Oper.wp;have r1:(execOp a.eval o1).run uA w=.ok (.value (.agg #[])) w:=by
     have:=run_build (P:=uA) w T1 #[] #[] hbt;simp[execOp,e1,this]
    rw[r1]
    show Oper.wpIn _ _ _ _ (a.put o1.dst _) w _ _
    refine Oper.wp_round ro (by rw[e2];simp) ?_;unfold Oper.wp;have v1:(a.put o1.dst (.agg #[])).eval (.tmp a1)=.agg #[]:=by
     rw[d1];simp[Act.put,Act.eval,hz,k5]
    have r2:(execOp (a.put o1.dst (.agg #[])).eval o2).run uA w=.ok (.value (.iface T1 (.agg #[]))) w:=by
     rw[show(a.put o1.dst (.agg #[])).eval=fun y=>(a.put o1.dst (.agg #[])).eval y from rfl];simp[execOp,e2,v1,Instr.makeInterface,run_underlying hu]
    rw[r2]
    show Oper.wpIn _ _ _ _ ((a.put o1.dst _).put o2.dst _) w _ _
    refine Oper.wp_round ro (by rw[e3];simp) ?_;unfold Oper.wp;have v2:((a.put o1.dst (.agg #[])).put o2.dst (.iface T1 (.agg #[]))).eval (.tmp b1)=.iface T1 (.agg #[]):=by
     rw[d1,d2];simp[Act.put,Act.eval,hz,k6]
    have r3:(execOp ((a.put o1.dst (.agg #[])).put o2.dst (.iface T1 (.agg #[]))).eval o3).run uA w=.halt (.panic (.iface T1 (.agg #[]))) w:=by
     simp[execOp,e3,v2,Instr.panic]
    rw[r3];exact hq _ (by rw[d1,d2];exact hd)
   ·cases hT
  ·cases hT
 ·cases hT
set_option maxHeartbeats 1000000 in
theorem qod(ro:Option Nat)(nn:Nat)(htb:q0v tbl)(hfm:∀te,c.F.mx te≤flM tbl te){ann:Ann}:∀(cd:Code){ids:List Nat}{n:Nat}{σ:St}{k:Nat→ResD→St→Tree}{l:List D}{B:Nat→List D→Prop}{p:qj}{w:World}{a:Act}{Q:Exit→Act→World→Prop},
  (toT uA tbl ann c.lo z cd ids n σ k).go (qf tbl) R l B→l.length=n→Bs c.A c.F w0 S0 p w→SF (c.at (qf tbl) l) σ p w a→a.defers=d→a.tmps.size=z→qjq tbl w0 S0 d Q→zvy tbl R w0 S0 d Q→
  (∀n' r σ' l' B' p' w' a',l'.length=n'→l'.take n=l→(∀id∈ids,B' id=B id)→(k n' r σ').go (qf tbl) R l' B'→Bs c.A c.F w0 S0 p' w'→SF (c.at (qf tbl) l') σ' p' w' a'→a'.defers=d→a'.tmps.size=z→Q r.exit' a' w')→cd.wpIn (FR ro) nn uA Q a w:=by
 intro cd
 induction cd with
 |skip=>
  intro ids n σ k l B p w a Q h hl hb hf hd hz hQ hR hk;exact wpIn_skip (hk n .normal σ l B p w a hl (by rw[←hl];exact uE) (fun _ _=>rfl) h hb hf hd hz)
 | region id ops dr =>
  intro ids n σ k l B p w a Q h hl hb hf hd hz hQ hR hk;simp only[toT] at h;split at h
  ·rename_i N σ1 h1;obtain⟨hN,hgo⟩:=qtg h;exact zo9 ro nn (c:=c.at (qf tbl) l) htb ⟨rfl,hfm⟩ h1 hN hb hf hd hz hQ fun a' w'⟨p',hb',hf',hd',hz'⟩=>hk n .normal (prune ann.pub σ1) l B p' w' a' hl (by rw[←hl];exact uE) (fun _ _=>rfl) hgo hb' (zfy hf') hd' hz'
  ·split at h
   ·rename_i T hT;split at h
    ·rename_i hok;have hdr:dr=false:=by
      cases dr with
      |false=>rfl
      |true=>simp at hok
     subst hdr;have hok:=(Bool.and_eq_true_iff.1 hok).1;obtain⟨e,he,hp⟩:=kL.1 hok;have hp:e.1.pn=some T:=by
      unfold zuj at hp;split at hp
      ·rename_i T' hT';rw[hT',gnN hp]
      ·cases hp
     exact zsk ro nn hT (fun a' h1=>hR h e he T hp a' w h1 hb.but) hd hz
    ·exact h.elim
   ·exact h.elim
 | seq x y ihx ihy =>
  intro ids n σ k l B p w a Q h hl hb hf hd hz hQ hR hk;simp only[toT] at h;refine wpIn_seq (ihx h hl hb hf hd hz hQ hR fun n' r σ' l' B' p' w' a' hl' hpre hB hgo hb' hf' hd' hz'=>?_);cases r with
  | normal =>
   refine ihy hgo hl' hb' hf' hd' hz' hQ hR fun n2 r2 σ2 l2 B2 p2 w2 a2 hl2 hpre2 hB2 hgo2 hb2 hf2 hd2 hz2=>hk n2 r2 σ2 l2 B2 p2 w2 a2 hl2 ?_ (fun id hid=>(hB2 id hid).trans (hB id hid)) hgo2 hb2 hf2 hd2 hz2;have hnn:n≤n':=by
    have:=congrArg kE hpre;simp at this;omega
   rw[←hpre,←hpre2,uQ,uW hnn]
  |ret=>exact hk n' .ret σ' l' B' p' w' a' hl' hpre hB hgo hb' hf' hd' hz'
  |exit i=>exact hk n' (.exit i) σ' l' B' p' w' a' hl' hpre hB hgo hb' hf' hd' hz'
 | cond b x y ihx ihy =>
  intro ids n σ k l B p w a Q h hl hb hf hd hz hQ hR hk;simp only[toT] at h;split at h
  ·rename_i hc;obtain⟨u,e1,e2⟩:=q2v (qo hf rfl hc);obtain rfl:true=u:=by have:D.b true=D.b u:=e1;injection this
   exact wpIn_cond_true e2 (ihx h hl hb hf hd hz hQ hR hk)
  ·rename_i hc;obtain⟨u,e1,e2⟩:=q2v (qo hf rfl hc);obtain rfl:false=u:=by have:D.b false=D.b u:=e1;injection this
   exact wpIn_cond_false e2 (ihy h hl hb hf hd hz hQ hR hk)
  ·rename_i q _ _ _ _ hc;obtain⟨u,e1,e2⟩:=q2v (qo hf rfl hc);have e1':(q.ev (evl (qf tbl) l))=.b u:=e1;cases u with
   |true=>exact wpIn_cond_true e2 (ihx (h.1 (by rw[e1'];rfl)) hl hb hf hd hz hQ hR hk)
   |false=>exact wpIn_cond_false e2 (ihy (h.2 (by rw[e1'];rfl)) hl hb hf hd hz hQ hR hk)
  ·rename_i q neg hc;obtain⟨u,e1,e2⟩:=qo hf rfl hc;cases u with
   |true=>exact wpIn_cond_true e1 (ihx (h.1 (fun hn=>e2 (by rw[hn];rfl))) hl hb hf hd hz hQ hR hk)
   |false=>exact wpIn_cond_false e1 (ihy (h.2 (fun hn=>e2 (by rw[hn];rfl))) hl hb hf hd hz hQ hR hk)
  ·exact h.elim
 | block id cd ih =>
  intro ids n σ k l B p w a Q h hl hb hf hd hz hQ hR hk;simp only[toT] at h;refine wpIn_block (ih h hl hb hf hd hz hQ hR fun n' r σ' l' B' p' w' a' hl' hpre hB hgo hb' hf' hd' hz'=>?_);cases r with
  |normal=>exact hk n' .normal σ' l' B' p' w' a' hl' hpre hB hgo hb' hf' hd' hz'
  |ret=>exact hk n' .ret σ' l' B' p' w' a' hl' hpre hB hgo hb' hf' hd' hz'
  | exit i =>
   show Exit.inBlock id Q (.exit i) a' w'
   simp only at hgo;by_cases hi:i=id
   ·rw[if_pos (by rw[hi];exact kT id)] at hgo;simp only[Exit.inBlock,if_pos hi];exact hk n' .normal σ' l' B' p' w' a' hl' hpre hB hgo hb' hf' hd' hz'
   ·rw[if_neg (fun e=>hi (gnN e))] at hgo;simp only[Exit.inBlock,if_neg hi];exact hk n' (.exit i) σ' l' B' p' w' a' hl' hpre hB hgo hb' hf' hd' hz'
 |exit id=>
  intro ids n σ k l B p w a Q h hl hb hf hd hz hQ hR hk;exact wpIn_exit (hk n (.exit id) σ l B p w a hl (by rw[←hl];exact uE) (fun _ _=>rfl) h hb hf hd hz)
 |ret=>
  intro ids n σ k l B p w a Q h hl hb hf hd hz hQ hR hk;exact wpIn_ret (hk n .ret σ l B p w a hl (by rw[←hl];exact uE) (fun _ _=>rfl) h hb hf hd hz)
 |label s=>
  intro ids n σ k l B p w a Q h hl hb hf hd hz hQ hR hk;exact wpIn_label (hk n .normal σ l B p w a hl (by rw[←hl];exact uE) (fun _ _=>rfl) h hb hf hd hz)
 |scope cd ih=>
  intro ids n σ k l B p w a Q h hl hb hf hd hz hQ hR hk;simp only[toT] at h;refine qig (ih h hl hb hf hd hz hQ hR fun n' r σ' l' B' p' w' a' hl' hpre hB hgo hb' hf' hd' hz'=>?_);have:=hk n' r σ' l' B' p' w' a' hl' hpre hB hgo hb' hf' hd' hz';cases r<;>exact this
 | loop cd ih =>
  intro ids n σ k l B p w a Q h hl hb0 hf0 hd hz hQ hR hk;simp only[toT] at h;split at h
  ·rename_i hh hann;split at h
   ·exact h.elim
   ·rename_i hids;have hb:=hb0.un (qh1 hh.kill (q4s hh σ));have hf:=SF.un (c:=c.at (qf tbl) l) (q:=qh1 hh.kill (q4s hh σ)) hb0.inj hb0.pa (z7t hh hf0);change (zho _ (heads hh ((q4s hh σ).un (qh1 hh.kill (q4s hh σ)))) hh.kill n ((q4s hh σ).un (qh1 hh.kill (q4s hh σ))) _ k).go _ _ _ _ at h;generalize heads hh ((q4s hh σ).un (qh1 hh.kill (q4s hh σ)))=it at h;generalize (q4s hh σ).un (qh1 hh.kill (q4s hh σ))=σ at h hf;obtain⟨ts,ms⟩:=it;unfold zho at h;simp only at h;split at h
    ·rename_i σ1 va vb hcv;unfold conv at hcv
     split at hcv
     ·rename_i hrb;split at hcv
      ·rename_i va' vb' hva hvb;simp only[gnS] at hcv;obtain⟨rfl,rfl,rfl⟩:=hcv;obtain⟨I,μ,hI,hbody⟩:=h;obtain⟨p1,hb1,hf1⟩:=qno (c:=c.at (qf tbl) l) hrb hb hf
       -- the rounds
       have key:∀(m:Nat)(da db:List D)(l2:List D)(p:qj)(w:World)(a:Act),n≤l2.length→l2.take n=l→I (da++db)→μ (da++db)<m→Bs c.A c.F w0 S0 p w→SF (c.at (qf tbl) l2) (q28 ts ms hh.kill n (σ.ren (qou σ ts ms))) p w a→ItT c.snap c.A p w a ts da→ItM c.A p w ms db→a.defers=d→a.tmps.size=z→
         Code.roundsIn (FR ro) nn uA cd Q m a w:=by
        intro m
        induction m with
        |zero=>intro da db l2 p w a _ _ _ hm;omega
        | succ m ihm =>
         intro da db l2 p w a hn2 hl2 hIs hm hb hf hta htb' hd hz;rw[roundsIn_succ];have hlen:(da++db).length=(va'++vb').length:=by
          rw[uT,uT,z10 hta,zbc htb',qkf hva,qkf hvb]
         have hgo:=hbody (da++db) hlen hIs;have hln:(l.take n++(da++db)).length=n+(va'++vb').length:=by
          rw[uT,hlen];simp[hl]
         have hlt:l.take n=l:=by rw[←hl];exact uE
         have hhead:SF (c.at (qf tbl) (l.take n++(da++db))) (q33 ts ms n (q28 ts ms hh.kill n (σ.ren (qou σ ts ms)))) p w a:=
          qro (c:=c.at (qf tbl) l2) (c':=c.at (qf tbl) (l.take n++(da++db))) rfl rfl ⟨rfl,rfl,rfl⟩ (fun k hk=>by
           show l2.getD k .u=(l.take n++(da++db)).getD k .u
           rw[getD_take hk _ (by omega),←hl2];simp only[gnG];rw[kB hk]) (fun i hi=>by
           show(l.take n++(da++db)).getD (n+i) .u=_
           simp only[gnG];rw[uZ (by simp;omega)]
           congr 2
           simp;omega) hf hta htb'
         refine ih hgo hln hb hhead hd hz hQ hR fun n' r σ' l' B' p' w' a' hl' hpre hB hgo' hb' hf' hd' hz'=>?_;have hpre':l'.take n=l:=by
          have h1:(l'.take (n+(va'++vb').length)).take n=(l.take n++(da++db)).take n:=by rw[hpre]
          rw[uQ,uW (Nat.le_add_right _ _)] at h1;rw[h1,uV (by simp;omega),uQ,Nat.min_self,hlt]
         have hBo:∀id∈ids,B' id=B id:=fun id hid=>by
          rw[hB id (uD _ hid)];unfold jv;rw[if_neg];intro e;subst e;exact hids (yo.2 hid)
         cases r with
         |ret=>exact hk n' .ret σ' l' B' p' w' a' hl' hpre' hBo hgo' hb' hf' hd' hz'
         |exit i=>exact hk n' (.exit i) σ' l' B' p' w' a' hl' hpre' hBo hgo' hb' hf' hd' hz'
         | normal =>
          simp only at hgo';have hf'':=SF.un (c:=c.at (qf tbl) l') (q:=qh1 hh.kill (qlg ts ms σ')) hb'.inj hb'.pa (z8t ts ms hf');have hb'':=hb'.un (qh1 hh.kill (qlg ts ms σ'));change SF _ ((qlg ts ms σ').drop hh.kill) _ _ _ at hf'';split at hgo'
          ·rename_i σ2 wa wb hcv2;split at hgo'
           ·rename_i hcov;unfold conv at hcv2
            split at hcv2
            ·rename_i hrb2;split at hcv2
             ·rename_i wa' wb' hwa hwb;simp only[gnS] at hcv2;obtain⟨rfl,rfl,rfl⟩:=hcv2;obtain⟨p2,hb2,hf2⟩:=qno (c:=c.at (qf tbl) l') hrb2 hb'' hf'';have hbk:B' (q3y cd - 1) (X.evs (evl (qf tbl) l') (wa'++wb')):=hgo';rw[hB _ uC] at hbk;unfold jv at hbk;rw[if_pos rfl,qdm] at hbk;have hnl:n≤l'.length:=by
               have:=congrArg kE hpre';simp at this;omega
              show Exit.then (Code.roundsIn (FR ro) nn uA cd Q m) Q .normal a' w'
              exact ihm (X.evs (evl (qf tbl) l') wa') (X.evs (evl (qf tbl) l') wb') l' p2 w' a' hnl hpre' hbk.1 (by have:=hbk.2;omega) hb2 (q3a hcov hf2) (z5v hf2 hwa) (z6m hf2 hwb) hd' hz'
             ·cases hcv2
            ·cases hcv2
           ·exact hgo'.elim
          ·exact hgo'.2.elim
       rw[qdm] at hI;exact wpIn_loop_rounds _ (key (μ (X.evs (evl (qf tbl) l) va'++X.evs (evl (qf tbl) l) vb')+1) _ _ l p1 w a (by omega) (by rw[←hl];exact uE) hI (kN _) hb1 (ql4 hf1) (z5v hf1 hva) (z6m hf1 hvb) hd hz)
      ·cases hcv
     ·cases hcv
    ·exact h.2.elim
  ·have key:∀(m:Nat){n1:Nat}{σ:St}{l1:List D}{B1:Nat→List D→Prop}{p:qj}{w:World}{a:Act},(z2n (fun n' σ0=>toT uA tbl ann c.lo z cd ids n' σ0) k m n1 σ).go (qf tbl) R l1 B1→l1.length=n1→n≤n1→l1.take n=l→(∀id∈ids,B1 id=B id)→Bs c.A c.F w0 S0 p w→SF (c.at (qf tbl) l1) σ p w a→a.defers=d→a.tmps.size=z→Code.roundsIn (FR ro) nn uA cd Q m a w:=by
    intro m
    induction m with
    |zero=>intro n1 σ l1 B1 p w a h;exact h.elim
    | succ m ihm =>
     intro n1 σ l1 B1 p w a h hl1 hn1 hp1 hB1 hb hf hd hz;rw[roundsIn_succ];refine ih h hl1 hb hf hd hz hQ hR fun n' r σ' l' B' p' w' a' hl' hpre hB hgo' hb' hf' hd' hz'=>?_;have hpre':l'.take n=l:=by
      rw[←hp1,←hpre,uQ,uW hn1]
     have hBo:∀id∈ids,B' id=B id:=fun id hid=>(hB id hid).trans (hB1 id hid);have hle:n≤n':=by
      have h1:=congrArg kE hpre;rw[List.length_take,hl1] at h1;omega
     cases r with
     |ret=>exact hk n' .ret σ' l' B' p' w' a' hl' hpre' hBo hgo' hb' hf' hd' hz'
     |exit i=>exact hk n' (.exit i) σ' l' B' p' w' a' hl' hpre' hBo hgo' hb' hf' hd' hz'
     |normal=>exact ihm hgo' hl' hle hpre' hBo hb' hf' hd' hz'
   exact wpIn_loop_rounds _ (key 128 h hl (uB _) (by rw[←hl];exact uE) (fun _ _=>rfl) hb0 hf0 hd hz)
 |_=>intro ids n σ k l B p w a Q h;exact h.elim
end
end
variable{c:Cx}{i:Nat}{V vs:List Value}{fn:Func}{tmps:Array Value}{x:X}{ds:List D}{tbl:Tbl}{F:Flr}{P:Nat→Prop}{d:D}
section
abbrev Rs:=List (ResultVar×Ty×Bool)
def zvr(σ:St):ResultVar→List (Nat×Nat)
 |.tmp s=>(match lkA σ.t s with
  |some (.v _ _ own _)=>own
  |_=>[])
 | .cell s _ => match lkA σ.t s with
  |some (.ref k _ _ _)=>(match lkA σ.m k with
   |some e=>e.own
   |none=>[])
  |_=>[]
def qgu(σ:St):Rs→Nat→List (Nat×Nat)
 |[],_=>[]
 |(rv,t,own)::l,n=>(if own then pairUp (zvr σ rv) (qp n t) else[])++qgu σ l (n+1)
def qca(σ:St):List (Nat×Ar)→List (Nat×Nat)
  |[]=>[]
  | (i, .ref t o) :: l => (match lkA σ.m i with
    |some e=>pairUp e.own (qn9 o i t)
    |none=>[])++qca σ l
  |(i,.mref t)::l=>pairUp (zwi σ i) (qp i t)++qca σ l
  |_::l=>qca σ l
def qa4:List (Nat×Ar)→List Nat
  |[]=>[]
  |(i,.ref _ _)::l=>i * 16::qa4 l
  |_::l=>qa4 l
mutual
/-- The value holds a pointer to the variable. -/
def AV.has(i:Nat):AV→Bool
 |.ref k _ _ _=>uJ k i
 |.fn _ l=>z71 i l
 |.bx _ _ a=>AV.has i a
 |.fr _ a=>AV.has i a
 |.sn _ a=>AV.has i a
 |_=>false
def z71(i:Nat):List AV→Bool
 |[]=>false
 |a::l=>AV.has i a||z71 i l
end
mutual
theorem AV.has_ok{w:World}:∀(a:AV){v:Value},a.has i=true→a.pd c p w v→∃g,p (i * 16)=some g∧c.At i g
 |.ref k _ _ _,v,h,hx=>by
  have h:=gnN h;subst h;obtain⟨g,hg,-,hat⟩:=hx;exact⟨g,hg,hat⟩
 |.fn _ l,v,h,hx=>by
  obtain⟨vs,-,hl⟩:=hx;exact z6j l (by simpa[AV.has] using h) hl
 |.bx _ _ a,v,h,hx=>by
  obtain⟨g,u,-,-,-,hu⟩:=hx;exact AV.has_ok a (by simpa[AV.has] using h) hu
 |.fr _ a,v,h,hx=>by
  obtain⟨g,u,-,-,-,-,hu⟩:=hx;exact AV.has_ok a (by simpa[AV.has] using h) hu
 |.ff _ _ _ _ _ _ _ _,v,h,_=>by simp[AV.has] at h
 |.sn _ a,v,h,hx=>AV.has_ok a (by simpa[AV.has] using h) hx.2
 |.any,v,h,_=>by simp[AV.has] at h
 |.undef,v,h,_=>by simp[AV.has] at h
 |.v _ _ _ _,v,h,_=>by simp[AV.has] at h
 |.nilS,v,h,_=>by simp[AV.has] at h
 |.nilP,v,h,_=>by simp[AV.has] at h
 |.rd _ _ _ _,v,h,_=>by simp[AV.has] at h
 |.tup _,v,h,_=>by simp[AV.has] at h
 |.gd _ _,v,h,_=>by simp[AV.has] at h
 |.nb _ _,v,h,_=>by simp[AV.has] at h
 |.pt _ _ _ _,v,h,_=>by simp[AV.has] at h
 |.ar _ _ _,v,h,_=>by simp[AV.has] at h
 |.lv _ _,v,h,_=>by simp[AV.has] at h
 |.ax _ _ _ _,v,h,_=>by simp[AV.has] at h
theorem z6j{w:World}:∀(l:List AV){vs:List Value},z71 i l=true→pds c p w l vs→∃g,p (i * 16)=some g∧c.At i g
 |[],vs,h,_=>by simp[z71] at h
 |a::l,vs,h,hx=>by
  obtain⟨v,r,rfl,h1,h2⟩:=hx;simp only[z71,Bool.or_eq_true] at h;rcases h with h|h
  ·exact AV.has_ok a h h1
  ·exact z6j l h h2
end
def q5j(σ:St):List ResultVar→List Nat
 |[]=>[]
 |.cell s _::l=>(match lkA σ.t s with
  |some (.ref k _ _ _)=>k * 16::q5j σ l
  |_=>q5j σ l)
 |_::l=>q5j σ l
def z1s(σ:St)(n:Nat)(rv:ResultVar)(t:Ty)(own:Bool):Option X:=match rv with
 |.tmp s=>itT σ (s,t,if own then qp n t else[],[])
 |.cell s T=>match lkA σ.t s with
  |some (.ref k [] 0 t')=>if qia T t&&Ty.beq t' t then itM σ (k,t,if own then qp n t else[],[]) else none
  |_=>none
def zi2(σ:St):Rs→Nat→Option (List X)
  |[],_=>some []
  | (rv, t, own) :: l, n => match z1s σ n rv t own, zi2 σ l (n + 1) with
    |some x,some xs=>some (x::xs)
    |_,_=>none
def zvx(σ:St)(n i:Nat):Bool:=(uN n).any fun t=>match lkA σ.t t with
 |some a=>a.has i
 |none=>false
def z0s(σ:St)(n:Nat):List (Nat×Ar)→Option (List X)
  |[]=>some []
  | (i, .ref t o) :: l => (match itM σ (i, t, qn9 o i t, []), z0s σ n l with
    |some x,some xs=>if zvx σ n i then some (x::xs) else none
    |_,_=>none)
  | (i, .mref t) :: l => (match itT σ (i, t, qp i t, [SNK]), z0s σ n l with
    |some x,some xs=>if kJ i n&&(kJ i VB&&(qbm t||qpx t)) then some (x::xs) else none
    |_,_=>none)
  |_::l=>z0s σ n l
def fin(ct:Ct)(results:List ResultVar)(σ:St):Option (List X):=
 let z:=results.zip ct.rs
 let rr:=qgu σ z ct.ar.length++qca σ ct.all
 let keep:=rr.map (·.1)++(qa4 ct.all++q5j σ results)
 let σ2:=(σ.un fun y=> !zs keep y).ren rr
 if reB rr&&uJ results.length ct.rs.length then match zi2 σ2 z ct.ar.length,z0s σ2 ct.ar.length ct.all with
  |some a,some b=>some (a++b)
  |_,_=>none
 else none
def qdx(ct:Ct)(results:List ResultVar):Nat→ResD→St→Tree:=fun _ r σ=>match r with
 |.exit i=>.bad (8000000+i)
 |_=>match fin ct results σ with
  |some xs=>.leaf xs
  |none=>.bad 9000000
def q7m:List Ar→Nat
 |[]=>0
 |.val _::l=>q7m l+1
 |.ref _ _::l=>q7m l+1
 |.rref _::l=>q7m l+1
 |.own _::l=>q7m l+1
 |.mref _::l=>q7m l+1
 |_::l=>q7m l
def Ct.ars(ct:Ct):List Ar:=ct.ar++ct.vr.map (·.2)
def qkp:Nat→List (Nat×Ar)→List (Nat×Nat×Ar)
 |_,[]=>[]
 |j,(i,r)::l=>(i,j,r)::qkp (j+q7m [r]) l
def zbo(tb:List (Nat×Nat×Ar)):Nat→Nat→AV
 |0,q=>.sn q .any
 |f+1,q=>.sn q (match tb[q]? with
  |some (_,j,.val t)=>.v (.tok j) t [] []
  |some (i,_,.ref t _)=>.ref i [] 0 t
  |some (_,j,.rref t)=>.rd (.tok j) t [] none
  |some (i,j,.own t)=>.v (.tok j) t (qp i t) []
  |some (i,j,.mref t)=>.sn q (.v (.tok j) t (qp i t) [])
  |some (_,_,.nils)=>.nilS
  |some (_,_,.nilp)=>.nilP
  |some (_,_,.fn g ks)=>.fn g (ks.map (zbo tb f))
  |some (_,_,.cell T k)=>.fr T (zbo tb f k)
  |none=>.any)
def zhj:AV→AV
 |.sn q (.rd x t dep wr)=>.sn q (.rd x t dep wr)
 |.sn _ a=>a
 |a=>a
def zkl(tb:List (Nat×Nat×Ar)):Nat→Nat→List (Nat×AV)
 |_,0=>[]
 |q,m+1=>(q,zhj (zbo tb 6 q))::zkl tb (q+1) m
def zgt:List (Nat×Nat×Ar)→List (Nat×Ent)
  |[]=>[]
  |(i,j,.ref t o)::l=>(i,⟨.tok j,t,qn9 o i t,[]⟩)::zgt l
  |_::l=>zgt l
def qu3(ct:Ct):St:=⟨zkl (qkp 0 ct.all) 0 ct.ar.length,zgt (qkp 0 ct.all)⟩
def qg0(P:Program)(tbl:Tbl)(ann:Ann)(ct:Ct)(fn:Func)(cd:Code):Tree:=
 toT P tbl ann ct.ar.length fn.ntmps cd [] (q7m ct.ars) (qu3 ct) (qdx ct fn.results.toList)
def WfA:List Ar→List D→Prop
 |[],ds=>ds=[]
 |.val t::l,ds=>∃d r,ds=d::r∧Wf d t∧WfA l r
 |.ref t _::l,ds=>∃d r,ds=d::r∧Wf d t∧WfA l r
 |.rref t::l,ds=>∃d r,ds=d::r∧Wf d t∧WfA l r
 |.own t::l,ds=>∃d r,ds=d::r∧Wf d t∧WfA l r
 |.mref t::l,ds=>∃d r,ds=d::r∧Wf d t∧WfA l r
 |_::l,ds=>WfA l ds
section
variable{A:Nat→Prop}{F:Flr}{p:qj}{w:World}
theorem jc.wf:∀{all:List (Nat×Ar)}{vs:List Value}{ds:List D},jc V A p w all vs ds→WfA (all.map (·.2)) ds∧ds.length=q7m (all.map (·.2))∧vs.length=all.length
  | [], vs, ds, h => by
    obtain⟨rfl,rfl⟩:=h;exact⟨rfl,rfl,rfl⟩
  | (_, .val t) :: l, vs, ds, h => by
    obtain⟨v,r,d,ds',rfl,rfl,⟨cs,hp,hr⟩,h⟩:=h;obtain⟨h1,h2,h3⟩:=jc.wf h;exact⟨⟨d,ds',rfl,⟨w,_,cs,hr⟩,h1⟩,by simp[q7m,h2],by simp[h3]⟩
  | (i, .ref t o) :: l, vs, ds, h => by
    obtain⟨v,r,d,ds',rfl,rfl,⟨g,cs,T,-,-,-,-,hc⟩,h⟩:=h;obtain⟨h1,h2,h3⟩:=jc.wf h;exact⟨⟨d,ds',rfl,⟨w,_,_,hc.rd (dep':=(qn9 o i t).map (·.2)) (fun x hx=>by cases hx) (fun x hx=>hx)⟩,h1⟩,by simp[q7m,h2],by simp[h3]⟩
  | (_, .rref t) :: l, vs, ds, h => by
    obtain⟨v,r,d,ds',rfl,rfl,⟨b,o,cs,-,-,-,-,hr⟩,h⟩:=h;obtain⟨h1,h2,h3⟩:=jc.wf h;exact⟨⟨d,ds',rfl,⟨w,_,cs,hr⟩,h1⟩,by simp[q7m,h2],by simp[h3]⟩
  | (i, .own t) :: l, vs, ds, h => by
    obtain⟨v,r,d,ds',rfl,rfl,⟨cs,-,hc⟩,h⟩:=h;obtain⟨h1,h2,h3⟩:=jc.wf h;exact⟨⟨d,ds',rfl,⟨w,_,_,hc.rd (dep':=(qp i t).map (·.2)) (fun x hx=>by cases hx) (fun x hx=>hx)⟩,h1⟩,by simp[q7m,h2],by simp[h3]⟩
  | (i, .mref t) :: l, vs, ds, h => by
    obtain⟨v,r,d,ds',rfl,rfl,⟨cs,-,hc⟩,h⟩:=h;obtain⟨h1,h2,h3⟩:=jc.wf h;exact⟨⟨d,ds',rfl,⟨w,_,_,hc.rd (dep':=(qp i t).map (·.2)) (fun x hx=>by cases hx) (fun x hx=>hx)⟩,h1⟩,by simp[q7m,h2],by simp[h3]⟩
  | (_, .nils) :: l, vs, ds, h => by
    obtain⟨r,rfl,h⟩:=h;obtain⟨h1,h2,h3⟩:=jc.wf h;exact⟨h1,h2,by simp[h3]⟩
  | (_, .nilp) :: l, vs, ds, h => by
    obtain⟨r,rfl,h⟩:=h;obtain⟨h1,h2,h3⟩:=jc.wf h;exact⟨h1,h2,by simp[h3]⟩
  | (_, .fn f ks) :: l, vs, ds, h => by
    obtain⟨r,rfl,h⟩:=h;obtain⟨h1,h2,h3⟩:=jc.wf h;exact⟨h1,h2,by simp[h3]⟩
  | (_, .cell T j) :: l, vs, ds, h => by
    obtain⟨b,r,rfl,-,-,-,h⟩:=h;obtain⟨h1,h2,h3⟩:=jc.wf h;exact⟨h1,h2,by simp[h3]⟩
theorem z2k:∀(i:Nat)(l:List Ar),(idx i l).map (·.2)=l
 |_,[]=>rfl
 |i,a::l=>by simp[idx,z2k (i+1) l]
theorem all_map(ct:Ct):ct.all.map (·.2)=ct.ars:=by simp[Ct.all,Ct.ars,z2k]
theorem z1a:∀{i n:Nat}{l:List Ar}{e:Nat×Ar},e∈idx i l→i+l.length=n→i≤e.1∧e.1<n
 |_,_,[],e,h,_=>by cases h
 | i, n, a :: l, e, h, hn => by
  rcases uL.1 h with rfl|h
  ·simp at hn;exact⟨uB _,by simp;omega⟩
  ·obtain⟨h1,h2⟩:=z1a (n:=n) h (by simp at hn;omega);exact⟨by omega,h2⟩
theorem z27{ct:Ct}{e:Nat×Ar}(h:e∈ct.all):e.1<ct.ar.length∨VB≤e.1:=by
 rcases kO.1 h with h|h
 ·exact .inl (z1a (n:=ct.ar.length) h (by simp)).2
 ·exact .inr (z1a h rfl).1
def zn0(V:List Value)(A:Nat→Prop)(p:qj)(w:World)(i:Nat):Ar→Value→D→Prop
 |.val t,v,d=>∃cs,jj t cs v∧Rd w (FFD A p []) d t cs
 |.ref t o,v,d=>∃g cs T,p (i * 16)=some g∧v=.pointer (some ⟨g,0,none⟩)∧w.heap[g]? =some (.cells cs T (0,0))∧qm T=some t∧Con A p w d t (qn9 o i t) [] cs.toList
 |.rref t,v,d=>∃b o cs,v=.pointer (some ⟨b,o,none⟩)∧FFD A p [] b∧w.rangeAt b o cs∧0<cs.length∧Rd w (FFD A p []) d t cs
 |.own t,v,d=>∃cs,jj t cs v∧Con A p w d t (qp i t) [] cs
 |.mref t,v,d=>∃cs,jj t cs v∧Con A p w d t (qp i t) [] cs
 |.nils,v,_=>v=.slice none 0 0
 |.nilp,v,_=>v=.pointer none
 |.fn f ks,v,_=>v=.func (.func f) #[] (ks.map fun k=>V.getD k undef).toArray
 |.cell T j,v,_=>∃b,v=.pointer (some ⟨b,0,none⟩)∧A b∧q7h p b∧w.heap[b]? =some (.cells #[V.getD j undef] T (0,0))
theorem qtf:∀{all:List (Nat×Ar)}{j0:Nat}{vs:List Value}{ds:List D}{q i j:Nat}{r:Ar},jc V A p w all vs ds→(qkp j0 all)[q]? =some (i,j,r)→∃v,vs[q]? =some v∧j0≤j∧zn0 V A p w i r v (ds.getD (j - j0) .u)
  |[],j0,vs,ds,q,i,j,r,h,hq=>by simp[qkp] at hq
  | (i', r') :: l, j0, vs, ds, q, i, j, r, h, hq => by
    cases q with
    | zero =>
      simp only[qkp,kC,gnS] at hq;obtain⟨rfl,rfl,rfl⟩:=hq;cases r' with
      |val t=>obtain⟨v,r,d,ds',rfl,rfl,h1,-⟩:=h;exact⟨v,rfl,uB _,by rw[uO];exact h1⟩
      |ref t o=>obtain⟨v,r,d,ds',rfl,rfl,h1,-⟩:=h;exact⟨v,rfl,uB _,by rw[uO];exact h1⟩
      |rref t=>obtain⟨v,r,d,ds',rfl,rfl,h1,-⟩:=h;exact⟨v,rfl,uB _,by rw[uO];exact h1⟩
      |own t=>obtain⟨v,r,d,ds',rfl,rfl,h1,-⟩:=h;exact⟨v,rfl,uB _,by rw[uO];exact h1⟩
      |mref t=>obtain⟨v,r,d,ds',rfl,rfl,h1,-⟩:=h;exact⟨v,rfl,uB _,by rw[uO];exact h1⟩
      |nils=>obtain⟨r,rfl,-⟩:=h;exact⟨_,rfl,uB _,rfl⟩
      |nilp=>obtain⟨r,rfl,-⟩:=h;exact⟨_,rfl,uB _,rfl⟩
      |fn f ks=>obtain⟨r,rfl,-⟩:=h;exact⟨_,rfl,uB _,rfl⟩
      |cell T k=>obtain⟨b,r,rfl,h1,h2,h3,-⟩:=h;exact⟨_,rfl,uB _,⟨b,rfl,h1,h2,h3⟩⟩
    | succ q =>
      simp only[qkp,uM] at hq;have one:∀{v:Value}{vs':List Value}{d:D}{ds':List D},jc V A p w l vs' ds'→(qkp (j0+1) l)[q]? =some (i,j,r)→∃u,(v::vs')[q+1]? =some u∧j0≤j∧zn0 V A p w i r u ((d::ds').getD (j - j0) .u):=fun h hq=>by
        obtain⟨u,h1,h2,h3⟩:=qtf h hq;refine⟨u,by simpa using h1,by omega,?_⟩;rw[show j - j0=(j - (j0+1))+1 by omega];simpa using h3
      have non:∀{v:Value}{vs':List Value},jc V A p w l vs' ds→(qkp j0 l)[q]? =some (i,j,r)→∃u,(v::vs')[q+1]? =some u∧j0≤j∧zn0 V A p w i r u (ds.getD (j - j0) .u):=fun h hq=>by
        obtain⟨u,h1,h2,h3⟩:=qtf h hq;exact⟨u,by simpa using h1,h2,h3⟩
      cases r' with
      |val t=>obtain⟨v,r,d,ds',rfl,rfl,-,h⟩:=h;exact one h hq
      |ref t o=>obtain⟨v,r,d,ds',rfl,rfl,-,h⟩:=h;exact one h hq
      |rref t=>obtain⟨v,r,d,ds',rfl,rfl,-,h⟩:=h;exact one h hq
      |own t=>obtain⟨v,r,d,ds',rfl,rfl,-,h⟩:=h;exact one h hq
      |mref t=>obtain⟨v,r,d,ds',rfl,rfl,-,h⟩:=h;exact one h hq
      |nils=>obtain⟨r,rfl,h⟩:=h;exact non h hq
      |nilp=>obtain⟨r,rfl,h⟩:=h;exact non h hq
      |fn f ks=>obtain⟨r,rfl,h⟩:=h;exact non h hq
      |cell T k=>obtain⟨b,r,rfl,-,-,-,h⟩:=h;exact non h hq
section
variable{c:Cx}{n0:Nat}{V:List Value}{all:List (Nat×Ar)}{ds:List D}
theorem qt9(hA:c.A=A)(hAt:c.At=fun k g=>(k<n0∨VB≤k)→p (k * 16)=some g)(hsn:c.snap=fun q=>V.getD q undef)(h:jc V A p w all V ds)(hE:∀k,c.v.E k=ds.getD k .u):∀(f q:Nat),(zbo (qkp 0 all) f q).pd c p w (V.getD q undef)
 |0,q=>⟨by rw[hsn],trivial⟩
 | f + 1, q => by
  refine⟨by rw[hsn],?_⟩;have key:∀{i j:Nat}{r:Ar},(qkp 0 all)[q]? =some (i,j,r)→zn0 V A p w i r (V.getD q undef) (c.v.E j):=fun hq=>by
   obtain⟨v,h1,-,h3⟩:=qtf h hq;rw[gnG,h1,hE];exact h3
  split
  ·rename_i i j t hq;obtain⟨cs,hp,hr⟩:=key hq;refine⟨cs,hp,?_⟩;rw[hA];exact Con.of_rd hr
  ·rename_i i j t hq;obtain⟨g,cs,T,hg,e,-⟩:=key hq;exact⟨g,hg,e,by rw[hAt];exact fun _=>hg⟩
  ·rename_i i j t hq;obtain⟨b,o,cs,e,hfb,hrg,h0,hr⟩:=key hq;refine⟨b,o,cs,e,by rw[hA];exact hfb,hrg,h0,?_,trivial⟩
   show Rd w (FFD c.A p []) (c.v.E j) t cs
   rw[hA];exact hr
  ·rename_i i j t hq;obtain⟨cs,hp,hr⟩:=key hq;refine⟨cs,hp,?_⟩
   show Con c.A p w (c.v.E j) t (qp i t) [] cs
   rw[hA];exact hr
  ·rename_i i j t hq;obtain⟨cs,hp,hr⟩:=key hq;refine⟨by rw[hsn],cs,hp,?_⟩
   show Con c.A p w (c.v.E j) t (qp i t) [] cs
   rw[hA];exact hr
  ·rename_i i j hq;exact key hq
  ·rename_i i j hq;exact key hq
  ·rename_i i j g ks hq;refine⟨_,key hq,?_⟩;clear hq
   induction ks with
   |nil=>rfl
   |cons k ks ih=>exact⟨_,_,rfl,qt9 hA hAt hsn h hE f k,ih⟩
  ·rename_i i j T k hq;obtain⟨b,e,h1,h2,h3⟩:=key hq;exact⟨b,_,by rw[hA];exact h1,h2,e,h3,qt9 hA hAt hsn h hE f k⟩
  ·trivial
theorem zff{x:AV}{v:Value}(h:x.pd c p w v):(zhj x).pd c p w v:=by
 unfold zhj;split
 ·exact h
 ·exact h.2
 ·exact h
theorem qrn(hA:c.A=A)(hAt:c.At=fun k g=>(k<n0∨VB≤k)→p (k * 16)=some g)(hsn:c.snap=fun q=>V.getD q undef)(h:jc V A p w all V ds)(hE:∀k,c.v.E k=ds.getD k .u):∀(m q t:Nat)(x:AV),lkA (zkl (qkp 0 all) q m) t=some x→t<q+m∧x.pd c p w (V.getD t undef)
 |0,q,t,x,hx=>by cases hx
 | m + 1, q, t, x, hx => by
  unfold zkl at hx;by_cases hqt:q=t
  ·subst hqt;rw[qa] at hx;injection hx with hx;subst hx;exact⟨by omega,zff (qt9 hA hAt hsn h hE 6 q)⟩
  ·rw[qd hqt] at hx;obtain⟨h1,h2⟩:=qrn hA hAt hsn h hE m (q+1) t x hx;exact⟨by omega,h2⟩
theorem qrh(hA:c.A=A)(hE:∀k,c.v.E k=ds.getD k .u)(h:jc V A p w all V ds):∀{tb:List (Nat×Nat×Ar)},(∀e:Nat×Nat×Ar,e∈tb→∃q:Nat,(qkp 0 all)[q]? =some e)→∀k e,lkA (zgt tb) k=some e→q1v c p w k e
  |[],_,k,e,he=>by cases he
  | (i, j, r) :: l, hm, k, e, he => by
    have go:=qrh hA hE h (tb:=l) fun e he=>hm e (uD _ he);cases r with
    | ref t o =>
      have he':lkA ((i,⟨.tok j,t,qn9 o i t,[]⟩)::zgt l) k=some e:=he;by_cases hik:i=k
      · subst hik;rw[qa] at he';injection he' with he';subst he';obtain⟨q,hq⟩:=hm _ uC;obtain⟨v,-,-,⟨g,cs,T,hg,-,hh,hty,hc⟩⟩:=qtf h hq;refine⟨g,cs,T,hg,hh,hty,?_⟩
        show Con c.A p w (c.v.E j) t (qn9 o i t) [] cs.toList
        rw[hE,hA];exact hc
      · rw[qd hik] at he';exact go k e he'
    |_=>exact go k e he
end
end
def qhc(tmps:Array Value):ResultVar→Sem Value
 |.tmp t=>pure (tmps.getD t undef)
 |.cell a t=>do loadVar t (←asAddr (tmps.getD a undef))
theorem results_read(fn:Func)(tmps:Array Value):results fn tmps=(do let vs←fn.results.mapM (qhc tmps);pure (if h:vs.size=1 then vs[0] else .tuple vs)):=by
 unfold results
 congr 1
def Reads(tmps:Array Value)(w:World):List ResultVar→List Value→Prop
 |[],l=>l=[]
 |r::rs,l=>∃v l',l=v::l'∧(qhc tmps r).run uA w=.ok v w∧Reads tmps w rs l'
theorem qfy{w:World}{l:List Value}(h:Reads tmps w fn.results.toList l):(results fn tmps).run uA w=.ok (qiy l) w:=by
 have key:∀(rs:List ResultVar)(l:List Value),Reads tmps w rs l→(rs.mapM (qhc tmps)).run uA w=.ok l w:=by
  intro rs
  induction rs with
  |nil=>
   intro l h;cases h;simp
  |cons r rs ih=>
   rintro l⟨v,l',rfl,h1,h2⟩;simp only[List.mapM_cons,Sem.run_bind,h1,Result.andThen_ok,ih l' h2,Sem.run_pure]
 rw[results_read,Array.mapM_eq_mapM_toList];simp only[map_eq_pure_bind,Sem.run_bind,key _ _ h,Result.andThen_ok,Sem.run_pure]
 congr 1
 clear h key
 match l with
 |[]=>rfl
 |[v]=>rfl
 |_::_::_=>rfl
section
variable{c:Cx}{p:qj}{w w0:World}{S0:Nat→Prop}{a:Act}{σ σ':St}
theorem zu2{i:Item}(hf:SF c σ p w a)(h:itT σ i=some x):∃v cs,a.tmps[i.1]? =some v∧jj i.2.1 cs v∧Con c.A p w (x.ev c.v) i.2.1 i.2.2.1 i.2.2.2 cs∧(snB i.2.1 i.2.2.2=true→v=c.snap i.1):=by
 obtain⟨t,ty,own,dep⟩:=i;have:=z5v hf (l:=[(t,ty,own,dep)]) (xs:=[x]) (by simp only[its,h]);obtain⟨y,r,e,h1,-⟩:=this;simp only[X.evs,List.cons.injEq] at e;rw[e.1];exact h1
theorem zvc{i:Item}(hf:SF c σ p w a)(h:itM σ i=some x):∃g cs T,p (i.1 * 16)=some g∧w.heap[g]? =some (.cells cs T (0,0))∧qm T=some i.2.1∧Con c.A p w (x.ev c.v) i.2.1 i.2.2.1 i.2.2.2 cs.toList:=by
 obtain⟨t,ty,own,dep⟩:=i;have:=z6m hf (l:=[(t,ty,own,dep)]) (xs:=[x]) (by simp only[its,h]);obtain⟨y,r,e,h1,-⟩:=this;simp only[X.evs,List.cons.injEq] at e;rw[e.1];exact h1
theorem z7p(hf:SF c σ p w a){n:Nat}{rv:ResultVar}{t:Ty}{own:Bool}(h:z1s σ n rv t own=some x):∃v,(qhc a.tmps rv).run uA w=.ok v w∧∃cs,jj t cs v∧Con c.A p w (x.ev c.v) t (if own then qp n t else[]) [] cs:=by
 cases rv with
 |tmp s=>
  obtain⟨v,cs,hv,hp,hc,-⟩:=zu2 (i:=(s,t,if own then qp n t else[],[])) hf h;exact⟨v,by simp[qhc,show a.tmps[s]? =some v from hv],cs,hp,hc⟩
 | cell s T =>
  simp only[z1s] at h;split at h
  ·rename_i k t' hl;split at h
   ·rename_i hok;simp only[gnB] at hok;obtain⟨v,hv,g,hg,rfl,-⟩:=hf.t s _ hl;obtain⟨g',cs,T',hg',hh,hty,hc⟩:=zvc (i:=(k,t,if own then qp n t else[],[])) hf h;obtain rfl:=gnI (hg.symm.trans hg');have hr:w.rangeAt g 0 cs.toList:=fun j u hj=>by
     rw[cell_of_row w g (0+j) cs T' (0,0) hh,←Array.getElem?_toList];simpa using hj
    obtain⟨u,hu,hp⟩:=q8t (q3j hok.1) hr (hc.rd (dep':=(if own then qp n t else[]).map (·.2)) (fun x hx=>by cases hx) (fun x hx=>hx));refine⟨u,?_,cs.toList,hp,hc⟩;simpa[qhc,show a.tmps[s]? =some _ from hv,asAddr,Instr.loadAt,Instr.sureAddr] using hu
   ·cases h
  ·cases h
theorem qrv(hf:SF c σ p w a):∀{rvs:List ResultVar}{ts:List (Ty×Bool)}{n:Nat}{xs:List X},rvs.length=ts.length→zi2 σ (rvs.zip ts) n=some xs→
  ∃l,Reads a.tmps w rvs l∧qbj c.A p w ts n l (X.evs c.v xs)∧xs.length=ts.length
 |[],[],n,xs,_,h=>by
  simp only[List.zip_nil_left,zi2,uF] at h;subst h;exact⟨[],rfl,rfl,rfl⟩
 | rv :: rvs, (t, own) :: ts, n, xs, hl, h => by
  simp only[List.zip_cons_cons,zi2] at h;split at h
  ·rename_i x xs' hx hxs;injection h with h;subst h;obtain⟨l,h1,h2,h3⟩:=qrv hf (by simpa using hl) hxs;obtain⟨v,hv,hc⟩:=z7p hf hx;exact⟨v::l,⟨v,l,rfl,hv,h1⟩,⟨v,l,_,_,rfl,rfl,hc,h2⟩,by simp[h3]⟩
  ·cases h
 |[],_::_,_,_,hl,_=>by cases hl
 |_::_,[],_,_,hl,_=>by cases hl
theorem zoy(hf:SF c σ p w a){n:Nat}(h:zvx σ n i=true):∃g,p (i * 16)=some g∧c.At i g:=by
 obtain⟨t,-,ht⟩:=kL.1 h;split at ht
 ·rename_i x hx;obtain⟨v,-,hv⟩:=hf.t t x hx;exact AV.has_ok x ht hv
 ·cases ht
theorem qr8{VV:List Value}{p0:qj}(hf:SF c σ p w a){n0 n:Nat}(hAt:c.At=fun k g=>(k<n0∨VB≤k)→p0 (k * 16)=some g):∀{all:List (Nat×Ar)}{xs:List X},(∀e∈all,e.1<n0∨VB≤e.1)→(∀i t,(i,Ar.mref t)∈all→i<n→i<VB→VV[i]? =some (c.snap i)∧(qbm t=true→∃g,c.snap i=.map (some g)∧p0 (i * 16+1)=some g))→z0s σ n all=some xs→q49 VV c.A p0 p w all (X.evs c.v xs)
  | [], xs, _, _, h => by
    simp only[z0s,uF] at h;subst h;rfl
  | (i, r) :: l, xs, hi, hMr, h => by
    have go:∀{xs},z0s σ n l=some xs→q49 VV c.A p0 p w l (X.evs c.v xs):=fun h=>qr8 hf hAt (all:=l) (fun e he=>hi e (uD _ he)) (fun i t hm=>hMr i t (uD _ hm)) h;cases r with
    | ref t o =>
      simp only[z0s] at h;split at h
      · rename_i x xs' hx hxs;split at h
        · rename_i hk;injection h with h;subst h;obtain⟨g,hg,hat⟩:=zoy hf hk;obtain⟨g',cs,T,hg',hh,hty,hc⟩:=zvc (i:=(i,t,qn9 o i t,[])) hf hx;obtain rfl:=gnI (hg.symm.trans hg');rw[hAt] at hat;exact⟨_,_,rfl,⟨g,cs,T,hat (hi _ uC),hg,hh,hty,hc⟩,go hxs⟩
        · cases h
      · cases h
    | mref t =>
      simp only[z0s] at h;split at h
      · rename_i x xs' hx hxs;split at h
        · rename_i hk;injection h with h;subst h;simp only[gnB,kW] at hk;obtain⟨k1,k2,k3⟩:=hk;obtain⟨v,cs,hv,hpk,hc,hs⟩:=zu2 (i:=(i,t,qp i t,[SNK])) hf hx;by_cases hrw:qpx t=true
          · have hve:v=c.snap i:=hs (by simp only[snB,gnB];exact⟨k3,rfl⟩);exact⟨_,_,rfl,.inr ⟨hrw,v,cs,by rw[hve];exact(hMr i t uC k1 k2).1,hpk,hc.flat1 (k:=i) (fun _ h=>h) (qre k3).1⟩,go hxs⟩
          have k3:qbm t=true:=(Bool.or_eq_true_iff.1 k3).resolve_right hrw;obtain⟨g,hg,hp0⟩:=(hMr i t uC k1 k2).2 k3;have hkv:∃K V,t=.map K V:=by
            cases t with
            |map K V=>exact⟨K,V,rfl⟩
            |_=>cases k3
          obtain⟨K,V',rfl⟩:=hkv;have hve:v=.map (some g):=(hs rfl).trans hg;have hc0:Con c.A p w (x.ev c.v) (.map K V') [(0,i * 16+1)] [SNK] cs:=hc;have hc1:Con c.A p w (x.ev c.v) (.map K V') [(0,i * 16+1)] [] cs:=by
            have h0:Fl c.A p w [SNK] (lkA [(0,i * 16+1)] 0) (x.ev c.v) (.map K V') cs:=hc0
            show Fl c.A p w [] (lkA [(0,i * 16+1)] 0) (x.ev c.v) (.map K V') cs
            rw[qa] at h0⊢;rcases h0 with⟨E,te,l,u,e0,-⟩|h0
            · cases e0
            · exact .inr h0
          have hc2:Fl c.A p w [] (lkA [(0,i * 16+1)] 0) (x.ev c.v) (.map K V') cs:=hc1;rw[qa] at hc2;rcases hc2 with⟨E,te,l,u,e0,-⟩|⟨K1,V1,kt,vt,l,g1,es,clock,e0,-,-,-,rfl,hg1,-⟩
          · cases e0
          · have hpv:[Value.map (some g1)]=[v]:=hpk;injection hpv with hpv;rw[hve] at hpv;injection hpv with hpv;injection hpv with hpv;subst hpv;exact⟨_,_,rfl,.inl ⟨g1,hp0,hg1,hc1⟩,go hxs⟩
        · cases h
      · cases h
    |_=>exact go h
theorem zni{w:World}{ct:Ct}(h:jc V A p w ct.all vs ds)(i:Nat)(t:Ty)(hm:(i,Ar.mref t)∈ct.all)(h1:i<ct.ar.length)(h2:i<VB)(h3:qbm t=true):∃g,vs.getD i undef=.map (some g)∧p (i * 16+1)=some g:=by
 have key:∀{l:List Ar}{k n:Nat}{r:Ar},(n,r)∈idx k l→k≤n∧l[n - k]? =some r:=by
  intro l
  induction l with
  |nil=>intro k n r h;cases h
  | cons x l ih =>
   intro k n r h;rcases uL.1 h with h|h
   ·injection h with e1 e2;subst e1 e2;exact⟨uB _,by simp⟩
   ·obtain⟨q1,q2⟩:=ih h;refine⟨by omega,?_⟩;rw[show n - k=(n - (k+1))+1 by omega];simpa using q2
 have pos:∀(l:List Ar)(k q:Nat),(idx k l)[q]? =l[q]?.map fun r=>(k+q,r):=by
  intro l
  induction l with
  |nil=>intro k q;simp[idx]
  | cons x l ih =>
   intro k q;cases q with
   |zero=>simp[idx]
   |succ q=>
    simp only[idx,uM,ih]
    congr 1
    funext r
    congr 1
    omega
 have hat:ct.all[i]? =some (i,.mref t):=by
  rcases kO.1 hm with hm|hm
  ·obtain⟨-,q⟩:=key hm;rw[Nat.sub_zero] at q;unfold Ct.all;rw[uG (by
    have:(idx 0 ct.ar).length=ct.ar.length:=by rw[←List.length_map (f:=(·.2)),z2k]
    omega),pos,q]
   simp
  ·have:=(key hm).1;omega
 have tab:∀(l:List (Nat×Ar))(j q:Nat)(e:Nat×Ar),l[q]? =some e→∃j',(qkp j l)[q]? =some (e.1,j',e.2):=by
  intro l
  induction l with
  |nil=>intro j q e h;simp at h
  | cons x l ih =>
   intro j q e h;cases q with
   |zero=>
    simp only[kC,uF] at h;subst h;exact⟨j,rfl⟩
   |succ q=>
    simp only[uM] at h;exact ih _ q e h
 obtain⟨j',hj⟩:=tab _ 0 _ _ hat;obtain⟨v,hv,-,cs,hpk,hc⟩:=qtf h hj;rw[gnG,hv];have hkv:∃K V,t=.map K V:=by
  cases t with
  |map K V=>exact⟨K,V,rfl⟩
  |_=>cases h3
 obtain⟨K,V',rfl⟩:=hkv;have hc2:Fl A p w [] (lkA [(0,i * 16+1)] 0) (ds.getD (j' - 0) .u) (.map K V') cs:=hc;rw[qa] at hc2;rcases hc2 with⟨E,te,l,u,e0,-⟩|⟨K1,V1,kt,vt,l,g1,es,clock,e0,-,-,-,rfl,hg1,-⟩
 ·cases e0
 ·have hpv:[Value.map (some g1)]=[v]:=hpk;injection hpv with hpv;exact⟨g1,hpv.symm,hg1⟩
end
def cxA(tbl:Tbl)(ct:Ct)(A:Nat→Prop)(F:Flr)(p:qj)(vs us:List Value)(ds:List D):Cx:=⟨evl (qf tbl) ds,A,F,ct.ar.length,fun k g=>(k<ct.ar.length∨VB≤k)→p (k * 16)=some g,fun k g hk h2 h=>absurd h (by omega),fun q=>(vs++us).getD q undef⟩
theorem qy1{ct:Ct}(hsz:ct.ar.length≤fn.ntmps){w:World}{us:List Value}(hfo:Flo F w w)(hpre:Pre ct.ar.length A F p w)(hvl:vs.length=ct.ar.length)(hargs:jc (vs++us) A p w ct.all (vs++us) ds):
  Bs (cxA tbl ct A F p vs us ds).A (cxA tbl ct A F p vs us ds).F w (pinned p) p w∧SF ((cxA tbl ct A F p vs us ds).at (qf tbl) ds) (qu3 ct) p w {tmps:=vs.toArray++kM (fn.ntmps - vs.toArray.size) undef,defers:=[]}:=by
 have hb0:Bs (cxA tbl ct A F p vs us ds).A (cxA tbl ct A F p vs us ds).F w (pinned p) p w:=⟨hpre.inj,hpre.bd,But.refl _ _,fun x b hx=>.inl ⟨x,hx⟩,hpre.new,hpre.pa,hpre.obj,hfo⟩;refine⟨hb0,fun t x hx=>?_,qrh (c:=(cxA tbl ct A F p vs us ds).at (qf tbl) ds) (A:=A) rfl (fun k=>rfl) hargs fun e he=>List.mem_iff_getElem?.1 he⟩;obtain⟨h1,h2⟩:=qrn (c:=(cxA tbl ct A F p vs us ds).at (qf tbl) ds) (A:=A) (n0:=ct.ar.length) rfl rfl rfl hargs (fun k=>rfl) _ _ t x hx;have hlt:t<vs.length:=by omega
 refine⟨(vs++us).getD t undef,?_,h2⟩
 show(vs.toArray++_)[t]? =_
 rw[Array.getElem?_append_left (by simpa using hlt),gnG,uG hlt];simp[gnK hlt]
theorem zbu{ct:Ct}{p':qj}{w w':World}{us:List Value}{l':List D}{σ':St}{a':Act}(hcA:c.A=A)(hcAt:c.At=fun k g=>(k<ct.ar.length∨VB≤k)→p (k * 16)=some g)(hcs:∀i,i<VB→c.snap i=(vs++us).getD i undef)(hargs:jc (vs++us) A p w ct.all (vs++us) ds)
  (hvl:vs.length=ct.ar.length)(hb':Bs c.A c.F w (pinned p) p' w')(hf':SF (c.at (qf tbl) l') σ' p' w' a'){xs:List X}(hfin:fin ct fn.results.toList σ'=some xs):
  ∃rs p2,(results fn a'.tmps).run uA w'=.ok (qiy rs) w'∧Bs A c.F w (pinned p) p2 w'∧qbj A p2 w' ct.rs ct.ar.length rs ((X.evs (evl (qf tbl) l') xs).take ct.rs.length)∧q49 (vs++us) A p p2 w' ct.all ((X.evs (evl (qf tbl) l') xs).drop ct.rs.length):=by
 subst hcA;generalize houts:X.evs (evl (qf tbl) l') xs=outs;unfold fin at hfin;simp only at hfin;split at hfin
 ·rename_i hok;simp only[gnB] at hok;split at hfin
  ·rename_i xa xb hxa hxb;injection hfin with hfin;subst hfin;have hb1:=hb'.un (fun y=> !zs ((qgu σ' (fn.results.toList.zip ct.rs) ct.ar.length++qca σ' ct.all).map (·.1)++(qa4 ct.all++q5j σ' fn.results.toList)) y);have hf1:=SF.un (c:=c.at (qf tbl) l') (q:=fun y=> !zs ((qgu σ' (fn.results.toList.zip ct.rs) ct.ar.length++qca σ' ct.all).map (·.1)++(qa4 ct.all++q5j σ' fn.results.toList)) y) hb'.inj hb'.pa hf';obtain⟨p2,hb2,hf2⟩:=qno (c:=c.at (qf tbl) l') hok.1 hb1 hf1;obtain⟨l,h1,h2,h3⟩:=qrv hf2 (gnN hok.2) hxa;have h4:=qr8 (p0:=p) (n0:=ct.ar.length) hf2 hcAt (fun e he=>z27 he) (VV:=vs++us) (fun i t hm h1 h2=>⟨by
    show _=some (c.snap i)
    rw[hcs i h2,gnG,uG (by omega),gnK (by omega)];rfl,fun h3=>by
    obtain⟨g,e1,e2⟩:=zni hargs i t hm h1 h2 h3;exact⟨g,(hcs i h2).trans e1,e2⟩⟩) hxb
   have hev:X.evs (evl (qf tbl) l') xa++X.evs (evl (qf tbl) l') xb=outs:=by rw[←qdm];exact houts
   have hla:(X.evs (evl (qf tbl) l') xa).length=ct.rs.length:=by rw[qhp,h3]
   refine⟨l,p2,qfy h1,hb2,?_,?_⟩
   ·rw[←hev,uV (by omega),←hla,uE];exact h2
   ·rw[←hev,←hla,List.drop_left];exact h4
  ·cases hfin
 ·cases hfin
theorem ztu{ct:Ct}(ann:Ann)(fn:Func)(cd:Code)(htb:q0v tbl)(hf:uA.funcs[ct.f]? =some fn)(hb:fn.body=some cd)(hsz:ct.ar.length≤fn.ntmps)
  {w:World}{us:List Value}(hfm:∀te,F.mx te≤flM tbl te)(hfo:Flo F w w)(hpre:Pre ct.ar.length A F p w)(hvl:vs.length=ct.ar.length)(hargs:jc (vs++us) A p w ct.all (vs++us) ds)
  (h:WfA ct.ars ds→(qg0 uA tbl ann ct fn cd).go (qf tbl) R ds fun _ _=>False){P:Ending→World→Prop}
  (hret:∀o rs p' w',R o→Bs A F w (pinned p) p' w'→qbj A p' w' ct.rs ct.ar.length rs (o.take ct.rs.length)→q49 (vs++us) A p p' w' ct.all (o.drop ct.rs.length)→P (.returned (qiy rs)) w')
  (hQ:∀e∈tbl,∀T,e.1.pn=some T→(∃ds,e.2 ds=some [.u])→∀w',But (pinned p) w w'→P (.panicked (qao T)) w')
  (hR:R [.u]→∀e∈tbl,∀T,e.1.pn=some T→∀w',But (pinned p) w w'→P (.panicked (qao T)) w'):cd.wp uA (bodyPost uA fn P) {tmps:=vs.toArray++kM (fn.ntmps - vs.toArray.size) undef,defers:=[]} w:=by
 obtain⟨hwf,hdl,-⟩:=hargs.wf;rw[all_map] at hwf hdl;have hgo:=h hwf;obtain⟨hb0,hsf⟩:=qy1 (tbl:=tbl) hsz hfo hpre hvl hargs;refine(wpIn_wide (n:=0)).1 ?_;refine qod none 0 (c:=cxA tbl ct A F p vs us ds) (S0:=pinned p) (w0:=w) (d:=[]) (z:=fn.ntmps) htb hfm cd hgo hdl hb0 hsf rfl (by simp;omega) (fun e he T h1 h2 a w2 h3 h4=>⟨h3,hQ e he T h1 h2 w2 h4⟩) (fun h0 e he T h1 a w2 h3 h4=>⟨h3,hR h0 e he T h1 w2 h4⟩) fun n' r σ' l' B' p' w' a' hl' hpre' hB hgo' hb' hf' hd' hz'=>?_;have fin':∀xs,fin ct fn.results.toList σ'=some xs→R (X.evs (evl (qf tbl) l') xs)→a'.defers=[]∧∃v,(results fn a'.tmps).run uA w'=.ok v w'∧P (.returned v) w':=by
  intro xs hfin hout;obtain⟨rs,p2,h1,h2,h3,h4⟩:=zbu (c:=cxA tbl ct A F p vs us ds) rfl rfl (fun _ _=>rfl) hargs hvl hb' hf' hfin;exact⟨hd',_,h1,hret _ rs p2 w' hout h2 h3 h4⟩
 cases r with
 |exit i=>exact hgo'.elim
 | normal =>
  simp only[qdx] at hgo';split at hgo'
  ·rename_i xs hx;exact fin' xs hx hgo'
  ·exact hgo'.elim
 | ret =>
  simp only[qdx] at hgo';split at hgo'
  ·rename_i xs hx;exact fin' xs hx hgo'
  ·exact hgo'.elim
theorem qt1{ct:Ct}(ann:Ann)(fn:Func)(cd:Code)(htb:q0v tbl)(hf:uA.funcs[ct.f]? =some fn)(hb:fn.body=some cd)(hsz:ct.ar.length≤fn.ntmps)
  {w:World}{us:List Value}(hfm:∀te,F.mx te≤flM tbl te)(hfo:Flo F w w)(hpre:Pre ct.ar.length A F p w)(hvl:vs.length=ct.ar.length)(hargs:jc (vs++us) A p w ct.all (vs++us) ds)
  (h:WfA ct.ars ds→(qg0 uA tbl ann ct fn cd).go (qf tbl) R ds fun _ _=>False){P:Ending→World→Prop}
  (hret:∀o rs p' w',R o→Bs A F w (pinned p) p' w'→qbj A p' w' ct.rs ct.ar.length rs (o.take ct.rs.length)→q49 (vs++us) A p p' w' ct.all (o.drop ct.rs.length)→P (.returned (qiy rs)) w')
  (hQ:∀e∈tbl,∀T,e.1.pn=some T→(∃ds,e.2 ds=some [.u])→∀w',But (pinned p) w w'→P (.panicked (qao T)) w')
  (hR:R [.u]→∀e∈tbl,∀T,e.1.pn=some T→∀w',But (pinned p) w w'→P (.panicked (qao T)) w'):Calls uA ct.f vs.toArray w P:=calls_of_wp hf hb (ztu ann fn cd htb hf hb hsz hfm hfo hpre hvl hargs h hret hQ hR)
def FlF(ct:Ct)(tbl:Tbl)(ds:List D):Prop:=∀F,qjt ct F ds→∀te,F.mx te≤flM tbl te
theorem FlF.none{ct:Ct}(h:ct.fl=[]):FlF ct tbl ds:=fun F hF te=>by rw[hF.zero h];exact kV _
theorem FlF.of{ct:Ct}(h:∀k j te,(k,j,te)∈ct.fl→k≠999∧((ds.getD k .u).fld j).rs.length≤flM tbl te):FlF ct tbl ds:=fun F hF te=>by
 rcases hF te with h0|⟨k,j,hm,h1⟩
 ·rw[h0];exact kV _
 ·obtain⟨h2,h3⟩:=h k j te hm;exact uK (h1.resolve_left h2) h3
def q01(f:FuncId)(te:Ty):Ct:={f:=f,ar:=[.val (.st 4242424243)],rs:=[(te,false)]}
theorem zs2{w:World}(h:Rd w P d (.st 4242424243) cs):False:=by
 cases d with
 |a l=>
  obtain⟨T,fs,e,hf,-⟩:=h;injection e with e;subst e;cases hf
 |u=>exact h
 |i n=>obtain⟨k,e,-⟩:=h;cases e
 |b x=>cases h.1
 |s x=>cases h.1
 |r l=>obtain⟨E,te,A,cap,e,-⟩:=h;cases e
 |mp l=>obtain⟨K,V,kt,vt,g,es,clock,e,-⟩:=h;cases e
theorem q21(f:FuncId)(hen:∀args w,(callFunc f args).run uA w=.ok (.enter f args) w)(te:Ty)(m:Nat):FOk (q01 f te) fun _=>some [.i m]:=
 ⟨hen,(fun A F p w vs us ds outs hg _ _ _ hvl hargs=>by
  obtain⟨v,r,d,ds',e1,e2,⟨cs,h1,h2⟩,-⟩:=hargs;exact(zs2 h2).elim),fun h=>absurd rfl h⟩
theorem ziv{ct:Ct}{g:List D→Option (List D)}(ann:Ann)(fn:Func)(cd:Code)(htb:q0v tbl)(hf:uA.funcs[ct.f]? =some fn)(hb:fn.body=some cd)
  (hen:∀args w,(callFunc ct.f args).run uA w=.ok (.enter ct.f args) w)(hsz:ct.ar.length≤fn.ntmps)
  (h:∀ds outs,WfA ct.ars ds→g ds=some outs→(qg0 uA tbl ann ct fn cd).go (qf tbl) (fun o=>o=outs) ds fun _ _=>False)(hnp:q9v tbl=true:=by rfl)(hkp:ct.kp=[]:=by rfl)(hfl:ct.fl=[]:=by rfl):FOk ct g:=
 ⟨hen,fun A F p w vs us ds outs hg hfo0 hfo hpre hvl hargs=>qt1 ann fn cd htb hf hb hsz (FlF.none hfl F hfo0) hfo hpre hvl hargs (fun hw=>h ds outs hw hg)
  (fun o rs p' w' ho h1 h2 h3=>.inr ⟨rs,p',rfl,h1,by rw[←ho];exact h2,by rw[←ho];exact h3⟩) (fun e he T hT=>(q9b hnp he hT).elim) (fun _ e he T hT=>(q9b hnp he hT).elim),fun h=>absurd hkp h⟩
def FAt(ct:Ct)(ds outs:List D):Prop:=∀(A:Nat→Prop)(F:Flr)(p:qj)(w:World)(vs us:List Value),qjt ct F ds→Flo F w w→Pre ct.ar.length A F p w→vs.length=ct.ar.length→jc (vs++us) A p w ct.all (vs++us) ds→
  Calls uA ct.f vs.toArray w fun e w'=>(∃T,ct.pn=some T∧outs=[.u]∧e=.panicked (qao T)∧But (pinned p) w w')∨∃rs p',e=.returned (qiy rs)∧Bs A F w (pinned p) p' w'∧qbj A p' w' ct.rs ct.ar.length rs (outs.take ct.rs.length)∧q49 (vs++us) A p p' w' ct.all (outs.drop ct.rs.length)
theorem FOk.of_at{ct:Ct}{g:List D→Option (List D)}(hen:∀args w,(callFunc ct.f args).run uA w=.ok (.enter ct.f args) w)(h:∀ds outs,WfA ct.ars ds→g ds=some outs→FAt ct ds outs)(hkp:ct.kp=[]:=by rfl):FOk ct g:=
 ⟨hen,fun A F p w vs us ds outs hg hfl hfo hpre hvl hargs=>h ds outs (by rw[←all_map];exact hargs.wf.1) hg A F p w vs us hfl hfo hpre hvl hargs,fun h=>absurd hkp h⟩
theorem zo3{ct:Ct}{outs:List D}(tbl:Flr→Tbl)(ann:Ann)(fn:Func)(cd:Code)(htb:∀F,q0v (tbl F))(hf:uA.funcs[ct.f]? =some fn)(hb:fn.body=some cd)(hsz:ct.ar.length≤fn.ntmps)
  (h:∀F,(qg0 uA (tbl F) ann ct fn cd).go (qf (tbl F)) (fun o=>o=outs) ds fun _ _=>False)(hnp:∀F,q9v (tbl F)=true)(hfm:∀F,qjt ct F ds→∀te,F.mx te≤flM (tbl F) te):FAt ct ds outs:=
 fun A F p w vs us hfl hfo hpre hvl hargs=>qt1 (tbl:=tbl F) ann fn cd (htb F) hf hb hsz (hfm F hfl) hfo hpre hvl hargs (fun _=>h F)
  (fun o rs p' w' ho h1 h2 h3=>.inr ⟨rs,p',rfl,h1,by rw[←ho];exact h2,by rw[←ho];exact h3⟩) (fun e he T hT=>(q9b (hnp F) he hT).elim) (fun _ e he T hT=>(q9b (hnp F) he hT).elim)
theorem z0z{ct:Ct}(ann:Ann)(fn:Func)(cd:Code)(htb:q0v tbl)(hf:uA.funcs[ct.f]? =some fn)(hb:fn.body=some cd)(hsz:ct.ar.length≤fn.ntmps)
  {outs:List D}(h:(qg0 uA tbl ann ct fn cd).go (qf tbl) (fun o=>o=outs) ds fun _ _=>False)(hnp:q9v tbl=true)(hfm:FlF ct tbl ds):FAt ct ds outs:=
 fun A F p w vs us hfl hfo hpre hvl hargs=>qt1 ann fn cd htb hf hb hsz (hfm F hfl) hfo hpre hvl hargs (fun _=>h)
  (fun o rs p' w' ho h1 h2 h3=>.inr ⟨rs,p',rfl,h1,by rw[←ho];exact h2,by rw[←ho];exact h3⟩) (fun e he T hT=>(q9b hnp he hT).elim) (fun _ e he T hT=>(q9b hnp he hT).elim)
theorem q0v.nil:q0v []:=fun e he=>by cases he
theorem q0v.cons{ct:Ct}{g:List D→Option (List D)}{l:Tbl}(h:FOk ct g)(hl:q0v l):q0v ((ct,g)::l):=fun e he=>by
 rcases uL.1 he with rfl|he
 ·exact h
 ·exact hl e he
end
variable{E:TypeId}
theorem Wf.row(h:Wf d (.row E)):∃l te,d=.r l∧qm E=some te∧l.length≤LM te∧∀x∈l,Wf x te:=by
 obtain⟨w,F,cs,h⟩:=h;cases d with
 |r l=>
  obtain⟨E',te,A,cap,e,hte,e3,h1,h2,-,hR⟩:=h;injection e with e;subst e;refine⟨l,te,rfl,hte,h2,fun x hx=>?_⟩;obtain⟨i,hi,rfl⟩:=List.mem_iff_getElem.1 hx;obtain⟨b,o,c,-,-,-,hr⟩:=q1r.1 hR i hi;exact⟨w,F,c,hr⟩
 |u=>exact h.elim
 |i n=>obtain⟨k,e,-⟩:=h;cases e
 |b x=>cases h.1
 |s x=>cases h.1
 |a l=>obtain⟨T',fs0,e1,-⟩:=h;cases e1
 |mp l=>obtain⟨K,V,kt,vt,g,es,clock,e,-⟩:=h;cases e
theorem Wf.int{k:IntKind}(h:Wf d (.int k)):∃n,d=.i n∧ji k n=true:=by
 obtain⟨w,F,cs,h⟩:=h;cases d with
 |i n=>
  obtain⟨k',e,-,hr⟩:=h;injection e with e;subst e;exact⟨n,rfl,hr⟩
 |u=>exact h.elim
 |r l=>obtain⟨E,te,A,cap,e,-⟩:=h;cases e
 |b x=>cases h.1
 |s x=>cases h.1
 |a l=>obtain⟨T',fs0,e1,-⟩:=h;cases e1
 |mp l=>obtain⟨K,V,kt,vt,g,es,clock,e,-⟩:=h;cases e
theorem Wf.str(h:Wf d .str):∃x,d=.s x∧x.size≤LIM:=by
 obtain⟨w,F,cs,h⟩:=h;cases d with
 |s x=>exact⟨x,rfl,h.2.2⟩
 |u=>exact h.elim
 |r l=>obtain⟨E,te,A,cap,e,-⟩:=h;cases e
 |i n=>obtain⟨k,e,-⟩:=h;cases e
 |b x=>cases h.1
 |a l=>obtain⟨T',fs0,e1,-⟩:=h;cases e1
 |mp l=>obtain⟨K,V,kt,vt,g,es,clock,e,-⟩:=h;cases e
def WfL:List D→List Ty→Prop
 |[],fs=>fs=[]
 |d::ds,fs=>∃t ts,fs=t::ts∧Wf d t∧WfL ds ts
theorem RdF.wf{w:World}{F:Nat→Prop}:∀{ds:List D}{fs:List Ty}{cs:List Value},RdF w F ds fs cs→WfL ds fs
 |[],fs,cs,h=>h.1
 |d::ds,fs,cs,h=>by
  obtain⟨t,ts,c1,c2,e1,-,h1,h2⟩:=h;exact⟨t,ts,e1,⟨w,F,c1,h1⟩,RdF.wf h2⟩
theorem Wf.st{S:TypeId}(h:Wf d (.st S)):∃ds fs,d=.a ds∧flds S=some fs∧WfL ds fs:=by
 obtain⟨w,F,cs,h⟩:=h;cases d with
 |a l=>
  obtain⟨T',fs0,e1,e2,h⟩:=h;injection e1 with e1;subst e1;exact⟨l,fs0,rfl,e2,RdF.wf h⟩
 |u=>exact h.elim
 |r l=>obtain⟨E,te,A,cap,e,-⟩:=h;cases e
 |i n=>obtain⟨k,e,-⟩:=h;cases e
 |b x=>cases h.1
 |s x=>cases h.1
 |mp l=>obtain⟨K,V,kt,vt,g,es,clock,e,-⟩:=h;cases e
def zmf(e:Ev):List X→Bool
 |[]=>true
 |x::l=>(x.ev e).tt&&zmf e l
theorem zc0:∀{l:List X},zmf e l=true→q0s e l
 |[],_=>trivial
 |x::l,h=>by
  simp only[zmf,gnB] at h;exact⟨h.1,zc0 h.2⟩
def itf(f:List D→Option (Nat×List D))(id:Nat):Nat→List D→Option (Nat×List D)
 |0,_=>none
 |k+1,st=>match f st with
  |some (j,st')=>if uJ j (id+1) then itf f id k st' else some (j,st')
  |none=>none
def z2r:Nat×List D→Nat×List D→Bool:=fun a b=>uJ a.1 b.1&&D.beqs a.2 b.2
def Tree.den(S:Nat→List D→Option (List D))(fuel:Nat):Tree→List D→Option (Nat×List D)
 |.bad _,_=>none
 |.need ns t,l=>if zmf (evl S l) ns then t.den S fuel l else none
 |.br x t e,l=>if(x.ev (evl S l)).tt then t.den S fuel l else e.den S fuel l
 | .amb x neg t e, l => if (x.ev (evl S l)).rs.isEmpty then (match t.den S fuel l, e.den S fuel l with
   |some a,some b=>if z2r a b then some a else none
   |_,_=>none) else if neg then t.den S fuel l else e.den S fuel l
 |.leaf xs,l=>some (0,X.evs (evl S l) xs)
 |.back id xs,l=>some (id+1,X.evs (evl S l) xs)
 |.loop id n init body,l=>itf (fun st=>body.den S fuel (l.take n++st)) id fuel (X.evs (evl S l) init)
def zpg(R:List D→Prop)(B:Nat→List D→Prop):Nat×List D→Prop
  |(0,xs)=>R xs
  |(id+1,xs)=>B id xs
theorem zb7:∀{l m:List D},D.beqs l m=true→l=m
 |[],[],_=>rfl
 |x::l,y::m,h=>by
  simp only[D.beqs,gnB] at h;rw[(D.beq_iff _ _).1 h.1,zb7 h.2]
 |[],_::_,h=>by simp[D.beqs] at h
 |_::_,[],h=>by simp[D.beqs] at h
theorem z7u{a b:Nat×List D}(h:z2r a b=true):a=b:=by
 obtain⟨i,l⟩:=a;obtain⟨j,m⟩:=b;simp only[z2r,gnB] at h;rw[gnN h.1,zb7 h.2]
theorem z3u(h:∃k,P k):∃m,P m∧∀k,P k→m≤k:=by
 obtain⟨k,hk⟩:=h
 induction k using Nat.strongRecOn with
 | _ k ih =>
  by_cases hl:∃j,j<k∧P j
  ·obtain⟨j,hj,hp⟩:=hl;exact ih j hj hp
  ·exact⟨k,hk,fun j hj=>Nat.le_of_not_lt fun hlt=>hl ⟨j,hlt,hj⟩⟩
open Classical in
noncomputable def qj3(P:Nat→Prop):Nat:=if h:∃k,P k then(z3u h).choose else 0
theorem qy2(h:∃k,P k):P (qj3 P)∧∀k,P k→qj3 P≤k:=by
 unfold qj3;rw[dif_pos h];exact(z3u h).choose_spec
variable{fuel:Nat}
theorem ze3:∀(t:Tree){l:List D}{B:Nat→List D→Prop}{out:Nat×List D},t.den S fuel l=some out→zpg R B out→t.go S R l B:=by
 intro t
 induction t with
 |bad n=>intro l B out h;cases h
 | need ns t ih =>
  intro l B out h ho;unfold Tree.den at h;split at h
  ·rename_i hs;exact⟨zc0 hs,ih h ho⟩
  ·cases h
 | br x t e iht ihe =>
  intro l B out h ho;unfold Tree.den at h;refine⟨fun hx=>?_,fun hx=>?_⟩
  ·rw[if_pos hx] at h;exact iht h ho
  ·rw[if_neg (by rw[hx];decide)] at h;exact ihe h ho
 | amb x neg t e iht ihe =>
  intro l B out h ho;unfold Tree.den at h;split at h
  ·split at h
   ·rename_i a b ha hb;split at h
    ·rename_i hs;injection h with h;subst h;have:=z7u hs;subst this;exact⟨fun _=>iht ha ho,fun _=>ihe hb ho⟩
    ·cases h
   ·cases h
  ·rename_i hne;have hne':¬(x.ev (evl S l)).rs=[]:=fun e=>hne (by rw[e];rfl);split at h
   ·rename_i hn;exact⟨fun _=>iht h ho,fun hc=>absurd (hc hn) hne'⟩
   ·rename_i hn;exact⟨fun hc=>absurd (hc (by simpa using hn)) hne',fun _=>ihe h ho⟩
 |leaf xs=>
  intro l B out h ho;simp only[Tree.den,uF] at h;subst h;exact ho
 |back id xs=>
  intro l B out h ho;simp only[Tree.den,uF] at h;subst h;exact ho
 | loop id n init body ih =>
  intro l B out h ho;unfold Tree.den at h;generalize hf:(fun st=>body.den S fuel (l.take n++st))=f at h;have hfe:∀st,body.den S fuel (l.take n++st)=f st:=fun st=>by rw[←hf]
  -- more rounds answer alike
  have mono:∀k st o,itf f id k st=some o→itf f id (k+1) st=some o:=by
   intro k
   induction k with
   |zero=>intro st o h;cases h
   | succ k ihk =>
    intro st o h;unfold itf at h⊢;split at h
    ·rename_i j st' hj;split at h
     ·rename_i hb;rw[if_pos hb];exact ihk _ _ h
     ·rename_i hb;rw[if_neg hb];exact h
    ·cases h
  refine⟨fun st=>∃k o,itf f id k st=some o∧zpg R B o,fun st=>qj3 fun k=>(itf f id k st).isSome=true,⟨fuel,out,h,ho⟩,?_⟩;rintro st - ⟨k,o,hk,hoo⟩;have hex:∃k,(itf f id k st).isSome=true:=⟨k,by rw[hk];rfl⟩;obtain⟨hmin,-⟩:=qy2 hex;obtain⟨o',ho'⟩:=uX.1 hmin;have up:∀a b st o,itf f id a st=some o→itf f id (a+b) st=some o:=by
   intro a b
   induction b with
   |zero=>intro st o h;exact h
   |succ b ihb=>intro st o h;exact mono _ _ _ (ihb st o h)
  have hoo':o'=o:=by
   have h1:=up _ k st o' ho';have h2:=up k (qj3 fun k=>(itf f id k st).isSome=true) st o hk;rw[Nat.add_comm] at h2;exact gnI (h1.symm.trans h2)
  rw[hoo'] at ho';cases hm:qj3 (fun k=>(itf f id k st).isSome=true) with
  |zero=>rw[hm] at ho';cases ho'
  | succ m =>
   rw[hm] at ho';unfold itf at ho';split at ho'
   ·rename_i j st' hj;refine ih ((hfe st).trans hj) ?_;split at ho'
    ·rename_i hb;obtain rfl:=gnN hb
     show jv B id _ id st'
     unfold jv;rw[if_pos rfl];refine⟨⟨m,o,ho',hoo⟩,?_⟩;have hex':∃k,(itf f id k st').isSome=true:=⟨m,by rw[ho'];rfl⟩
     show _<qj3 (fun k=>(itf f id k st).isSome=true)
     rw[hm];exact Nat.lt_succ_of_le ((qy2 hex').2 m (by rw[ho'];rfl))
    ·rename_i hb;injection ho' with ho';subst ho';cases j with
     |zero=>exact hoo
     | succ j =>
      show jv B id _ j st'
      unfold jv;rw[if_neg]
      ·exact hoo
      ·intro e;subst e;exact hb (kT _)
   ·cases ho'
def zib:Option (Nat×List D)→Option (List D)
 |some (0,xs)=>some xs
 |_=>none
theorem zg4{o:Option (Nat×List D)}{xs:List D}(h:zib o=some xs):o=some (0,xs):=by
 unfold zib at h;split at h
 ·injection h with h;rw[h]
 ·cases h
def qaz(tbl:Tbl)(fuel:Nat)(t:Tree):List D→Option (List D):=fun ds=>zib (t.den (qf tbl) fuel ds)
theorem q1b{t:Tree}{outs:List D}(h:qaz tbl fuel t ds=some outs):t.go (qf tbl) (fun o=>o=outs) ds fun _ _=>False:=
 ze3 t (zg4 h) rfl
def upN(G:(List D→Option (List D))→List D→Option (List D)):Nat→List D→Option (List D)
 |0=>fun _=>none
 |n+1=>G (upN G n)
variable{ct:Ct}
theorem FOk.none(hen:∀args w,(callFunc ct.f args).run uA w=.ok (.enter ct.f args) w):FOk ct fun _=>Option.none:=⟨hen,fun A F p w vs us ds outs h=>(by cases h),fun _ A F p w vs us ds outs h=>(by cases h)⟩
theorem qvg{G:(List D→Option (List D))→List D→Option (List D)}(hen:∀args w,(callFunc ct.f args).run uA w=.ok (.enter ct.f args) w)(h:∀g,FOk ct g→FOk ct (G g)):∀n,FOk ct (upN G n)
 |0=>FOk.none hen
 |n+1=>h _ (qvg hen h n)
def q3l(m:List D→Nat)(n:Nat)(g:List D→Option (List D)):List D→Option (List D):=fun ds=>if m ds<n then g ds else none
theorem qa2{m:List D→Nat}{g:List D→Option (List D)}(hen:∀args w,(callFunc ct.f args).run uA w=.ok (.enter ct.f args) w)(h:∀n,FOk ct (q3l m n g)→FOk ct (q3l m (n+1) g)):FOk ct g:=by
 have key:∀n,FOk ct (q3l m n g):=by
  intro n
  induction n with
  |zero=>exact⟨hen,fun A F p w vs us ds outs h=>(by simp[q3l] at h),fun _ A F p w vs us ds outs h=>(by simp[q3l] at h)⟩
  |succ n ih=>exact h n ih
 refine⟨hen,fun A F p w vs us ds outs hg f1 f2 hp hl ha=>(key (m ds+1)).call A F p w vs us ds outs ?_ f1 f2 hp hl ha,fun hk A F p w vs us ds outs hg f1 f2 hp hl ha=>(key (m ds+1)).keep hk A F p w vs us ds outs ?_ f1 f2 hp hl ha⟩<;>
 ·simp only[q3l,if_pos (kN _)];exact hg
theorem FOk.sub{g g':List D→Option (List D)}(h:FOk ct g)(hs:∀ds outs,g' ds=some outs→g ds=some outs):FOk ct g':=⟨h.enter,fun A F p w vs us ds outs hg f1 f2 hp hl ha=>h.call A F p w vs us ds outs (hs ds outs hg) f1 f2 hp hl ha,fun hk A F p w vs us ds outs hg f1 f2 hp hl ha=>h.keep hk A F p w vs us ds outs (hs ds outs hg) f1 f2 hp hl ha⟩
section
section
variable{A A':Nat→Prop}{F:Flr}{p:qj}{w:World}(hA:∀b,b<w.heap.size→A b→A' b)
include hA
theorem FFD.chA{b:Nat}(hb:b<w.heap.size)(h:FFD A p dep b):FFD A' p dep b:=by
 rcases h with⟨h1,h2⟩|h
 ·exact .inl ⟨hA b hb h1,h2⟩
 ·exact .inr h
theorem Rd.chA{t:Ty}(h:Rd w (FFD A p dep) d t cs):Rd w (FFD A' p dep) d t cs:=Rd.mono (fun b hb hf=>hf.chA hA hb) h
theorem Fl.chA{o:Option Nat}{t:Ty}(h:Fl A p w dep o d t cs):Fl A' p w dep o d t cs:=by
 cases o with
 |none=>exact Rd.chA hA h
 | some pin =>
  rcases h with⟨E,te,l,v,e1,hte,e2,e3,hv⟩|h
  ·refine .inl ⟨E,te,l,v,e1,hte,e2,e3,?_⟩;rcases hv with hv|⟨g,cap,cur,e4,hg,hh,q1,q2,q3,q4,q5⟩
   ·exact .inl hv
   ·refine .inr ⟨g,cap,cur,e4,hg,hh,q1,q2,q3,q4,fun i hi=>?_⟩;obtain⟨vs,hr1,hd⟩:=q5 i hi;exact⟨vs,hr1,Rd.chA hA hd⟩
  ·exact .inr h
theorem Fls.chA{own:List (Nat×Nat)}:∀{ds:List D}{j:Nat}{fs:List Ty}{cs:List Value},Fls A p w dep own j ds fs cs→Fls A' p w dep own j ds fs cs
 |[],_,_,_,h=>h
 |d::ds,j,fs,cs,⟨t,ts,c1,c2,e1,e2,h1,h2⟩=>⟨t,ts,c1,c2,e1,e2,Fl.chA hA h1,Fls.chA h2⟩
theorem Con.chA{own:List (Nat×Nat)}{t:Ty}(h:Con A p w d t own dep cs):Con A' p w d t own dep cs:=by
 unfold Con at h⊢;split
 ·obtain⟨fs,ds,hf,e,h⟩:=h;exact⟨fs,ds,hf,e,Fls.chA hA h⟩
 ·rename_i hne;split at h
  ·rename_i T;exact absurd rfl (hne T)
  ·exact Fl.chA hA h
end
mutual
/-- No word of a snapshot within. -/
def AV.plain:AV→Bool
 |.sn _ _=>false
 |.pt _ _ _ _=>false
 |.ar _ _ _=>false
 |.lv _ _=>false
 |.ax _ _ _ _=>false
 |.tup l=>qgy l
 |.gd _ a=>AV.plain a
 |.fn _ l=>qgy l
 |.bx _ _ a=>AV.plain a
 |.fr _ a=>AV.plain a
 |.ff _ _ _ _ _ _ _ _=>true
 |_=>true
def qgy:List AV→Bool
 |[]=>true
 |a::l=>AV.plain a&&qgy l
end
section
variable{c c':Cx}{p:qj}{w:World}
mutual
theorem AV.chA(hA:∀b,b<w.heap.size→c.A b→c'.A b)(hv:c.v=c'.v)(hT:c.At=c'.At)(hF:c.F=c'.F):∀(x:AV)(v:Value),x.plain=true→x.pd c p w v→x.pd c' p w v
 |.any,v,_,h=>h
 |.undef,v,_,h=>h
 |.nilS,v,_,h=>h
 |.nb x neg,v,_,⟨b,e,h⟩=>⟨b,e,by rw[←hv];exact h⟩
 |.nilP,v,_,h=>h
 |.ref k q o t,v,_,⟨g,hg,e,ha⟩=>⟨g,hg,e,by rw[←hT];exact ha⟩
 |.v x t own dep,v,_,⟨cs,hp,hc⟩=>⟨cs,hp,by rw[←hv];exact hc.chA hA⟩
 | .rd x t dep wr, v, _, ⟨b, o, cs, e, hf, hr, h0, hd, hw⟩ => by
  refine⟨b,o,cs,e,hf.chA hA (qe7 hr h0),hr,h0,by rw[←hv];exact Rd.chA hA hd,?_⟩
  match wr,hw with
  |none,_=>trivial
  |some (pin,i,pt,q,te),hw=>
   refine⟨hw.1,?_⟩;rw[←hv];exact hw.2
 |.tup l,v,hb,⟨vs,e,h⟩=>⟨vs,e,z2q hA hv hT hF l vs (by simpa[AV.plain] using hb) h⟩
 |.gd cs a,v,hb,h=>by
  rw[show AV.pd c' p w (.gd cs a) v=((hold c'.v cs=true→AV.pd c' p w a v)∧(hold c'.v cs=false→v=Go.undef)) from rfl,←hv];exact⟨fun hc=>AV.chA hA hv hT hF a v (by simpa[AV.plain] using hb) (h.1 hc),h.2⟩
 |.fn f l,v,hb,⟨vs,e,h⟩=>⟨vs,e,z2q hA hv hT hF l vs (by simpa[AV.plain] using hb) h⟩
 |.bx k T a,v,hb,⟨g,u,hg,e,hh,h⟩=>⟨g,u,⟨hg.1,by rw[←hT];exact hg.2⟩,e,hh,AV.chA hA hv hT hF a u (by simpa[AV.plain] using hb) h⟩
 |.sn t a,v,hb,h=>by simp[AV.plain] at hb
 |.pt _ _ _ _,v,hb,h=>by simp[AV.plain] at hb
 |.ar _ _ _,v,hb,h=>by simp[AV.plain] at hb
 |.lv _ _,v,hb,h=>by simp[AV.plain] at hb
 |.ax _ _ _ _,v,hb,h=>by simp[AV.plain] at hb
 |.fr T a,v,hb,⟨g,u,ha,hf,e,hh,h⟩=>⟨g,u,hA g (Array.getElem?_eq_some_iff.1 hh).1 ha,hf,e,hh,AV.chA hA hv hT hF a u (by simpa[AV.plain] using hb) h⟩
 |.ff f T1 x1 t1 T2 x2 t2 dep,v,_,⟨g,cs1,cs2,e,ha,hb,hfr,hg,hg2,r1,r2⟩=>⟨g,cs1,cs2,e,⟨hA g (qt hg) ha.1,ha.2⟩,⟨hA (g+1) (qt hg2) hb.1,hb.2⟩,by rw[←hF];exact hfr,hg,hg2,by rw[←hv];exact Rd.mono (fun b hb h=>⟨h.1.imp (fun y=>⟨hA b hb y.1,y.2⟩) id,h.2⟩) r1,by rw[←hv];exact Rd.mono (fun b hb h=>⟨h.1.imp (fun y=>⟨hA b hb y.1,y.2⟩) id,h.2⟩) r2⟩
theorem z2q(hA:∀b,b<w.heap.size→c.A b→c'.A b)(hv:c.v=c'.v)(hT:c.At=c'.At)(hF:c.F=c'.F):∀(l:List AV)(vs:List Value),qgy l=true→pds c p w l vs→pds c' p w l vs
 |[],vs,_,h=>h
 |a::l,vs,hb,⟨v,r,e,ha,hl⟩=>by
  simp only[qgy,gnB] at hb;exact⟨v,r,e,AV.chA hA hv hT hF a v hb.1 ha,z2q hA hv hT hF l r hb.2 hl⟩
end
theorem q1v.chA(hA:∀b,b<w.heap.size→c.A b→c'.A b)(hv:c.v=c'.v){k:Nat}{e:Ent}(h:q1v c p w k e):q1v c' p w k e:=by
 obtain⟨g,cs,T,hg,hh,hty,hc⟩:=h;exact⟨g,cs,T,hg,hh,hty,by rw[←hv];exact hc.chA hA⟩
def zk1(l:List (Nat×AV)):Bool:=l.all fun e=>e.2.plain
end
section
variable{A:Nat→Prop}{F:Flr}{p p':qj}{w w' w0:World}{S0:Nat→Prop}
theorem Bs.anew(h:Bs A F w0 S0 p w):Bs A F w (pinned p) p w:=
 ⟨h.inj,h.bd,But.refl _ _,fun x b hx=>.inl ⟨x,hx⟩,fun b hb=>h.new b (uK h.but.size hb),h.pa,h.obj,h.flo.anew⟩
theorem Bs.comp(h:Bs A F w0 S0 p w)(h':Bs A F w (pinned p) p' w'):Bs A F w0 S0 p' w':=by
 refine⟨h'.inj,h'.bd,⟨h'.but.os.trans h.but.os,h'.but.tape.trans h.but.tape,h'.but.output.trans h.but.output,uK h.but.size h'.but.size,fun k hk hn=>?_⟩,fun x b hx=>?_,h.new,h'.pa,h'.obj,h.flo.trans h'.flo⟩
 ·have hkw:k<w.heap.size:=kI hk h.but.size;refine(h'.but.block k hkw fun⟨x,hx⟩=>?_).trans (h.but.block k hk hn);rcases h.pin x k hx with h1|h1
  ·exact hn h1
  ·omega
 ·rcases h'.pin x b hx with⟨y,hy⟩|h1
  ·exact h.pin y b hy
  ·exact .inr (uK h.but.size h1)
theorem Bs.stays(h':Bs A F w (pinned p) p' w'){b:Nat}(hb:b<w.heap.size)(hf:q7h p b):w'.heap[b]? =w.heap[b]?∧q7h p' b:=by
 refine⟨h'.but.block b hb fun⟨x,hx⟩=>hf x hx,fun x hx=>?_⟩;rcases h'.pin x b hx with⟨y,hy⟩|h1
 ·exact hf y hy
 ·omega
end
end
section
section
variable{c:Cx}{p:qj}{w w' w0:World}{S0:Nat→Prop}{a:Act}{σ σ':St}{d:List Deferred}{z:Nat}{tbl:Tbl}{A:Nat→Prop}{F:Flr}
theorem ze5{l:Nat}(hA:¬A l)(pa:∀x b,p x=some b→A b)(o:Obj):Stab A no no p w p (w.putObj l o):=by
 refine⟨by simp,fun b hb ha hf=>⟨uH (fun e=>hA (e▸ha)),hf⟩,fun x b _ hx=>hx,fun x b _ hx=>uH (fun e=>hA (e▸pa x b hx))⟩
theorem SF.same(hs:Stab c.A no no p w p w')(h:SF c σ p w a):SF c σ p w' a:=by
 refine⟨fun t x hx=>?_,fun k e he=>(h.m k e he).kept hs (fun _ _=>⟨rfl,rfl⟩) ⟨rfl,rfl⟩⟩;obtain⟨v,h1,h2⟩:=h.t t x hx;exact⟨v,h1,AV.kept hs x v (fun _ _=>⟨rfl,rfl⟩) (fun _ _=>rfl) h2⟩
end
end
variable{S0:Nat→Prop}
section
def qsp(D:Nat):Deferred:={target:=.collected D,args:= #[]}
def Dfs(A:Nat→Prop)(lb:Nat)(d:List Deferred)(w:World)(ds:List Deferred):Prop:=∃Ds:List Nat,ds=Ds.map qsp++d∧Ds.Nodup∧∀D∈Ds,lb≤D∧w.heap[D]? =some (.deferred (some []))∧¬A D
theorem Bs.up{A':Nat→Prop}{p':qj}{w w' w0:World}(h:Bs A F w0 S0 p w)(h':Bs A' F w (pinned p) p' w')(hA:∀b,A' b→A b):Bs A F w0 S0 p' w':=
 h.comp ⟨h'.inj,h'.bd,h'.but,h'.pin,fun b hb=>h.new b (uK h.but.size hb),fun x b hx=>hA b (h'.pa x b hx),h'.obj,h'.flo⟩
section
variable{lo z:Nat}{tbl:Tbl}
end
end
def shut(w:World)(D:Nat):World:=w.putObj D (.deferred none)
def q1z(w:World)(Ds:List Nat):World:=Ds.foldl shut w
theorem z00{F:Fence}{n:Nat}{R:Ending→World→Prop}:∀(Ds:List Nat)(w:World),Ds.Nodup→(∀D∈Ds,w.heap[D]? =some (.deferred (some [])))→LeavesIn F n uA fn tmps R [] .returning (q1z w Ds)→LeavesInM F n uA fn tmps R (Ds.map qsp) .returning w
 |[],w,_,_,h=>h
 |D::Ds,w,hn,hd,h=>by
  obtain⟨h1,h2⟩:=List.nodup_cons.1 hn;exact⟨by simp,.inl ⟨D,_,rfl,run_takeDeferred (hd D uC),z00 Ds _ h2 (fun D' hD'=>(uH (fun e=>h1 (by rw[←e];exact hD'))).trans (hd D' (uD _ hD'))) h⟩⟩
theorem qjo(pa:∀x b,p x=some b→A b):∀(Ds:List Nat)(w:World),(∀D∈Ds,¬A D)→Stab A no no p w p (q1z w Ds)
 |[],w,_=>Stab.refl _ _ _ _ _
 |D::Ds,w,h=>by
  have h1:=ze5 (w:=w) (h D uC) pa (.deferred none);have h2:=qjo pa Ds (w.putObj D (.deferred none)) fun D' hD'=>h D' (uD _ hD');exact⟨uK h1.size h2.size,fun b hb ha hf=>⟨(h2.free b (kI hb h1.size) ha hf).1.trans (h1.free b hb ha hf).1,hf⟩,fun x b _ hx=>hx,fun x b _ hx=>(h2.con x b rfl hx).trans (h1.con x b rfl hx)⟩
theorem qug{A':Nat→Prop}(hfz:∀te,F.mx te=0){w0:World}(pa:∀x b,p x=some b→A' b):∀(Ds:List Nat)(w:World),Bs A F w0 S0 p w→(∀D∈Ds,w0.heap.size≤D∧¬A' D)→Bs A F w0 S0 p (q1z w Ds)
 |[],w,h,_=>h
 |D::Ds,w,h,hD=>by
  obtain⟨h1,h2⟩:=hD D uC;refine qug hfz pa Ds (w.putObj D (.deferred none)) ⟨h.inj,fun x b hx=>by simpa using h.bd x b hx,⟨h.but.os,h.but.tape,h.but.output,by simpa using h.but.size,fun k hk hn=>(uH (by omega)).trans (h.but.block k hk hn)⟩,h.pin,h.new,h.pa,fun x b hx=>(h.obj x b hx).same (uH (fun e=>h2 (by rw[←e];exact pa x b hx))),Flo.of0 hfz h.flo⟩ fun D' hD'=>hD D' (uD _ hD')
theorem qbj.chA{A':Nat→Prop}{w:World}(hA:∀b,b<w.heap.size→A b→A' b):∀{rs:List (Ty×Bool)}{k:Nat}{vs:List Value}{ds:List D},qbj A p w rs k vs ds→qbj A' p w rs k vs ds
  |[],_,_,_,h=>h
  |(t,own)::l,k,vs,ds,⟨v,r,d,ds',e1,e2,⟨cs,hp,hc⟩,h⟩=>⟨v,r,d,ds',e1,e2,⟨cs,hp,hc.chA hA⟩,qbj.chA hA h⟩
theorem q49.chA{A':Nat→Prop}{p':qj}{w:World}(hA:∀b,b<w.heap.size→A b→A' b):∀{all:List (Nat×Ar)}{ds:List D},q49 V A p p' w all ds→q49 V A' p p' w all ds
  |[],_,h=>h
  | (i, r) :: l, ds, h => by
    cases r with
    | ref t o =>
      obtain⟨d,ds',e,⟨g,cs,T,h1,h2,h3,hty,hc⟩,h⟩:=h;exact⟨d,ds',e,⟨g,cs,T,h1,h2,h3,hty,hc.chA hA⟩,q49.chA hA h⟩
    | mref t =>
      obtain⟨d,ds',e,hq,h⟩:=h;exact⟨d,ds',e,hq.imp (fun⟨g,h1,h2,hc⟩=>⟨g,h1,h2,hc.chA hA⟩) (fun⟨h0,v,cs,h1,h2,hc⟩=>⟨h0,v,cs,h1,h2,hc.chA hA⟩),q49.chA hA h⟩
    |_=>exact q49.chA hA (all:=l) h
def zty:Ar→Bool
 |.mref _=>false
 |_=>true
section
theorem j4(n:Int):(D.i n).int=n:=rfl
theorem q5y(x:Bool):(D.b x).tt=x:=by cases x<;>rfl
theorem q7i(l:List D):(D.r l).rs=l:=rfl
theorem zvl(l:List D):(D.a l).fs=l:=rfl
theorem q7o(x:ByteArray):(D.s x).str=x:=rfl
theorem zc7(l:List D):(D.mp l).ms=l:=rfl
theorem q9e(m n:Int):(D.i m=D.i n)=(m=n):=by simp
theorem zpl(m n:Bool):(D.b m=D.b n)=(m=n):=by simp
theorem zpq(m n:ByteArray):(D.s m=D.s n)=(m=n):=by simp
theorem qg{S:Nat→List D→Option (List D)}{R:List D→Prop}{ns:List X}{t:Tree}{l:List D}{B:Nat→List D→Prop}:(Tree.need ns t).go S R l B=(q0s (evl S l) ns∧t.go S R l B):=rfl
theorem z8{S:Nat→List D→Option (List D)}{R:List D→Prop}{x:X}{t e:Tree}{l:List D}{B:Nat→List D→Prop}:(Tree.br x t e).go S R l B=(((x.ev (evl S l)).tt=true→t.go S R l B)∧((x.ev (evl S l)).tt=false→e.go S R l B)):=rfl
theorem q4o{S:Nat→List D→Option (List D)}{R:List D→Prop}{xs:List X}{l:List D}{B:Nat→List D→Prop}:(Tree.leaf xs).go S R l B=R (X.evs (evl S l) xs):=rfl
theorem z20{S:Nat→List D→Option (List D)}{R:List D→Prop}{id:Nat}{xs:List X}{l:List D}{B:Nat→List D→Prop}:(Tree.back id xs).go S R l B=B id (X.evs (evl S l) xs):=rfl
theorem zx{id n:Nat}{init:List X}{body:Tree}{l:List D}:(Tree.loop id n init body).go S R l B=∃(I:List D→Prop)(μ:List D→Nat),I (X.evs (evl S l) init)∧
   ∀st,st.length=init.length→I st→body.go S R (l.take n++st) (jv B id fun st'=>I st'∧μ st'<μ st):=rfl
theorem q46{n:Int}:ji .i64 n=true↔-9223372036854775808≤n∧n≤9223372036854775807:=by simp[ji]
section
variable{α:Type}[Inhabited α]
theorem get_map(e:α→D){l:List α}(h:i<l.length):(l.map e).getD i .u=e (l.getD i default):=by
 simp[gnG,h]
theorem zb0(e:α→D){l:List α}{i:Int}(h0:0≤i)(h:i<l.length):(D.r (l.map e)).get i=e (l.getD i.toNat default):=get_map e (by omega)
theorem q67(e:α→D){l:List α}(h:i<l.length):(D.r (l.map e)).get (i:Int)=e (l.getD i default):=get_map e (by simpa using h)
omit [Inhabited α] in
theorem qdn{e:α→D}{P:α→Prop}{l:List D}(h:∀x∈l,∃a,x=e a∧P a):∃m:List α,l=m.map e∧∀a∈m,P a:=by
 induction l with
 |nil=>exact⟨[],rfl,fun a ha=>by cases ha⟩
 |cons x l ih=>
  obtain⟨a,rfl,ha⟩:=h x uC;obtain⟨m,rfl,hm⟩:=ih fun y hy=>h y (uD _ hy);refine⟨a::m,rfl,fun b hb=>?_⟩;rcases uL.1 hb with rfl|hb
  ·exact ha
  ·exact hm b hb
theorem q1y{l:List α}(h:i<l.length):l.getD i default∈l:=by
 rw[gnG,gnK h];exact List.getElem_mem h
theorem qai{l:List α}{k:Nat}(h:k<l.length):l.take (k+1)=l.take k++[l.getD k default]:=by
 rw[List.take_add_one,gnK h];simp[gnG,h]
end
theorem q3k{n:Nat}{P:Nat→Bool}(h:∀j,j<n→P j=true):(uN n).all P=true:=by
 rw[uI];exact fun j hj=>h j (uY.1 hj)
theorem qbq{n k:Nat}{P:Nat→Bool}(hk:k<n)(h:P k=false):(uN n).all P=false:=by
 cases ha:(uN n).all P with
 |false=>rfl
 |true=>rw[uI.1 ha k (uY.2 hk)] at h;cases h
theorem q9i{n k:Nat}{P:Nat→Bool}(h:(uN n).all P=true)(hk:k<n):P k=true:=uI.1 h k (uY.2 hk)
theorem q3t{k:Nat}(h:∀j,j<k→P j)(hk:P k):∀j,j<k+1→P j:=fun j hj=>by
 rcases Nat.lt_succ_iff_lt_or_eq.1 hj with h1|h1
 ·exact h j h1
 ·exact h1▸hk
theorem z6z{t u:Ty}(h:WfL ds [t,u]):∃a b,ds=[a,b]∧Wf a t∧Wf b u:=by
 match ds,h with
 |[],h=>cases h
 |[a],h=>obtain⟨t,ts,e,h1,h2⟩:=h;rw[h2] at e;cases e
 |[a,b],h=>
  obtain⟨t,ts,e,h1,t2,ts2,e2,h2,-⟩:=h;injection e with e e';subst e e';injection e2 with e2 e2';subst e2;exact⟨a,b,rfl,h1,h2⟩
 |a::b::c::l,h=>obtain⟨t,ts,e,h1,t2,ts2,e2,h2,t3,ts3,e3,-⟩:=h;subst e2 e3;cases e
theorem qb9{t:Ty}{ts:List Ty}(h:WfL ds (t::ts)):∃a r,ds=a::r∧Wf a t∧WfL r ts:=by
 match ds,h with
 |[],h=>cases h
 |a::r,h=>
  obtain⟨t,ts,e,h1,h2⟩:=h;injection e with e e';subst e e';exact⟨a,r,rfl,h1,h2⟩
theorem Wf.st_of{S:TypeId}{fs:List Ty}(h:Wf d (.st S))(hf:flds S=some fs):∃ds,d=.a ds∧WfL ds fs:=by
 obtain⟨ds,fs',rfl,hf',hl⟩:=h.st;rw[hf] at hf';injection hf' with hf';subst hf';exact⟨ds,rfl,hl⟩
theorem Wf.row_of{te:Ty}(h:Wf d (.row E))(hE:qm E=some te):∃l,d=.r l∧l.length≤LM te∧∀x∈l,Wf x te:=by
 obtain⟨l,te',rfl,hE',h1,h2⟩:=h.row;rw[hE] at hE';injection hE' with hE';subst hE';exact⟨l,rfl,h1,h2⟩
end
variable{K:Act→World→Prop}
section
def zxf(o:Oper):Bool:=match o.op with
 |.defer _=>true
 |_=>false
def qie:Code→Option (List Code×Nat×List Oper×Code)
 |.seq (.region id ops false) y=>if ops.toList.any zxf then some ([],id,ops.toList,y) else(qie y).map fun r=>(.region id ops false::r.1,r.2)
 |.seq x y=>(qie y).map fun r=>(x::r.1,r.2)
 |_=>none
def zjj(P:Program)(Q:Exit→Act→World→Prop):List Code→(Act→World→Prop)→Act→World→Prop
 |[],K=>K
 |x::xs,K=>fun a w=>x.wp P (Exit.then (zjj P Q xs K) Q) a w
theorem z2j{P:Program}:∀{cd:Code}{xs:List Code}{id:Nat}{ops:List Oper}{post:Code},qie cd=some (xs,id,ops,post)→∀{a:Act}{w:World},zjj P Q xs (fun a w=>(Code.seq (.region id ops.toArray false) post).wp P Q a w) a w→cd.wp P Q a w
 | .seq x y, xs, id, ops, post, h, a, w, hw => by
  unfold qie at h;split at h
  ·rename_i id' ops' y' e;injection e with e1 e2;subst e1 e2;split at h
   ·simp only[gnS] at h;obtain⟨rfl,rfl,rfl,rfl⟩:=h;exact hw
   ·obtain⟨⟨xs1,r1⟩,h1,h2⟩:=kA.1 h;simp only[Prod.mk.injEq] at h2;obtain⟨rfl,rfl⟩:=h2;refine wp_seq (wp_mono hw fun e a w hq=>?_);cases e with
    |normal=>exact z2j h1 hq
    |_=>exact hq
  ·rename_i x' y' hne e;injection e with e1 e2;subst e1 e2;obtain⟨⟨xs1,r1⟩,h1,h2⟩:=kA.1 h;simp only[Prod.mk.injEq] at h2;obtain⟨rfl,rfl⟩:=h2;refine wp_seq (wp_mono hw fun e a w hq=>?_);cases e with
   |normal=>exact z2j h1 hq
   |_=>exact hq
  ·cases h
 |.skip,_,_,_,_,h,_,_,_=>by simp[qie] at h
 |.region _ _ _,_,_,_,_,h,_,_,_=>by simp[qie] at h
 |.cond _ _ _,_,_,_,_,h,_,_,_=>by simp[qie] at h
 |.block _ _,_,_,_,_,h,_,_,_=>by simp[qie] at h
 |.exit _,_,_,_,_,h,_,_,_=>by simp[qie] at h
 |.ret,_,_,_,_,h,_,_,_=>by simp[qie] at h
 |.loop _,_,_,_,_,h,_,_,_=>by simp[qie] at h
 |.label _,_,_,_,_,h,_,_,_=>by simp[qie] at h
 |.scope _,_,_,_,_,h,_,_,_=>by simp[qie] at h
 |.goto _,_,_,_,_,h,_,_,_=>by simp[qie] at h
 |.rangeFunc _ _ _ _,_,_,_,_,h,_,_,_=>by simp[qie] at h
def zkp(o:Oper):Option Nat:=match o.op,o.dst,o.guard with
 |.defer c,none,none=>(match c.callee,c.args.toList with
  |.value (.tmp t),[]=>some t
  |_,_=>none)
 |_,_,_=>none
mutual
def q9z:AV→Bool
 |.sn _ _=>false
 |.tup l=>z4p l
 |.gd _ a=>q9z a
 |.fn _ l=>z4p l
 |.bx _ _ a=>q9z a
 |.ax _ _ _ a=>q9z a
 |.fr _ a=>q9z a
 |.pt _ _ _ a=>q9z a
 |_=>true
def z4p:List AV→Bool
 |[]=>true
 |a::l=>q9z a&&z4p l
end
section
variable{c:Cx}{s:Nat→Value}{p:qj}{w:World}
mutual
theorem qbv:∀(a:AV)(v:Value),q9z a=true→AV.pd c p w a v→AV.pd {c with snap:=s} p w a v
 |.sn _ _,v,h,_=>by simp[q9z] at h
 |.tup l,v,h,hp=>by
  obtain⟨vs,e,hl⟩:=hp;exact⟨vs,e,quj l vs (by simpa[q9z] using h) hl⟩
 |.gd cs a,v,h,hp=>⟨fun hh=>qbv a v (by simpa[q9z] using h) (hp.1 hh),hp.2⟩
 |.fn f l,v,h,hp=>by
  obtain⟨vs,e,hl⟩:=hp;exact⟨vs,e,quj l vs (by simpa[q9z] using h) hl⟩
 |.bx k T a,v,h,hp=>by
  obtain⟨g,u,h1,h2,h3,h4⟩:=hp;exact⟨g,u,h1,h2,h3,qbv a u (by simpa[q9z] using h) h4⟩
 |.ax k T n a,v,h,hp=>by
  obtain⟨g,cs,h1,h2,h3,h4,h5⟩:=hp;exact⟨g,cs,h1,h2,h3,h4,qbv a _ (by simpa[q9z] using h) h5⟩
 |.fr T a,v,h,hp=>by
  obtain⟨g,u,h1,h2,h3,h4,h5⟩:=hp;exact⟨g,u,h1,h2,h3,h4,qbv a u (by simpa[q9z] using h) h5⟩
 |.ff _ _ _ _ _ _ _ _,v,_,hp=>hp
 |.pt pin i E a,v,h,hp=>⟨hp.1,qbv a v (by simpa[q9z] using h) hp.2⟩
 |.any,v,_,hp=>hp
 |.undef,v,_,hp=>hp
 |.v _ _ _ _,v,_,hp=>hp
 |.nilS,v,_,hp=>hp
 |.nilP,v,_,hp=>hp
 |.ref _ _ _ _,v,_,hp=>hp
 |.rd _ _ _ _,v,_,hp=>hp
 |.nb _ _,v,_,hp=>hp
 |.ar _ _ _,v,_,hp=>hp
 |.lv _ _,v,_,hp=>hp
theorem quj:∀(l:List AV)(vs:List Value),z4p l=true→pds c p w l vs→pds {c with snap:=s} p w l vs
 |[],vs,_,hp=>hp
 |a::l,vs,h,hp=>by
  simp only[z4p,gnB] at h;obtain⟨v,r,e,h1,h2⟩:=hp;exact⟨v,r,e,qbv a v h.1 h1,quj l r h.2 h2⟩
end
end
def q65(P:Program)(tbl:Tbl)(ann:Ann)(lo z:Nat):List Code→Nat→St→(Nat→ResD→St→Tree)→Tree
 |[],n,σ,k=>k n .normal σ
 |x::xs,n,σ,k=>toT P tbl ann lo z x [] n σ fun n' r σ'=>match r with
  |.normal=>q65 P tbl ann lo z xs n' σ' k
  |.ret=>k n' .ret σ'
  |.exit i=>k n' (.exit i) σ'
section
variable{c:Cx}{p:qj}{w w0:World}{S0:Nat→Prop}{a:Act}{σ σ':St}{d:List Deferred}{z:Nat}{tbl:Tbl}
theorem zbe(htb:q0v tbl)(hfm:∀te,c.F.mx te≤flM tbl te){ann:Ann}(hnp:q9v tbl=true):∀(xs:List Code){n:Nat}{σ:St}{k:Nat→ResD→St→Tree}{l:List D}{B:Nat→List D→Prop}{p:qj}{w:World}{a:Act},
  (q65 uA tbl ann c.lo z xs n σ k).go (qf tbl) R l B→l.length=n→Bs c.A c.F w0 S0 p w→SF (c.at (qf tbl) l) σ p w a→a.defers=d→a.tmps.size=z→
  (∀n' r σ' l' B' p' w' a',l'.length=n'→(k n' r σ').go (qf tbl) R l' B'→Bs c.A c.F w0 S0 p' w'→SF (c.at (qf tbl) l') σ' p' w' a'→a'.defers=d→a'.tmps.size=z→Exit.then K Q r.exit' a' w')→zjj uA Q xs K a w
 |[],n,σ,k,l,B,p,w,a,h,hl,hb,hf,hd,hz,hk=>hk n .normal σ l B p w a hl h hb hf hd hz
 |x::xs,n,σ,k,l,B,p,w,a,h,hl,hb,hf,hd,hz,hk=>by
  refine(wpIn_wide (n:=0)).1 ?_;refine qod none 0 htb hfm x h hl hb hf hd hz (q5t hnp) (qkg hnp) fun n' r σ' l' B' p' w' a' hl' _ _ hgo hb' hf' hd' hz'=>?_;cases r with
  |normal=>exact zbe htb hfm hnp xs hgo hl' hb' hf' hd' hz' hk
  |ret=>exact hk n' .ret σ' l' B' p' w' a' hl' hgo hb' hf' hd' hz'
  |exit i=>exact hk n' (.exit i) σ' l' B' p' w' a' hl' hgo hb' hf' hd' hz'
theorem za7{o:Oper}{t:Nat}(h:zkp o=some t){f:FuncId}{caps:Array Value}(hv:a.eval (.tmp t)=.func (.func f) #[] caps)(hk:K {a with defers:={target:=.fn (.func f) caps,args:= #[]}::a.defers} w):
  o.guard=none∧o.wp uA a w K Q:=by
 unfold zkp at h;split at h
 ·rename_i cl ho hdst hg;split at h
  ·rename_i t' hcal hargs;injection h with h;subst h;refine⟨hg,?_⟩;obtain⟨callee,⟨args⟩,tys⟩:=cl;simp only at hcal hargs;subst hcal hargs;have hrun:(execOp a.eval o).run uA w=.ok (.defer {target:=.fn (.func f) caps,args:= #[]}) w:=by
    generalize a.eval=r at *;simp[execOp,ho,resolve,Deferred.ofValue,hv]
   unfold Oper.wp;rw[hrun]
   show K ({a with defers:=_::a.defers}.put o.dst undef) w
   rw[hdst];exact hk
  ·cases h
 ·cases h
end
end
abbrev zl:Ty:=.row 33
abbrev qo9:Ty:=.row 58
abbrev z1j:Ty:=.row 69
abbrev q36:Ty:=.row 65
abbrev qe:Ty:=.st 26
abbrev ql:Ty:=.st 32
abbrev zy:Ty:=.int .i64
abbrev qm5:Ty:=.row 46
abbrev qmn:Ty:=.st 45
abbrev q02:Ty:=.st 57
abbrev yy:Ty:=.st 64
abbrev q2p:Ty:=.st 68
abbrev z8i:Ty:=.row 98
abbrev qnx:Ty:=.st 97
abbrev GfZ:=List D→Option (List D)
def EnZ(ct:Ct):Prop:=∀(args:Array Value)(w:World),(callFunc ct.f args).run uA w=.ok (.enter ct.f args) w
def CdZ(T:Tbl)(a:Ann)(ct:Ct)(f:Func)(t:Tree):Prop:=∀cd,f.body=some cd→qg0 uA T a ct f cd=t
def HgZ(t:Tree)(ct:Ct)(T:Tbl)(g:GfZ):Prop:=∀ds outs,WfA ct.ars ds→g ds=some outs→t.go (qf T) (fun o=>o=outs) ds fun _ _=>False
variable{g:GfZ}
theorem jf{T:Tbl}{a:Ann}{f:Func}{t:Tree}{cd:Code}(hc:CdZ T a ct f t)(htb:q0v T)(hf:uA.funcs[ct.f]? =some f)(hb:f.body=some cd)(he:EnZ ct)(hd:ct.ar.length≤f.ntmps)(h:HgZ t ct T g)(hnp:q9v T=true:=by rfl)(hkp:ct.kp=[]:=by rfl)(hfl:ct.fl=[]:=by rfl):FOk ct g:=
 ziv a f cd htb hf hb he hd (fun ds outs hw hg=>by rw[hc cd hb];exact h ds outs hw hg) hnp hkp hfl
def q22:Ct:=⟨58,[.val (.int .i64)],[(.st 26,true),(.int .i64,false)],[],none,[],[]⟩
theorem qqn:EnZ q22:=fun _ _=>by kernel_rfl
def qxv:Ann:=⟨[0,2,3,9],[]⟩
def qb6:Tree:=(.br (.or (.lt (.tok 0) (.lit (.i 1))) (.lt (.lit (.i 1048576)) (.tok 0))) (.leaf [(.lit (.a [(.r []),(.r []),(.r []),(.r []),(.i 0),(.i 0)])),(.lit (.i 1))]) (.leaf [(.set (.lit (.a [(.r []),(.r []),(.r []),(.r []),(.i 0),(.i 0)])) 5 (.tok 0)),(.lit (.i 0))]))
theorem qvv:CdZ [] qxv q22 Try.f58 qb6:=fun cd h=>by injection h with h;subst h;kernel_rfl
theorem qxi(h:HgZ qb6 q22 [] g):FOk q22 g:=jf (qvv) .nil rfl rfl qqn (by decide) h
def qv:Ct:=⟨10,[.ref (.st 26) true],[(.st 32,false),(.int .i64,false)],[],none,[],[(0,0,.st 32),(0,1,.st 57),(0,2,.st 68),(0,3,.st 64)]⟩
theorem q2x:EnZ qv:=fun _ _=>by kernel_rfl
def qel:Ann:=⟨[0,2,3,5,16],[]⟩
def q85:Tree:=(.br (.le (.fld (.tok 0) 5) (.len (.fld (.tok 0) 0))) (.leaf [(.lit (.a [(.i 0),(.i 0)])),(.lit (.i 13)),(.tok 0)]) (.need [(.le (.add (.len (.fld (.tok 0) 0)) (.lit (.i 1))) (.lit (.i 8796093021952))),(.le (.call 0 0 []) (.len (.fld (.tok 0) 0)))] (.leaf [(.mk [(.lit (.i 0)),(.len (.fld (.tok 0) 0))]),(.lit (.i 0)),(.set (.tok 0) 0 (.app (.fld (.tok 0) 0) (.row [(.mk [(.lit (.i 0)),(.len (.fld (.tok 0) 0))])])))])))
theorem qo4(m0 m1 m2 m3:Int):CdZ [(q01 qv.f (.st 32),fun _=>some [.i m0]),(q01 qv.f (.st 57),fun _=>some [.i m1]),(q01 qv.f (.st 68),fun _=>some [.i m2]),(q01 qv.f (.st 64),fun _=>some [.i m3])] qel qv vA q85:=fun cd h=>by injection h with h;subst h;kernel_rfl
theorem qqf{g:List D→Option (List D)}(h:∀ds outs,WfA qv.ars ds→g ds=some outs→q85.go (qf [(q01 qv.f (.st 32),fun _=>some [.i (((ds.getD 0 .u).fld 0).rs.length:Nat)]),(q01 qv.f (.st 57),fun _=>some [.i (((ds.getD 0 .u).fld 1).rs.length:Nat)]),(q01 qv.f (.st 68),fun _=>some [.i (((ds.getD 0 .u).fld 2).rs.length:Nat)]),(q01 qv.f (.st 64),fun _=>some [.i (((ds.getD 0 .u).fld 3).rs.length:Nat)])]) (fun o=>o=outs) ds fun _ _=>False):FOk qv g:=
 FOk.of_at q2x fun ds outs hw hg=>z0z qel vA _ (.cons (q21 _ q2x _ _) (.cons (q21 _ q2x _ _) (.cons (q21 _ q2x _ _) (.cons (q21 _ q2x _ _) .nil)))) rfl rfl (by decide) (by rw[qo4 _ _ _ _ _ rfl];exact h ds outs hw hg) rfl (FlF.of fun k j te hm=>by
  rw[show qv.fl=[(0,0,.st 32),(0,1,.st 57),(0,2,.st 68),(0,3,.st 64)] from rfl] at hm;simp only[gnM] at hm;rcases hm with⟨rfl,rfl,rfl⟩|⟨rfl,rfl,rfl⟩|⟨rfl,rfl,rfl⟩|⟨rfl,rfl,rfl⟩<;>exact⟨by decide,uB _⟩)
def jn:Ct:=⟨12,[.val (.int .i64)],[(.st 32,false)],[],none,[],[]⟩
theorem qey:EnZ jn:=fun _ _=>by kernel_rfl
def qxh:Ann:=⟨[0,2],[]⟩
def qax:Tree:=(.leaf [(.mk [(.lit (.i 1)),(.tok 0)])])
theorem qt6:CdZ [] qxh jn Try.f12 qax:=fun cd h=>by injection h with h;subst h;kernel_rfl
theorem qii(h:HgZ qax jn [] g):FOk jn g:=jf (qt6) .nil rfl rfl qey (by decide) h
def yb:Ct:=⟨53,[.val (.st 26),.val (.int .i64)],[(.int .i64,false)],[],none,[],[]⟩
theorem qlu:EnZ yb:=fun _ _=>by kernel_rfl
def qpj:Ann:=⟨[0,1,2,4,13],[]⟩
def q7x:Tree:=(.br (.or (.lt (.tok 1) (.lit (.i 0))) (.le (.len (.fld (.tok 0) 1)) (.tok 1))) (.leaf [(.lit (.i (-1)))]) (.need [(.le (.lit (.i 0)) (.tok 1)),(.lt (.tok 1) (.len (.fld (.tok 0) 1)))] (.leaf [(.fld (.get (.fld (.tok 0) 1) (.tok 1)) 1)])))
theorem qna:CdZ [] qpj yb Try.f53 q7x:=fun cd h=>by injection h with h;subst h;kernel_rfl
theorem qqw(h:HgZ q7x yb [] g):FOk yb g:=jf (qna) .nil rfl rfl qlu (by decide) h
def ze:Ct:=⟨54,[.val (.st 26),.val (.int .i64)],[(.int .i64,false)],[],none,[],[]⟩
theorem qqo:EnZ ze:=fun _ _=>by kernel_rfl
def qx8:Ann:=⟨[0,1,2,4,13],[]⟩
def qbf:Tree:=(.br (.or (.lt (.tok 1) (.lit (.i 0))) (.le (.len (.fld (.tok 0) 0)) (.tok 1))) (.leaf [(.lit (.i (-1)))]) (.need [(.le (.lit (.i 0)) (.tok 1)),(.lt (.tok 1) (.len (.fld (.tok 0) 0)))] (.leaf [(.fld (.get (.fld (.tok 0) 0) (.tok 1)) 0)])))
theorem qto:CdZ [] qx8 ze Try.f54 qbf:=fun cd h=>by injection h with h;subst h;kernel_rfl
theorem qx5(h:HgZ qbf ze [] g):FOk ze g:=jf (qto) .nil rfl rfl qqo (by decide) h
def qb:Ct:=⟨30,[.val (.st 26),.val (.st 32)],[(.bool,false)],[],none,[],[]⟩
theorem qf3:EnZ qb:=fun _ _=>by kernel_rfl
def qht:Ann:=⟨[0,1,2,3,4,5,7,8,10,17,29,36],[]⟩
def q4d:Tree:=(.br (.eq (.fld (.tok 1) 0) (.lit (.i 1))) (.leaf [(.lit (.b .true))]) (.br (.eq (.fld (.tok 1) 0) (.lit (.i 2))) (.need [(.ok 0 [(.tok 0),(.fld (.tok 1) 1)])] (.leaf [(.eq (.call 0 0 [(.tok 0),(.fld (.tok 1) 1)]) (.lit (.i 0)))])) (.br (.eq (.fld (.tok 1) 0) (.lit (.i 0))) (.need [(.ok 1 [(.tok 0),(.fld (.tok 1) 1)])] (.leaf [(.and (.le (.lit (.i 0)) (.call 1 0 [(.tok 0),(.fld (.tok 1) 1)])) (.not (.eq (.call 1 0 [(.tok 0),(.fld (.tok 1) 1)]) (.lit (.i 4)))))])) (.br (.eq (.fld (.tok 1) 0) (.lit (.i 3))) (.need [(.ok 1 [(.tok 0),(.fld (.tok 1) 1)])] (.leaf [(.eq (.call 1 0 [(.tok 0),(.fld (.tok 1) 1)]) (.lit (.i 4)))])) (.br (.eq (.fld (.tok 1) 0) (.lit (.i 5))) (.need [(.ok 1 [(.tok 0),(.fld (.tok 1) 1)])] (.leaf [(.eq (.call 1 0 [(.tok 0),(.fld (.tok 1) 1)]) (.lit (.i 5)))])) (.leaf [(.lit (.b .false))]))))))
theorem qg8(g0 g1:GfZ):CdZ [(yb,g0),(ze,g1)] qht qb Try.f30 q4d:=fun cd h=>by injection h with h;subst h;kernel_rfl
variable{g0 g1:GfZ}
theorem qhz(h0:FOk yb g0)(h1:FOk ze g1)(h:HgZ q4d qb [(yb,g0),(ze,g1)] g):FOk qb g:=jf (qg8 g0 g1) (.cons h0 (.cons h1 .nil)) rfl rfl qf3 (by decide) h
def zk:Ct:=⟨42,[.val (.st 26),.val (.st 32)],[(.st 32,false)],[],none,[],[]⟩
theorem qm4:EnZ zk:=fun _ _=>by kernel_rfl
def qpo:Ann:=⟨[0,1,2,3,4,8,12,13,14,34],[(4,⟨[(13,.int .i64,false)],[3],[14,15,16,17,18,19,20,21,22,23,24,25,26,27,28,29,30,31,32,33,34,35,36,37,38,39,40,41],[]⟩)]⟩
def q4r:Tree:=
 let b:X:=.fld (.tok 3) 1
 let c:X:=.fld (.tok 0) 0
 let d:X:=.lit (.i 0)
 let f:X:=.add (.tok 2) (.lit (.i 1))
 let a:X:=.or (.not (.eq (.fld (.tok 3) 0) d)) (.lt (.call 1 0 [(.tok 0),b]) d)
 let e:X:=.lt b (.len c)
 (.need [(.ok 0 [(.tok 0),(.tok 1)])] (.br (.not (.call 0 0 [(.tok 0),(.tok 1)])) (.leaf [(.lit (.a [(.i 0),(.i 0)]))]) (.loop 4 2 [d,(.tok 1)] (.br (.lt (.tok 2) (.len c)) (.need [(.imp (.not a) (.le d b)),(.imp (.not a) e),(.imp (.not a) (.le d b)),(.imp (.not a) e),(.imp (.not (.not (.eq (.fld (.tok 3) 0) d))) (.ok 1 [(.tok 0),b]))] (.br (.or a (.eq (.get c b) (.tok 3))) (.leaf [(.tok 3)]) (.need [(.le d b),e] (.need [(.rng .i64 f)] (.back 4 [f,(.get c b)]))))) (.leaf [(.tok 3)])))))
theorem qns(g0 g1:GfZ):CdZ [(qb,g0),(ze,g1)] qpo zk Try.f42 q4r:=fun cd h=>by injection h with h;subst h;kernel_rfl
theorem qen(h0:FOk qb g0)(h1:FOk ze g1)(h:HgZ q4r zk [(qb,g0),(ze,g1)] g):FOk zk g:=jf (qns g0 g1) (.cons h0 (.cons h1 .nil)) rfl rfl qm4 (by decide) h
def q0e:Ct:=⟨44,[.val (.st 26),.val (.int .i64)],[(.bool,false)],[],none,[],[]⟩
theorem qwo:EnZ q0e:=fun _ _=>by kernel_rfl
def z6a:Ann:=⟨[0,1,2,4],[]⟩
def qe1:Tree:=(.leaf [(.and (.le (.lit (.i 0)) (.tok 1)) (.lt (.tok 1) (.len (.fld (.tok 0) 0))))])
theorem z25:CdZ [] z6a q0e Try.f44 qe1:=fun cd h=>by injection h with h;subst h;kernel_rfl
theorem z4t(h:HgZ qe1 q0e [] g):FOk q0e g:=jf (z25) .nil rfl rfl qwo (by decide) h
def qu:Ct:=⟨35,[.val (.st 26),.val (.st 32)],[(.st 32,false),(.bool,false)],[],none,[],[]⟩
theorem qi9:EnZ qu:=fun _ _=>by kernel_rfl
def qkx:Ann:=⟨[0,1,2,3,4,5,9,15,16,23],[]⟩
def q64:Tree:=(.need [(.ok 0 [(.tok 0),(.tok 1)])] (.br (.not (.call 0 0 [(.tok 0),(.tok 1)])) (.leaf [(.lit (.a [(.i 0),(.i 0)])),(.lit (.b .false))]) (.need [(.ok 1 [(.tok 0),(.tok 1)])] (.br (.eq (.fld (.call 1 0 [(.tok 0),(.tok 1)]) 0) (.lit (.i 0))) (.need [(.ok 2 [(.tok 0),(.fld (.call 1 0 [(.tok 0),(.tok 1)]) 1)])] (.leaf [(.call 1 0 [(.tok 0),(.tok 1)]),(.call 2 0 [(.tok 0),(.fld (.call 1 0 [(.tok 0),(.tok 1)]) 1)])])) (.br (.eq (.fld (.call 1 0 [(.tok 0),(.tok 1)]) 0) (.lit (.i 5))) (.need [(.imp (.call 2 0 [(.tok 0),(.fld (.call 1 0 [(.tok 0),(.tok 1)]) 1)]) (.ok 2 [(.tok 0),(.add (.fld (.call 1 0 [(.tok 0),(.tok 1)]) 1) (.lit (.i 2)))])),(.imp (.call 2 0 [(.tok 0),(.fld (.call 1 0 [(.tok 0),(.tok 1)]) 1)]) (.rng .i64 (.add (.fld (.call 1 0 [(.tok 0),(.tok 1)]) 1) (.lit (.i 2))))),(.ok 2 [(.tok 0),(.fld (.call 1 0 [(.tok 0),(.tok 1)]) 1)])] (.leaf [(.call 1 0 [(.tok 0),(.tok 1)]),(.and (.call 2 0 [(.tok 0),(.fld (.call 1 0 [(.tok 0),(.tok 1)]) 1)]) (.call 2 0 [(.tok 0),(.add (.fld (.call 1 0 [(.tok 0),(.tok 1)]) 1) (.lit (.i 2)))]))])) (.leaf [(.lit (.a [(.i 0),(.i 0)])),(.lit (.b .false))]))))))
theorem qje(g0 g1 g2:GfZ):CdZ [(qb,g0),(zk,g1),(q0e,g2)] qkx qu Try.f35 q64:=fun cd h=>by injection h with h;subst h;kernel_rfl
theorem qkj{g2:GfZ}(h0:FOk qb g0)(h1:FOk zk g1)(h2:FOk q0e g2)(h:HgZ q64 qu [(qb,g0),(zk,g1),(q0e,g2)] g):FOk qu g:=jf (qje g0 g1 g2) (.cons h0 (.cons h1 (.cons h2 .nil))) rfl rfl qi9 (by decide) h
def y9:Ct:=⟨36,[.val (.st 26),.val (.st 32)],[(.bool,false)],[],none,[],[]⟩
theorem qi6:EnZ y9:=fun _ _=>by kernel_rfl
def qkk:Ann:=⟨[0,1,2,3,4,5,14,15],[]⟩
def q5w:Tree:=
 let a:X:=.add (.fld (.tok 1) 1) (.lit (.i 2))
 let f:X:=.lit (.b .true)
 let b:X:=.get (.fld (.tok 0) 0) a
 let d:X:=.rng .i64 a
 let c:X:=.eq b (.mk [(.lit (.i 0)),a])
 let e:X:=.fld b 0
 (.need [d,(.le (.lit (.i 0)) a),(.lt a (.len (.fld (.tok 0) 0)))] (.br (.eq e (.lit (.i 1))) (.br (.eq e (.lit (.i 1))) (.leaf [f]) (.need [d] (.leaf [c]))) (.br (.eq e (.lit (.i 2))) (.br (.eq e (.lit (.i 2))) (.leaf [f]) (.need [d] (.leaf [c]))) (.br (.eq e (.lit (.i 3))) (.leaf [f]) (.need [d] (.leaf [c]))))))
theorem qjl:CdZ [] qkk y9 Try.f36 q5w:=fun cd h=>by injection h with h;subst h;kernel_rfl
theorem qln(h:HgZ q5w y9 [] g):FOk y9 g:=jf (qjl) .nil rfl rfl qi6 (by decide) h
def jt:Ct:=⟨100,[.val (.st 45),.ref (.int .i64) true,.cell 137 3],[],[(.cell 2,.fn 100 [1,2])],none,[],[]⟩
theorem qbt:EnZ jt:=fun _ _=>by kernel_rfl
def qqb:Ann:=⟨[0,1,2,3,4,15],[(3,⟨[(4,.int .i64,false)],[1],[7,8,9,10,11,12,13,14,15,18,19,20,21,22,23,24,16,17],[]⟩)]⟩
def q8i:Tree:=(.need [(.rng .i64 (.sub (.tok 1) (.lit (.i 1))))] (.loop 3 2 [(.lit (.i 0)),(.sub (.tok 1) (.lit (.i 1)))] (.br (.and (.lt (.tok 2) (.len (.fld (.tok 0) 3))) (.lt (.lit (.i 0)) (.tok 3))) (.need [(.ok 0 [(.get (.fld (.tok 0) 3) (.tok 2)),(.tok 3)]),(.le (.lit (.i 0)) (.tok 2)),(.lt (.tok 2) (.len (.fld (.tok 0) 3)))] (.need [(.rng .i64 (.add (.tok 2) (.lit (.i 1))))] (.back 3 [(.add (.tok 2) (.lit (.i 1))),(.call 0 0 [(.get (.fld (.tok 0) 3) (.tok 2)),(.tok 3)])]))) (.leaf [(.tok 3)]))))
theorem qma(g0:GfZ):CdZ [(jt,g0)] qqb jt Try.f100 q8i:=fun cd h=>by injection h with h;subst h;kernel_rfl
theorem qq5(h0:FOk jt g0)(h:HgZ q8i jt [(jt,g0)] g):FOk jt g:=jf (qma g0) (.cons h0 .nil) rfl rfl qbt (by decide) h
def q0b:Ct:=⟨90,[.val (.st 45)],[(.int .i64,false)],[],none,[],[]⟩
theorem qpu:EnZ q0b:=fun _ _=>by kernel_rfl
def qxr:Ann:=⟨[0,1,2,3,4],[]⟩
def qb7:Tree:=(.need [(.ok 0 [(.tok 0),(.lit (.i 2001))])] (.need [(.rng .i64 (.sub (.lit (.i 2001)) (.call 0 0 [(.tok 0),(.lit (.i 2001))])))] (.leaf [(.sub (.lit (.i 2001)) (.call 0 0 [(.tok 0),(.lit (.i 2001))]))])))
theorem qur(g0:GfZ):CdZ [(jt,g0)] qxr q0b Try.f90 qb7:=fun cd h=>by injection h with h;subst h;kernel_rfl
theorem qwg(h0:FOk jt g0)(h:HgZ qb7 q0b [(jt,g0)] g):FOk q0b g:=jf (qur g0) (.cons h0 .nil) rfl rfl qpu (by decide) h
def yd:Ct:=⟨91,[.val (.st 45)],[(.bool,false)],[],none,[],[]⟩
theorem qek:EnZ yd:=fun _ _=>by kernel_rfl
def qxw:Ann:=⟨[0,1,2,3,4,6,7,28,39,56,86],[(12,⟨[(3,.bool,false),(4,.int .i64,false)],[],[79,80,81,82,83,84,85,86,89,90,91,92,93,94,87,88],[]⟩)]⟩
def qaq:Tree:=
 let b:X:=.add (.tok 2) (.lit (.i 1))
 let c:X:=.lit (.i 0)
 let j:X:=.tok 0
 let o:X:=.tok 1
 let a:X:=.fld j 3
 let f:X:=.and (.eq (.fld j 1) c) (.le (.slen (.fld j 2)) (.lit (.i 100)))
 let h:X:=.le c (.tok 2)
 let k:X:=.rng .i64 b
 let m:X:=.eq (.fld j 2) (.lit (.s ⟨#[]⟩))
 let p:X:=.fld j 0
 let d:X:=.lt (.tok 2) (.len a)
 let e:X:=.get a (.tok 2)
 let n:X:=.eq (.len a) c
 let g:X:=.and d o
 let i:X:=.call 0 0 [e]
 let l:X:=.ok 0 [e]
 (.br (.eq p c) (.loop 12 1 [(.and (.and (.and (.le c (.fld j 1)) (.le (.fld j 1) (.lit (.i 1099511627776)))) m) n),c] (.br g (.need [h,d,l] (.need [k] (.back 12 [i,b]))) (.leaf [o]))) (.br (.eq p (.lit (.i 1))) (.loop 12 1 [(.and m n),c] (.br g (.need [h,d,l] (.need [k] (.back 12 [i,b]))) (.leaf [o]))) (.br (.eq p (.lit (.i 2))) (.loop 12 1 [(.and f n),c] (.br g (.need [h,d,l] (.need [k] (.back 12 [i,b]))) (.leaf [o]))) (.br (.eq p (.lit (.i 3))) (.loop 12 1 [(.and (.and f (.lt c (.len a))) (.le (.len a) (.lit (.i 8)))),c] (.br g (.need [h,d,l] (.need [k] (.back 12 [i,b]))) (.leaf [o]))) (.loop 12 1 [(.lit (.b .false)),c] (.br g (.need [h,d,l] (.need [k] (.back 12 [i,b]))) (.leaf [o])))))))
theorem qvq(g0:GfZ):CdZ [(yd,g0)] qxw yd Try.f91 qaq:=fun cd h=>by injection h with h;subst h;kernel_rfl
theorem qxc(h0:FOk yd g0)(h:HgZ qaq yd [(yd,g0)] g):FOk yd g:=jf (qvq g0) (.cons h0 .nil) rfl rfl qek (by decide) h
def j5:Ct:=⟨76,[.val (.st 45)],[(.bool,false)],[],none,[],[]⟩
theorem qmf:EnZ j5:=fun _ _=>by kernel_rfl
def qti:Ann:=⟨[0,1,2],[]⟩
def q9k:Tree:=(.need [(.ok 0 [(.tok 0)]),(.imp (.le (.call 0 0 [(.tok 0)]) (.lit (.i 2000))) (.ok 1 [(.tok 0)]))] (.leaf [(.and (.le (.call 0 0 [(.tok 0)]) (.lit (.i 2000))) (.call 1 0 [(.tok 0)]))]))
theorem qpn(g0 g1:GfZ):CdZ [(q0b,g0),(yd,g1)] qti j5 Try.f76 q9k:=fun cd h=>by injection h with h;subst h;kernel_rfl
theorem qsn(h0:FOk q0b g0)(h1:FOk yd g1)(h:HgZ q9k j5 [(q0b,g0),(yd,g1)] g):FOk j5 g:=jf (qpn g0 g1) (.cons h0 (.cons h1 .nil)) rfl rfl qmf (by decide) h
def q0q:Ct:=⟨89,[.val (.st 45)],[(.st 45,false)],[],none,[],[]⟩
theorem qjh:EnZ q0q:=fun _ _=>by kernel_rfl
def qnl:Ann:=⟨[0,1,2],[]⟩
def q6p:Tree:=(.leaf [(.tok 0)])
theorem qm0:CdZ [] qnl q0q Try.f89 q6p:=fun cd h=>by injection h with h;subst h;kernel_rfl
theorem qmh(h:HgZ q6p q0q [] g):FOk q0q g:=jf (qm0) .nil rfl rfl qjh (by decide) h
def q0a:Ct:=⟨88,[.val (.st 45),.fn 89 []],[(.st 45,false)],[],none,[],[]⟩
theorem qd5:EnZ q0a:=fun _ _=>by kernel_rfl
def qut:Ann:=⟨[0,1,2,4,5,7,10,22,23,24,25],[(5,⟨[(24,.int .i64,false)],[5],[25,26,27,7,28,29,30,31,32,33,34,35,36],[]⟩)]⟩
def q9j:Tree:=(.br (.eq (.fld (.tok 0) 0) (.lit (.i 0))) (.need [(.ok 0 [(.tok 0)])] (.leaf [(.call 0 0 [(.tok 0)])])) (.loop 5 1 [(.lit (.i 0)),(.set (.set (.set (.lit (.a [(.i 0),(.i 0),(.s ⟨#[]⟩),(.r [])])) 0 (.fld (.tok 0) 0)) 1 (.fld (.tok 0) 1)) 2 (.fld (.tok 0) 2))] (.br (.lt (.tok 1) (.len (.fld (.tok 0) 3))) (.need [(.le (.lit (.i 0)) (.tok 1)),(.lt (.tok 1) (.len (.fld (.tok 0) 3)))] (.need [(.le (.add (.len (.fld (.tok 2) 3)) (.lit (.i 1))) (.lit (.i 2513169434843))),(.ok 1 [(.get (.fld (.tok 0) 3) (.tok 1))])] (.need [(.rng .i64 (.add (.tok 1) (.lit (.i 1))))] (.back 5 [(.add (.tok 1) (.lit (.i 1))),(.set (.tok 2) 3 (.app (.fld (.tok 2) 3) (.row [(.call 1 0 [(.get (.fld (.tok 0) 3) (.tok 1))])])))])))) (.leaf [(.tok 2)]))))
theorem qr2(g0 g1:GfZ):CdZ [(q0q,g0),(q0a,g1)] qut q0a Try.f88 q9j:=fun cd h=>by injection h with h;subst h;kernel_rfl
theorem qvk(h0:FOk q0q g0)(h1:FOk q0a g1)(h:HgZ q9j q0a [(q0q,g0),(q0a,g1)] g):FOk q0a g:=jf (qr2 g0 g1) (.cons h0 (.cons h1 .nil)) rfl rfl qd5 (by decide) h
def yk:Ct:=⟨57,[.val (.st 45)],[(.st 45,false)],[],none,[],[]⟩
theorem qne:EnZ yk:=fun _ _=>by kernel_rfl
def quq:Ann:=⟨[0,1,2,5],[]⟩
def q9t:Tree:=(.need [(.ok 0 [(.tok 0)])] (.br (.not (.call 0 0 [(.tok 0)])) (.leaf [(.lit (.a [(.i 0),(.i 0),(.s ⟨#[]⟩),(.r [])]))]) (.need [(.ok 1 [(.tok 0)])] (.leaf [(.call 1 0 [(.tok 0)])]))))
theorem qpr(g0 g1:GfZ):CdZ [(j5,g0),(q0a,g1)] quq yk Try.f57 q9t:=fun cd h=>by injection h with h;subst h;kernel_rfl
theorem qv4(h0:FOk j5 g0)(h1:FOk q0a g1)(h:HgZ q9t yk [(j5,g0),(q0a,g1)] g):FOk yk g:=jf (qpr g0 g1) (.cons h0 (.cons h1 .nil)) rfl rfl qne (by decide) h
def zp:Ct:=⟨18,[.val (.str)],[(.st 45,false)],[],none,[],[]⟩
theorem qqr:EnZ zp:=fun _ _=>by kernel_rfl
def qxa:Ann:=⟨[0,2],[]⟩
def qb3:Tree:=(.need [(.ok 0 [(.set (.set (.lit (.a [(.i 0),(.i 0),(.s ⟨#[]⟩),(.r [])])) 0 (.lit (.i 2))) 2 (.tok 0))])] (.leaf [(.call 0 0 [(.set (.set (.lit (.a [(.i 0),(.i 0),(.s ⟨#[]⟩),(.r [])])) 0 (.lit (.i 2))) 2 (.tok 0))])]))
theorem qw8(g0:GfZ):CdZ [(yk,g0)] qxa zp Try.f18 qb3:=fun cd h=>by injection h with h;subst h;kernel_rfl
theorem qxs(h0:FOk yk g0)(h:HgZ qb3 zp [(yk,g0)] g):FOk zp g:=jf (qw8 g0) (.cons h0 .nil) rfl rfl qqr (by decide) h
def q1q:Ct:=⟨75,[.val (.int .i64)],[(.bool,false)],[],none,[],[]⟩
theorem qll:EnZ q1q:=fun _ _=>by kernel_rfl
def qqj:Ann:=⟨[0,2],[]⟩
def q7y:Tree:=(.leaf [(.and (.le (.lit (.i 0)) (.tok 0)) (.le (.tok 0) (.lit (.i 1099511627776))))])
theorem qny:CdZ [] qqj q1q Try.f75 q7y:=fun cd h=>by injection h with h;subst h;kernel_rfl
theorem qqi(h:HgZ q7y q1q [] g):FOk q1q g:=jf (qny) .nil rfl rfl qll (by decide) h
def q26:Ct:=⟨50,[.val (.int .i64)],[(.st 45,false)],[],none,[],[]⟩
theorem qu0:EnZ q26:=fun _ _=>by kernel_rfl
def z1p:Ann:=⟨[0,2,5],[]⟩
def qcl:Tree:=(.need [(.ok 0 [(.tok 0)])] (.br (.not (.call 0 0 [(.tok 0)])) (.leaf [(.lit (.a [(.i 0),(.i 0),(.s ⟨#[]⟩),(.r [])]))]) (.leaf [(.set (.lit (.a [(.i 0),(.i 0),(.s ⟨#[]⟩),(.r [])])) 1 (.tok 0))])))
theorem qxg(g0:GfZ):CdZ [(q1q,g0)] z1p q26 Try.f50 qcl:=fun cd h=>by injection h with h;subst h;kernel_rfl
theorem z1i(h0:FOk q1q g0)(h:HgZ qcl q26 [(q1q,g0)] g):FOk q26 g:=jf (qxg g0) (.cons h0 .nil) rfl rfl qu0 (by decide) h
def yx:Ct:=⟨17,[.val (.str),.val (.row 46)],[(.st 45,false)],[],none,[],[]⟩
theorem qkq:EnZ yx:=fun _ _=>by kernel_rfl
def qpk:Ann:=⟨[0,1,4,7],[]⟩
def q8e:Tree:=(.br (.eq (.len (.tok 1)) (.lit (.i 0))) (.need [(.ok 0 [(.tok 0)])] (.leaf [(.call 0 0 [(.tok 0)])])) (.need [(.ok 1 [(.set (.set (.set (.lit (.a [(.i 0),(.i 0),(.s ⟨#[]⟩),(.r [])])) 0 (.lit (.i 3))) 2 (.tok 0)) 3 (.tok 1))])] (.leaf [(.call 1 0 [(.set (.set (.set (.lit (.a [(.i 0),(.i 0),(.s ⟨#[]⟩),(.r [])])) 0 (.lit (.i 3))) 2 (.tok 0)) 3 (.tok 1))])])))
theorem qn2(g0 g1:GfZ):CdZ [(zp,g0),(yk,g1)] qpk yx Try.f17 q8e:=fun cd h=>by injection h with h;subst h;kernel_rfl
theorem qph(h0:FOk zp g0)(h1:FOk yk g1)(h:HgZ q8e yx [(zp,g0),(yk,g1)] g):FOk yx g:=jf (qn2 g0 g1) (.cons h0 (.cons h1 .nil)) rfl rfl qkq (by decide) h
def q18:Ct:=⟨64,[.val (.row 46),.val (.st 45)],[(.st 45,false)],[],none,[],[]⟩
theorem qpm:EnZ q18:=fun _ _=>by kernel_rfl
def qwk:Ann:=⟨[0,1,3,4,5,7,8,9,17,21,22,23,24,38,47],[(5,⟨[(5,.int .i64,false),(23,.int .i64,false)],[4],[24,25,26,7,27,28,29,30,31,32,33,34,35,36,37,38,39,40],[]⟩),
 (13,⟨[(9,.int .i64,false)],[8],[46,47,50,51,52,53,54,55,56,57,48,49],[]⟩)]⟩
def q75:Tree:=
 let b:X:=.lit (.a [(.i 0),(.i 0),(.s ⟨#[]⟩),(.r [])])
 let c:X:=.len (.tok 0)
 let d:X:=.lit (.i 1)
 let e:X:=.tok 3
 let g:X:=.lit (.i 2000)
 let h:X:=.tok 5
 let i:X:=.lit (.i 0)
 let j:X:=.tok 1
 let k:X:=.get (.tok 0) e
 let a:X:=.add d (.call 1 0 [k])
 let f:X:=.add (.tok 2) a
 (.need [(.imp (.not (.lt g c)) (.ok 0 [j]))] (.br (.or (.lt g c) (.not (.call 0 0 [j]))) (.leaf [b]) (.need [(.ok 1 [j])] (.loop 5 2 [(.call 1 0 [j]),i,b] (.br (.lt e c) (.need [(.le i e),(.lt e c)] (.need [(.ok 1 [k]),(.rng .i64 a),(.rng .i64 f)] (.need [(.imp (.not (.lt g f)) (.ok 2 [k]))] (.br (.or (.lt g f) (.not (.call 2 0 [k]))) (.leaf [b]) (.need [(.rng .i64 (.add e d))] (.back 5 [f,(.add e d),(.tok 4)])))))) (.need [(.ok 3 [j])] (.need [(.rng .i64 (.sub c d))] (.loop 13 5 [(.sub c d),(.call 3 0 [j])] (.br (.le i h) (.need [(.ok 3 [(.get (.tok 0) h)]),(.le i h),(.lt h c)] (.need [(.rng .i64 (.sub h d))] (.back 13 [(.sub h d),(.set (.set (.set b 0 (.lit (.i 3))) 2 (.lit (.s ⟨#[46]⟩))) 3 (.row [(.call 3 0 [(.get (.tok 0) h)]),(.tok 6)]))]))) (.leaf [(.tok 6)]))))))))))
theorem qv0(g0 g1 g2 g3:GfZ):CdZ [(j5,g0),(q0b,g1),(yd,g2),(yk,g3)] qwk q18 Try.f64 q75:=fun cd h=>by injection h with h;subst h;kernel_rfl
theorem qik{g2 g3:GfZ}(h0:FOk j5 g0)(h1:FOk q0b g1)(h2:FOk yd g2)(h3:FOk yk g3)(h:HgZ q75 q18 [(j5,g0),(q0b,g1),(yd,g2),(yk,g3)] g):FOk q18 g:=jf (qv0 g0 g1 g2 g3) (.cons h0 (.cons h1 (.cons h2 (.cons h3 .nil)))) rfl rfl qpm (by decide) h
def ym:Ct:=⟨95,[.rref (.st 26),.val (.st 57)],[(.int .i64,false)],[],none,[],[]⟩
theorem qnr:EnZ ym:=fun _ _=>by kernel_rfl
def qtt:Ann:=⟨[0,1,3,4,5,10,11,12,22],[(2,⟨[(4,.int .i64,false),(11,.int .i64,false)],[],[12,13,5,14,15,16,17,18,19,20,21,22,23,24],[]⟩)]⟩
def q9g:Tree:=(.loop 2 2 [(.lit (.i 0)),(.lit (.i 0))] (.br (.lt (.tok 3) (.len (.fld (.tok 0) 1))) (.need [(.le (.lit (.i 0)) (.tok 3)),(.lt (.tok 3) (.len (.fld (.tok 0) 1)))] (.br (.eq (.get (.fld (.tok 0) 1) (.tok 3)) (.tok 1)) (.leaf [(.tok 3)]) (.need [(.rng .i64 (.add (.tok 3) (.lit (.i 1))))] (.back 2 [(.tok 2),(.add (.tok 3) (.lit (.i 1)))])))) (.leaf [(.lit (.i (-1)))])))
theorem qqt:CdZ [] qtt ym Try.f95 q9g:=fun cd h=>by injection h with h;subst h;kernel_rfl
theorem qvs(h:HgZ q9g ym [] g):FOk ym g:=jf (qqt) .nil rfl rfl qnr (by decide) h
def zi:Ct:=⟨81,[.ref (.st 26) true,.val (.str),.val (.int .i64)],[(.int .i64,false),(.int .i64,false)],[],none,[],[(0,0,.st 32),(0,1,.st 57),(0,2,.st 68),(0,3,.st 64)]⟩
theorem q2j:EnZ zi:=fun _ _=>by kernel_rfl
def qd1:Ann:=⟨[0,1,2,6,7,8,9,24,32,39],[]⟩
def q6z:Tree:=(.br (.or (.or (.lt (.lit (.i 100)) (.slen (.tok 1))) (.lt (.tok 2) (.lit (.i 0)))) (.lt (.lit (.i 8)) (.tok 2))) (.leaf [(.lit (.i 0)),(.lit (.i 1)),(.tok 0)]) (.need [(.ok 4 [(.tok 0),(.mk [(.tok 1),(.tok 2)])])] (.br (.le (.lit (.i 0)) (.call 4 0 [(.tok 0),(.mk [(.tok 1),(.tok 2)])])) (.leaf [(.call 4 0 [(.tok 0),(.mk [(.tok 1),(.tok 2)])]),(.lit (.i 0)),(.tok 0)]) (.br (.le (.lit (.i 1048576)) (.len (.fld (.tok 0) 1))) (.leaf [(.lit (.i 0)),(.lit (.i 13)),(.tok 0)]) (.need [(.le (.add (.len (.fld (.tok 0) 1)) (.lit (.i 1))) (.lit (.i 5864062014634))),(.le (.call 1 0 []) (.len (.fld (.tok 0) 1)))] (.need [(.rng .i64 (.sub (.len (.fld (.set (.tok 0) 1 (.app (.fld (.tok 0) 1) (.row [(.mk [(.tok 1),(.tok 2)])]))) 1)) (.lit (.i 1))))] (.leaf [(.sub (.len (.fld (.set (.tok 0) 1 (.app (.fld (.tok 0) 1) (.row [(.mk [(.tok 1),(.tok 2)])]))) 1)) (.lit (.i 1))),(.lit (.i 0)),(.set (.tok 0) 1 (.app (.fld (.tok 0) 1) (.row [(.mk [(.tok 1),(.tok 2)])])))])))))))
theorem qkv(m0 m1 m2 m3:Int)(g0:GfZ):CdZ [(q01 zi.f (.st 32),fun _=>some [.i m0]),(q01 zi.f (.st 57),fun _=>some [.i m1]),(q01 zi.f (.st 68),fun _=>some [.i m2]),(q01 zi.f (.st 64),fun _=>some [.i m3]),(ym,g0)] qd1 zi kX q6z:=fun cd h=>by injection h with h;subst h;kernel_rfl
theorem qmc{g0:List D→Option (List D)}{g:List D→Option (List D)}(h0:FOk ym g0)(h:∀ds outs,WfA zi.ars ds→g ds=some outs→q6z.go (qf [(q01 zi.f (.st 32),fun _=>some [.i (((ds.getD 0 .u).fld 0).rs.length:Nat)]),(q01 zi.f (.st 57),fun _=>some [.i (((ds.getD 0 .u).fld 1).rs.length:Nat)]),(q01 zi.f (.st 68),fun _=>some [.i (((ds.getD 0 .u).fld 2).rs.length:Nat)]),(q01 zi.f (.st 64),fun _=>some [.i (((ds.getD 0 .u).fld 3).rs.length:Nat)]),(ym,g0)]) (fun o=>o=outs) ds fun _ _=>False):FOk zi g:=
 FOk.of_at q2j fun ds outs hw hg=>z0z qd1 kX _ (.cons (q21 _ q2j _ _) (.cons (q21 _ q2j _ _) (.cons (q21 _ q2j _ _) (.cons (q21 _ q2j _ _) (.cons h0 .nil))))) rfl rfl (by decide) (by rw[qkv _ _ _ _ g0 _ rfl];exact h ds outs hw hg) rfl (FlF.of fun k j te hm=>by
  rw[show zi.fl=[(0,0,.st 32),(0,1,.st 57),(0,2,.st 68),(0,3,.st 64)] from rfl] at hm;simp only[gnM] at hm;rcases hm with⟨rfl,rfl,rfl⟩|⟨rfl,rfl,rfl⟩|⟨rfl,rfl,rfl⟩|⟨rfl,rfl,rfl⟩<;>exact⟨by decide,uB _⟩)
def jr:Ct:=⟨70,[.val (.int .i64)],[(.bool,false)],[],none,[],[]⟩
theorem qfb:EnZ jr:=fun _ _=>by kernel_rfl
def qid:Ann:=⟨[0,2],[]⟩
def q4a:Tree:=(.leaf [(.not (.eq (.tok 0) (.tok 0)))])
theorem qh5:CdZ [] qid jr Try.f70 q4a:=fun cd h=>by injection h with h;subst h;kernel_rfl
theorem qi0(h:HgZ q4a jr [] g):FOk jr g:=jf (qh5) .nil rfl rfl qfb (by decide) h
def qy:Ct:=⟨46,[.val (.int .i64),.val (.int .i64)],[(.int .i64,false)],[],none,[],[]⟩
theorem qd6:EnZ qy:=fun _ _=>by kernel_rfl
def qf5:Ann:=⟨[0,1,4,5,6,11,12,13,16,19],[]⟩
def q3m:Tree:=(.need [(.ok 0 [(.tok 0)])] (.need [(.ok 0 [(.tok 1)])] (.br (.call 0 0 [(.tok 0)]) (.br (.call 0 0 [(.tok 1)]) (.leaf [(.lit (.i 0))]) (.leaf [(.lit (.i (-1)))])) (.br (.call 0 0 [(.tok 1)]) (.leaf [(.lit (.i 1))]) (.br (.lt (.tok 0) (.tok 1)) (.leaf [(.lit (.i (-1)))]) (.br (.lt (.tok 1) (.tok 0)) (.leaf [(.lit (.i 1))]) (.leaf [(.lit (.i 0))])))))))
theorem qdg(g0:GfZ):CdZ [(jr,g0)] qf5 qy Try.f46 q3m:=fun cd h=>by injection h with h;subst h;kernel_rfl
theorem qf1(h0:FOk jr g0)(h:HgZ q3m qy [(jr,g0)] g):FOk qy g:=jf (qdg g0) (.cons h0 .nil) rfl rfl qd6 (by decide) h
def q1o:Ct:=⟨83,[.val (.st 97),.val (.int .i64)],[(.int .i64,false)],[],none,[],[]⟩
theorem qlj:EnZ q1o:=fun _ _=>by kernel_rfl
def qpz:Ann:=⟨[0,1,2,4],[]⟩
def q7t:Tree:=(.need [(.ok 0 [(.fld (.tok 0) 0),(.tok 1)])] (.leaf [(.call 0 0 [(.fld (.tok 0) 0),(.tok 1)])]))
theorem qoe(g0:GfZ):CdZ [(qy,g0)] qpz q1o Try.f83 q7t:=fun cd h=>by injection h with h;subst h;kernel_rfl
theorem qpl(h0:FOk qy g0)(h:HgZ q7t q1o [(qy,g0)] g):FOk q1o g:=jf (qoe g0) (.cons h0 .nil) rfl rfl qlj (by decide) h
def qn:Ct:=⟨82,[.val (.row 98),.val (.int .i64),.fn 83 []],[(.int .i64,false),(.bool,false)],[],none,[],[]⟩
theorem q4t:EnZ qn:=fun _ _=>by kernel_rfl
def q5i:Ann:=⟨[0,1,2,6,7,8,9,10,11,17,31],[(3,⟨[(9,.int .i64,false),(10,.int .i64,false)],[],[15,16,17,18,19,20,21,22,23,11,24,25,26,27,28,29,30,31,32,33,34],[]⟩)]⟩
def q03:Tree:=
 let c:X:=.tok 2
 let d:X:=.lit (.i 0)
 let e:X:=.tok 0
 let a:X:=.fn 8 [(.add c (.tok 3)),(.lit (.i 1))]
 let b:X:=.lt c (.len e)
 (.loop 3 2 [d,(.len e)] (.br (.lt c (.tok 3)) (.need [(.rng .i64 (.add c (.tok 3))),(.rng .u64 (.add c (.tok 3))),(.rng .u64 a),(.rng .i64 a)] (.need [(.le d a),(.lt a (.len e)),(.ok 0 [(.get e a),(.tok 1)])] (.br (.lt (.call 0 0 [(.get e a),(.tok 1)]) d) (.need [(.rng .i64 (.add a (.lit (.i 1))))] (.back 3 [(.add a (.lit (.i 1))),(.tok 3)])) (.back 3 [c,a])))) (.need [(.imp b (.le d c)),(.imp b b),(.imp b (.ok 0 [(.get e c),(.tok 1)]))] (.leaf [c,(.and b (.eq (.call 0 0 [(.get e c),(.tok 1)]) d))]))))
theorem q59(g0:GfZ):CdZ [(q1o,g0)] q5i qn Try.f82 q03:=fun cd h=>by injection h with h;subst h;kernel_rfl
theorem q5a(h0:FOk q1o g0)(h:HgZ q03 qn [(q1o,g0)] g):FOk qn g:=jf (q59 g0) (.cons h0 .nil) rfl rfl q4t (by decide) h
def q24:Ct:=⟨84,[.val (.st 32)],[(.st 32,false)],[],none,[],[]⟩
theorem qnf:EnZ q24:=fun _ _=>by kernel_rfl
def qu2:Ann:=⟨[0,1,2,5],[]⟩
def q9p:Tree:=(.br (.eq (.fld (.tok 0) 0) (.lit (.i 5))) (.leaf [(.set (.tok 0) 0 (.lit (.i 0)))]) (.leaf [(.tok 0)]))
theorem qpe:CdZ [] qu2 q24 Try.f84 q9p:=fun cd h=>by injection h with h;subst h;kernel_rfl
theorem qs4(h:HgZ q9p q24 [] g):FOk q24 g:=jf (qpe) .nil rfl rfl qnf (by decide) h
def qh:Ct:=⟨85,[.own (.row 98),.val (.int .i64),.own (.row 98)],[(.row 98,true)],[],none,[],[(999,0,.st 32),(999,1,.st 57),(999,2,.st 68),(999,3,.st 64)]⟩
theorem jo:EnZ qh:=fun _ _=>by kernel_rfl
def q52:Ann:=⟨[0,1,2,6,7,8,9,16,22,31,68],[]⟩
def q4f:Tree:=(.need [(.le (.lit (.i 0)) (.tok 1)),(.le (.tok 1) (.len (.tok 0)))] (.br (.eq (.len (.tok 2)) (.lit (.i 0))) (.leaf [(.tok 0)]) (.br (.eq (.tok 1) (.len (.tok 0))) (.need [(.le (.add (.len (.tok 0)) (.len (.tok 2))) (.lit (.i 5864062014634)))] (.leaf [(.app (.tok 0) (.tok 2))])) (.bad 8004))))
theorem qbd(m0 m1 m2 m3:Int):CdZ [(q01 qh.f (.st 32),fun _=>some [.i m0]),(q01 qh.f (.st 57),fun _=>some [.i m1]),(q01 qh.f (.st 68),fun _=>some [.i m2]),(q01 qh.f (.st 64),fun _=>some [.i m3])] q52 qh Try.f85 q4f:=fun cd h=>by injection h with h;subst h;kernel_rfl
def zd:Ct:=⟨80,[.val (.st 45),.val (.int .i64),.cell 37 5,.ref (.row 98) true,.cell 126 6],[(.st 32,false)],[(.cell 2,.ref (.st 26) true),(.cell 4,.fn 80 [2,3,4])],none,[],[(3,0,.st 32),(3,1,.st 57),(3,2,.st 68),(3,3,.st 64)]⟩
theorem q1s:EnZ zd:=fun _ _=>by kernel_rfl
def qej:Ann:=⟨[0,1,2,3,4,5,7,8,10,11,12,13,15,16,17,18,19,21,22,27,38,47,57,110,111,112,113],[(21,⟨[(112,.int .i64,false)],[3,100000],[113,114,115,116,17,16,117,118,119,120,18,121,122,123,124,19,125,126,127,128,129,130,131,132],[]⟩)]⟩
def q2f:Tree:=
 let e:X:=.fld (.tok 0) 3
 let f:X:=.tok 3
 let g:X:=.lit (.i 0)
 let h:X:=.lit (.b .true)
 let j:X:=.fld (.tok 0) 1
 let k:X:=.tok 2
 let l:X:=.call 0 0 []
 let p:X:=.lit (.i 1)
 let q:X:=.tok 4
 let r:X:=.tok 6
 let s:X:=.fld (.tok 0) 2
 let y:X:=.fld (.tok 0) 0
 let z:X:=.lit (.i 8796093021952)
 let d:X:=.call 6 0 [k,j]
 let m:X:=.le (.call 1 0 []) (.len (.fld f 1))
 let n:X:=.le (.call 2 0 []) (.len (.fld f 2))
 let o:X:=.le (.call 3 0 []) (.len (.fld f 3))
 let t:X:=.le l (.len (.fld f 0))
 let v:X:=.len e
 let w:X:=.row [(.mk [j,(.mk [g,(.tok 1)])])]
 let x:X:=.row [(.mk [j,(.call 8 0 [f])])]
 let a:X:=.call 5 2 [f,s,v]
 let c:X:=.set a 0 (.app (.fld a 0) (.row [(.mk [(.lit (.i 4)),(.call 5 0 [f,s,v])])]))
 let u:X:=.len (.fld a 0)
 let b:X:=.add (.add u p) q
 let i:X:=.call 4 2 [(.get e q),b,(.tok 5),r]
 (.br (.eq y p) (.leaf [(.mk [p,j]),k,f]) (.br (.eq y (.lit (.i 2))) (.need [(.ok 5 [f,s,g]),t,m,n,o] (.leaf [(.mk [(.lit (.i 2)),(.call 5 0 [f,s,g])]),k,(.call 5 2 [f,s,g])])) (.br (.eq y g) (.need [(.ok 6 [k,j])] (.br (.call 6 1 [k,j]) (.need [(.le g d),(.lt d (.len k)),(.ok 7 [(.fld (.get k d) 1)])] (.leaf [(.call 7 0 [(.fld (.get k d) 1)]),k,f])) (.br (.lt (.tok 1) g) (.need [(.ok 8 [f]),t,m,n,o] (.need [(.ok 9 [k,d,x]),h,h,h,h] (.leaf [(.call 8 0 [f]),(.call 9 0 [k,d,x]),(.call 8 2 [f])]))) (.need [(.ok 9 [k,d,w]),h,h,h,h] (.leaf [(.mk [g,(.tok 1)]),(.call 9 0 [k,d,w]),f]))))) (.need [(.ok 5 [f,s,v]),t,m,n,o] (.need [(.le (.add u p) z),(.le l u)] (.need [(.le g v),(.le v (.lit (.i 16777216))),(.le (.add (.len (.fld c 0)) v) z),(.le l (.len (.fld c 0)))] (.loop 21 4 [g,k,(.set c 0 (.app (.fld c 0) (.rep v (.lit (.a [(.i 0),(.i 0)])))))] (.br (.lt q v) (.need [(.le g q),(.lt q v)] (.need [(.rng .i64 (.add u p)),(.rng .i64 b)] (.need [(.ok 4 [(.get e q),b,(.tok 5),r]),(.le l (.len (.fld r 0))),(.le (.call 1 0 []) (.len (.fld r 1))),(.le (.call 2 0 []) (.len (.fld r 2))),(.le (.call 3 0 []) (.len (.fld r 3)))] (.need [(.le l b),(.le g b),(.lt b (.len (.fld i 0)))] (.need [(.rng .i64 (.add q p))] (.back 21 [(.add q p),(.call 4 1 [(.get e q),b,(.tok 5),r]),(.set i 0 (.put (.fld i 0) b (.call 4 0 [(.get e q),b,(.tok 5),r])))])))))) (.leaf [(.mk [(.lit (.i 3)),u]),(.tok 5),r])))))))))
theorem qml(m0 m1 m2 m3:Int)(g0 g1 g2 g3 g4 g5:GfZ):CdZ [(q01 zd.f (.st 32),fun _=>some [.i m0]),(q01 zd.f (.st 57),fun _=>some [.i m1]),(q01 zd.f (.st 68),fun _=>some [.i m2]),(q01 zd.f (.st 64),fun _=>some [.i m3]),(zd,g0),(zi,g1),(qn,g2),(q24,g3),(qv,g4),(qh,g5)] qej zd kY q2f:=fun cd h=>by injection h with h;subst h;kernel_rfl
theorem qqx{g0 g1 g2 g3 g4 g5:List D→Option (List D)}{g:List D→Option (List D)}(h0:FOk zd g0)(h1:FOk zi g1)(h2:FOk qn g2)(h3:FOk q24 g3)(h4:FOk qv g4)(h5:FOk qh g5)(h:∀ds outs,WfA zd.ars ds→g ds=some outs→q2f.go (qf [(q01 zd.f (.st 32),fun _=>some [.i (((ds.getD 3 .u).fld 0).rs.length:Nat)]),(q01 zd.f (.st 57),fun _=>some [.i (((ds.getD 3 .u).fld 1).rs.length:Nat)]),(q01 zd.f (.st 68),fun _=>some [.i (((ds.getD 3 .u).fld 2).rs.length:Nat)]),(q01 zd.f (.st 64),fun _=>some [.i (((ds.getD 3 .u).fld 3).rs.length:Nat)]),(zd,g0),(zi,g1),(qn,g2),(q24,g3),(qv,g4),(qh,g5)]) (fun o=>o=outs) ds fun _ _=>False):FOk zd g:=
 FOk.of_at q1s fun ds outs hw hg=>z0z qej kY _ (.cons (q21 _ q1s _ _) (.cons (q21 _ q1s _ _) (.cons (q21 _ q1s _ _) (.cons (q21 _ q1s _ _) (.cons h0 (.cons h1 (.cons h2 (.cons h3 (.cons h4 (.cons h5 .nil)))))))))) rfl rfl (by decide) (by rw[qml _ _ _ _ g0 g1 g2 g3 g4 g5 _ rfl];exact h ds outs hw hg) rfl (FlF.of fun k j te hm=>by
  rw[show zd.fl=[(3,0,.st 32),(3,1,.st 57),(3,2,.st 68),(3,3,.st 64)] from rfl] at hm;simp only[gnM] at hm;rcases hm with⟨rfl,rfl,rfl⟩|⟨rfl,rfl,rfl⟩|⟨rfl,rfl,rfl⟩|⟨rfl,rfl,rfl⟩<;>exact⟨by decide,uB _⟩)
def jp:Ct:=⟨77,[.val (.st 26),.val (.row 98)],[(.bool,false)],[],none,[],[]⟩
theorem qfc:EnZ jp:=fun _ _=>by kernel_rfl
def qi5:Ann:=⟨[0,1,2,4,5,6,7,8,9,10,43],[(2,⟨[(4,.bool,false),(9,.int .i64,false)],[],[10,11,12,13,6,5,14,15,16,17,18,19,20,21,22,23,24,25,26,27,28,29,30,31,32,33,34,35,36,37,38,39,40,41,42,43,44],[]⟩)]⟩
def q4g:Tree:=
 let d:X:=.tok 3
 let e:X:=.len (.tok 1)
 let f:X:=.lit (.i 0)
 let a:X:=.and (.not (.or (.lt (.fld (.get (.tok 1) d) 0) f) (.lt (.lit (.i 1099511627776)) (.fld (.get (.tok 1) d) 0)))) (.lt f d)
 let c:X:=.sub d (.lit (.i 1))
 let g:X:=.fld (.get (.tok 1) d) 1
 let b:X:=.or (.or (.lt (.fld (.get (.tok 1) d) 0) f) (.lt (.lit (.i 1099511627776)) (.fld (.get (.tok 1) d) 0))) (.and (.lt f d) (.le (.fld (.get (.tok 1) d) 0) (.fld (.get (.tok 1) c) 0)))
 let h:X:=.rng .i64 c
 (.loop 2 2 [(.lit (.b .false)),f] (.br (.lt d e) (.need [(.le f d),(.lt d e)] (.need [(.imp (.not b) (.ok 0 [(.tok 0),g])),(.imp a (.le f c)),(.imp a (.lt c e)),(.imp a (.le f c)),(.imp a (.lt c e)),(.imp a h),(.imp a h),(.imp a h)] (.br (.or b (.not (.call 0 0 [(.tok 0),g]))) (.leaf [(.lit (.b .false))]) (.need [(.rng .i64 (.add d (.lit (.i 1))))] (.back 2 [(.tok 2),(.add d (.lit (.i 1)))]))))) (.leaf [(.lit (.b .true))])))
theorem qgl(g0:GfZ):CdZ [(qb,g0)] qi5 jp Try.f77 q4g:=fun cd h=>by injection h with h;subst h;kernel_rfl
theorem qhw(h0:FOk qb g0)(h:HgZ q4g jp [(qb,g0)] g):FOk jp g:=jf (qgl g0) (.cons h0 .nil) rfl rfl qfc (by decide) h
def zn:Ct:=⟨94,[.val (.st 45),.ref (.map 58 4) true,.cell 37 5,.ref (.int .i64) true,.cell 137 6],[],[(.cell 2,.rref (.st 26)),(.cell 4,.fn 94 [1,2,3,4])],none,[],[]⟩
theorem qas:EnZ zn:=fun _ _=>by kernel_rfl
def qmi:Ann:=⟨[0,1,2,3,4,5,6,8,16,32,37,45,46,47,48],[(8,⟨[(47,.int .i64,false)],[1,3],[48,49,50,8,51,52,53,54],[]⟩)]⟩
def q6x:Tree:=
 let a:X:=.fld (.tok 0) 3
 let b:X:=.tok 4
 let f:X:=.lit (.i 1)
 let h:X:=.lit (.i 0)
 let k:X:=.eq (.fld (.tok 0) 0) (.lit (.i 3))
 let n:X:=.tok 1
 let s:X:=.tok 5
 let t:X:=.tok 6
 let c:X:=.call 0 0 [(.get a b),s,t,(.tok 3)]
 let d:X:=.call 0 1 [(.get a b),s,t,(.tok 3)]
 let e:X:=.ok 0 [(.get a b),s,t,(.tok 3)]
 let g:X:=.len a
 let o:X:=.add b f
 let r:X:=.le h b
 let i:X:=.mk [(.fld (.tok 0) 2),g]
 let j:X:=.add (.tok 2) (.add g f)
 let l:X:=.rng .i64 o
 let m:X:=.lt b g
 let p:X:=.rng .i64 (.add g f)
 let q:X:=.not (.fn 0 [n,i,(.lit (.b .false))])
 let u:X:=.fn 2 [n,i,(.lit (.b .true))]
 let v:X:=.rng .i64 j
 (.br (.or (.eq (.fld (.tok 0) 0) (.lit (.i 2))) k) (.need [(.imp q (.ok 1 [(.tok 3),i]))] (.br (.and q (.lt (.call 1 0 [(.tok 3),i]) h)) (.br k (.need [p,v] (.loop 8 4 [h,u,j] (.br m (.need [r,m] (.need [e] (.need [l] (.back 8 [o,c,d])))) (.leaf [s,t])))) (.loop 8 4 [h,u,(.tok 2)] (.br m (.need [r,m] (.need [e] (.need [l] (.back 8 [o,c,d])))) (.leaf [s,t])))) (.br k (.need [p,v] (.loop 8 4 [h,n,j] (.br m (.need [r,m] (.need [e] (.need [l] (.back 8 [o,c,d])))) (.leaf [s,t])))) (.loop 8 4 [h,n,(.tok 2)] (.br m (.need [r,m] (.need [e] (.need [l] (.back 8 [o,c,d])))) (.leaf [s,t])))))) (.br k (.need [p,v] (.loop 8 4 [h,n,j] (.br m (.need [r,m] (.need [e] (.need [l] (.back 8 [o,c,d])))) (.leaf [s,t])))) (.loop 8 4 [h,n,(.tok 2)] (.br m (.need [r,m] (.need [e] (.need [l] (.back 8 [o,c,d])))) (.leaf [s,t])))))
theorem qkt(g0 g1:GfZ):CdZ [(zn,g0),(ym,g1)] qmi zn Try.f94 q6x:=fun cd h=>by injection h with h;subst h;kernel_rfl
theorem qmp(h0:FOk zn g0)(h1:FOk ym g1)(h:HgZ q6x zn [(zn,g0),(ym,g1)] g):FOk zn g:=jf (qkt g0 g1) (.cons h0 (.cons h1 .nil)) rfl rfl qas (by decide) h
def q29:Ct:=⟨78,[.rref (.st 26),.val (.st 45),.val (.row 98)],[(.bool,false)],[],none,[],[]⟩
theorem qo2:EnZ q29:=fun _ _=>by kernel_rfl
def qtu:Ann:=⟨[0,1,2,3,4,6,7,9,10,11,14,23],[]⟩
def q9q:Tree:=
 let a:X:=.le (.call 0 1 [(.tok 1),(.lit (.mp [])),(.lit (.i 0)),(.tok 0)]) (.fn 18 [(.fld (.tok 0) 5),(.len (.fld (.tok 0) 0))])
 let b:X:=.fn 3 [(.call 0 0 [(.tok 1),(.lit (.mp [])),(.lit (.i 0)),(.tok 0)])]
 let c:X:=.le (.call 0 1 [(.tok 1),(.lit (.mp [])),(.lit (.i 1)),(.tok 0)]) (.fn 18 [(.fld (.tok 0) 5),(.len (.fld (.tok 0) 0))])
 let d:X:=.fn 3 [(.call 0 0 [(.tok 1),(.lit (.mp [])),(.lit (.i 1)),(.tok 0)])]
 let e:X:=.sub (.lit (.i 1048576)) (.len (.fld (.tok 0) 1))
 let g:X:=.ok 0 [(.tok 1),(.lit (.mp [])),(.lit (.i 0)),(.tok 0)]
 let f:X:=.rng .i64 b
 let h:X:=.rng .i64 d
 let i:X:=.rng .i64 e
 (.br (.eq (.fld (.tok 1) 0) (.lit (.i 0))) (.need [(.ok 1 [(.tok 2),(.fld (.tok 1) 1)])] (.br (.not (.call 1 1 [(.tok 2),(.fld (.tok 1) 1)])) (.need [(.rng .i64 (.lit (.i 1)))] (.need [(.ok 0 [(.tok 1),(.lit (.mp [])),(.lit (.i 1)),(.tok 0)])] (.need [(.imp c h),(.imp c h),(.imp c i),(.imp c h),(.imp c h)] (.leaf [(.and c (.le d e))])))) (.need [g] (.need [(.imp a f),(.imp a f),(.imp a i),(.imp a f),(.imp a f)] (.leaf [(.and a (.le b e))]))))) (.need [g] (.need [(.imp a f),(.imp a f),(.imp a i),(.imp a f),(.imp a f)] (.leaf [(.and a (.le b e))]))))
theorem qqh(g0 g1:GfZ):CdZ [(zn,g0),(qn,g1)] qtu q29 Try.f78 q9q:=fun cd h=>by injection h with h;subst h;kernel_rfl
theorem qu8(h0:FOk zn g0)(h1:FOk qn g1)(h:HgZ q9q q29 [(zn,g0),(qn,g1)] g):FOk q29 g:=jf (qqh g0 g1) (.cons h0 (.cons h1 .nil)) rfl rfl qo2 (by decide) h
def yg:Ct:=⟨79,[.val (.row 98)],[(.row 98,true)],[],none,[],[]⟩
theorem qbg:EnZ yg:=fun _ _=>by kernel_rfl
def qci:Ann:=⟨[0,2,4],[]⟩
def q51:Tree:=(.amb (.tok 0) .false (.leaf [(.lit (.r []))]) (.need [(.le (.add (.lit (.i 0)) (.len (.tok 0))) (.lit (.i 5864062014634)))] (.leaf [(.app (.row []) (.tok 0))])))
theorem qbi:CdZ [] qci yg Try.f79 q51:=fun cd h=>by injection h with h;subst h;kernel_rfl
theorem qc6(h:HgZ q51 yg [] g):FOk yg g:=jf (qbi) .nil rfl rfl qbg (by decide) h
def zu:Ct:=⟨51,[.ref (.st 26) true,.val (.st 45),.val (.row 98)],[(.st 32,false),(.row 98,true),(.int .i64,false)],[],none,[],[(0,0,.st 32),(0,1,.st 57),(0,2,.st 68),(0,3,.st 64)]⟩
theorem q3o:EnZ zu:=fun _ _=>by kernel_rfl
def qin:Ann:=⟨[0,1,2,3,4,6,7,8,9,24,30],[]⟩
def qaw:Tree:=(.need [(.ok 5 [(.tok 1)]),(.imp (.not (.not (.call 5 0 [(.tok 1)]))) (.ok 6 [(.tok 0),(.tok 2)]))] (.br (.or (.not (.call 5 0 [(.tok 1)])) (.not (.call 6 0 [(.tok 0),(.tok 2)]))) (.leaf [(.lit (.a [(.i 0),(.i 0)])),(.lit (.r [])),(.lit (.i 1)),(.tok 0)]) (.need [(.ok 7 [(.tok 0),(.tok 1),(.tok 2)])] (.br (.not (.call 7 0 [(.tok 0),(.tok 1),(.tok 2)])) (.leaf [(.lit (.a [(.i 0),(.i 0)])),(.lit (.r [])),(.lit (.i 13)),(.tok 0)]) (.need [(.ok 8 [(.tok 2)])] (.need [(.ok 4 [(.tok 1),(.lit (.i (-1))),(.call 8 0 [(.tok 2)]),(.tok 0)]),(.le (.call 0 0 []) (.len (.fld (.tok 0) 0))),(.le (.call 1 0 []) (.len (.fld (.tok 0) 1))),(.le (.call 2 0 []) (.len (.fld (.tok 0) 2))),(.le (.call 3 0 []) (.len (.fld (.tok 0) 3)))] (.leaf [(.call 4 0 [(.tok 1),(.lit (.i (-1))),(.call 8 0 [(.tok 2)]),(.tok 0)]),(.call 4 1 [(.tok 1),(.lit (.i (-1))),(.call 8 0 [(.tok 2)]),(.tok 0)]),(.lit (.i 0)),(.call 4 2 [(.tok 1),(.lit (.i (-1))),(.call 8 0 [(.tok 2)]),(.tok 0)])])))))))
theorem qst(m0 m1 m2 m3:Int)(g0 g1 g2 g3 g4:GfZ):CdZ [(q01 zu.f (.st 32),fun _=>some [.i m0]),(q01 zu.f (.st 57),fun _=>some [.i m1]),(q01 zu.f (.st 68),fun _=>some [.i m2]),(q01 zu.f (.st 64),fun _=>some [.i m3]),(zd,g0),(j5,g1),(jp,g2),(q29,g3),(yg,g4)] qin zu kZ qaw:=fun cd h=>by injection h with h;subst h;kernel_rfl
theorem qwz{g0 g1 g2 g3 g4:List D→Option (List D)}{g:List D→Option (List D)}(h0:FOk zd g0)(h1:FOk j5 g1)(h2:FOk jp g2)(h3:FOk q29 g3)(h4:FOk yg g4)(h:∀ds outs,WfA zu.ars ds→g ds=some outs→qaw.go (qf [(q01 zu.f (.st 32),fun _=>some [.i (((ds.getD 0 .u).fld 0).rs.length:Nat)]),(q01 zu.f (.st 57),fun _=>some [.i (((ds.getD 0 .u).fld 1).rs.length:Nat)]),(q01 zu.f (.st 68),fun _=>some [.i (((ds.getD 0 .u).fld 2).rs.length:Nat)]),(q01 zu.f (.st 64),fun _=>some [.i (((ds.getD 0 .u).fld 3).rs.length:Nat)]),(zd,g0),(j5,g1),(jp,g2),(q29,g3),(yg,g4)]) (fun o=>o=outs) ds fun _ _=>False):FOk zu g:=
 FOk.of_at q3o fun ds outs hw hg=>z0z qin kZ _ (.cons (q21 _ q3o _ _) (.cons (q21 _ q3o _ _) (.cons (q21 _ q3o _ _) (.cons (q21 _ q3o _ _) (.cons h0 (.cons h1 (.cons h2 (.cons h3 (.cons h4 .nil))))))))) rfl rfl (by decide) (by rw[qst _ _ _ _ g0 g1 g2 g3 g4 _ rfl];exact h ds outs hw hg) rfl (FlF.of fun k j te hm=>by
  rw[show zu.fl=[(0,0,.st 32),(0,1,.st 57),(0,2,.st 68),(0,3,.st 64)] from rfl] at hm;simp only[gnM] at hm;rcases hm with⟨rfl,rfl,rfl⟩|⟨rfl,rfl,rfl⟩|⟨rfl,rfl,rfl⟩|⟨rfl,rfl,rfl⟩<;>exact⟨by decide,uB _⟩)
def q1p:Ct:=⟨62,[.val (.st 80),.rref (.str)],[(.bool,false)],[],none,[],[]⟩
theorem ql6:EnZ q1p:=fun _ _=>by kernel_rfl
def qpc:Ann:=⟨[0,1,2,3],[]⟩
def q83:Tree:=(.leaf [(.eq (.fld (.tok 0) 0) (.tok 1))])
theorem qni:CdZ [] qpc q1p Try.f62 q83:=fun cd h=>by injection h with h;subst h;kernel_rfl
theorem qq1(h:HgZ q83 q1p [] g):FOk q1p g:=jf (qni) .nil rfl rfl ql6 (by decide) h
def zf:Ct:=⟨61,[.val (.row 81),.fn 62 [2]],[(.int .i64,false)],[(.cap 1 0,.rref (.str))],none,[],[]⟩
theorem q6o:EnZ zf:=fun _ _=>by kernel_rfl
def q8b:Ann:=⟨[0,1,4,5,7,8,9,16],[(2,⟨[(4,.int .i64,false),(8,.int .i64,false)],[],[9,10,5,11,12,13,14,15,16,17,18],[]⟩)]⟩
def q0r:Tree:=(.loop 2 2 [(.lit (.i 0)),(.lit (.i 0))] (.br (.lt (.tok 3) (.len (.tok 0))) (.need [(.le (.lit (.i 0)) (.tok 3)),(.lt (.tok 3) (.len (.tok 0))),(.ok 0 [(.get (.tok 0) (.tok 3)),(.tok 1)])] (.br (.call 0 0 [(.get (.tok 0) (.tok 3)),(.tok 1)]) (.leaf [(.tok 3)]) (.need [(.rng .i64 (.add (.tok 3) (.lit (.i 1))))] (.back 2 [(.tok 2),(.add (.tok 3) (.lit (.i 1)))])))) (.leaf [(.lit (.i (-1)))])))
theorem q7f(g0:GfZ):CdZ [(q1p,g0)] q8b zf Try.f61 q0r:=fun cd h=>by injection h with h;subst h;kernel_rfl
theorem q84(h0:FOk q1p g0)(h:HgZ q0r zf [(q1p,g0)] g):FOk zf g:=jf (q7f g0) (.cons h0 .nil) rfl rfl q6o (by decide) h
def yr:Ct:=⟨38,[.val (.row 81),.val (.str)],[(.int .i64,false)],[],none,[],[]⟩
theorem qqd:EnZ yr:=fun _ _=>by kernel_rfl
def qxl:Ann:=⟨[0,1,3,4],[]⟩
def qb8:Tree:=(.need [(.ok 0 [(.tok 0),(.tok 1)])] (.leaf [(.call 0 0 [(.tok 0),(.tok 1)])]))
theorem qvj(g0:GfZ):CdZ [(zf,g0)] qxl yr Try.f38 qb8:=fun cd h=>by injection h with h;subst h;kernel_rfl
theorem qwl(h0:FOk zf g0)(h:HgZ qb8 yr [(zf,g0)] g):FOk yr g:=jf (qvj g0) (.cons h0 .nil) rfl rfl qqd (by decide) h
def jb:Ct:=⟨40,[.ref (.st 26) true,.val (.row 81)],[(.st 32,false),(.int .i64,false)],[],none,[],[]⟩
theorem qm8:EnZ jb:=fun _ _=>by kernel_rfl
def qsz:Ann:=⟨[0,1,4,5,6,7,8,9,10,11,12,13],[(4,⟨[(6,.row 46,false),(7,.row 98,false),(12,.int .i64,false)],[],[13,14,15,16,9,8,17,18,19,20,21,22,23,24,25,26,27,28,29,30,31,32,33,34],[]⟩)]⟩
def q5m:Tree:=
 let b:X:=.tok 4
 let d:X:=.lit (.i 1)
 let e:X:=.tok 3
 let f:X:=.lit (.s ⟨#[91,93]⟩)
 let h:X:=.lit (.s ⟨#[45]⟩)
 let a:X:=.call 3 0 [(.tok 2),(.call 0 0 [f])]
 let c:X:=.row [(.call 0 0 [(.fld (.get (.tok 1) b) 0)]),(.call 1 0 [b])]
 let g:X:=.lt b (.len (.tok 1))
 (.loop 4 2 [(.lit (.r [])),(.lit (.r [])),(.lit (.i 0))] (.br g (.need [(.le (.lit (.i 0)) b),g] (.need [(.ok 0 [(.fld (.get (.tok 1) b) 0)]),(.ok 1 [b]),(.ok 2 [h,c]),(.le (.add (.len (.tok 2)) d) (.lit (.i 2513169434843)))] (.need [(.le (.add (.len e) d) (.lit (.i 5864062014634)))] (.need [(.rng .i64 (.add b d))] (.back 4 [(.app (.tok 2) (.row [(.call 2 0 [h,c])])),(.app e (.row [(.mk [b,(.fld (.get (.tok 1) b) 1)])])),(.add b d)]))))) (.need [(.ok 0 [f]),(.ok 3 [(.tok 2),(.call 0 0 [f])]),(.ok 4 [(.tok 0),a,e])] (.leaf [(.call 4 0 [(.tok 0),a,e]),(.call 4 2 [(.tok 0),a,e]),(.call 4 3 [(.tok 0),a,e])]))))
theorem qqm(g0 g1 g2 g3 g4:GfZ):CdZ [(zp,g0),(q26,g1),(yx,g2),(q18,g3),(zu,g4)] qsz jb Try.f40 q5m:=fun cd h=>by injection h with h;subst h;kernel_rfl
theorem qge{g2 g3 g4:GfZ}(h0:FOk zp g0)(h1:FOk q26 g1)(h2:FOk yx g2)(h3:FOk q18 g3)(h4:FOk zu g4)(h:HgZ q5m jb [(zp,g0),(q26,g1),(yx,g2),(q18,g3),(zu,g4)] g):FOk jb g:=jf (qqm g0 g1 g2 g3 g4) (.cons h0 (.cons h1 (.cons h2 (.cons h3 (.cons h4 .nil))))) rfl rfl qm8 (by decide) h
def q1m:Ct:=⟨65,[.rref (.st 26),.val (.int .i64)],[(.bool,false)],[],none,[],[]⟩
theorem qt7:EnZ q1m:=fun _ _=>by kernel_rfl
def z37:Ann:=⟨[0,1,4],[]⟩
def qck:Tree:=(.leaf [(.and (.le (.lit (.i 0)) (.tok 1)) (.lt (.tok 1) (.len (.fld (.tok 0) 0))))])
theorem qxq:CdZ [] z37 q1m Try.f65 qck:=fun cd h=>by injection h with h;subst h;kernel_rfl
theorem z36(h:HgZ qck q1m [] g):FOk q1m g:=jf (qxq) .nil rfl rfl qt7 (by decide) h
def q05:Ct:=⟨66,[.rref (.st 26),.val (.int .i64)],[(.bool,false)],[],none,[],[]⟩
theorem qgk:EnZ q05:=fun _ _=>by kernel_rfl
def qk1:Ann:=⟨[0,1,4,5,14,15,21,23],[]⟩
def q57:Tree:=
 let a:X:=.sub (.tok 1) (.lit (.i 2))
 let b:X:=.le (.lit (.i 2)) (.tok 1)
 let c:X:=.fld (.get (.fld (.tok 0) 0) (.tok 1)) 0
 let e:X:=.len (.fld (.tok 0) 0)
 let f:X:=.lit (.i 0)
 let g:X:=.lit (.b .false)
 let d:X:=.and b (.eq (.fld (.get (.fld (.tok 0) 0) a) 0) (.lit (.i 5)))
 let h:X:=.rng .i64 a
 (.need [(.le f (.tok 1)),(.lt (.tok 1) e)] (.br (.eq c f) (.leaf [(.eq (.get (.fld (.tok 0) 0) (.tok 1)) (.mk [f,(.tok 1)]))]) (.br (.eq c (.lit (.i 5))) (.leaf [(.lit (.b .true))]) (.br (.eq c (.lit (.i 1))) (.br (.eq c (.lit (.i 1))) (.need [(.imp b h),(.imp b (.le f a)),(.imp b (.lt a e))] (.leaf [d])) (.leaf [g])) (.br (.eq c (.lit (.i 2))) (.br (.eq c (.lit (.i 2))) (.need [(.imp b h),(.imp b (.le f a)),(.imp b (.lt a e))] (.leaf [d])) (.leaf [g])) (.br (.eq c (.lit (.i 3))) (.need [(.imp b h),(.imp b (.le f a)),(.imp b (.lt a e))] (.leaf [d])) (.leaf [g])))))))
theorem qhq:CdZ [] qk1 q05 Try.f66 q57:=fun cd h=>by injection h with h;subst h;kernel_rfl
theorem qjr(h:HgZ q57 q05 [] g):FOk q05 g:=jf (qhq) .nil rfl rfl qgk (by decide) h
def q27:Ct:=⟨68,[.val (.st 32)],[(.st 32,false)],[],none,[],[]⟩
theorem qo0:EnZ q27:=fun _ _=>by kernel_rfl
def qtd:Ann:=⟨[0,1,2,5],[]⟩
def q9h:Tree:=(.br (.eq (.fld (.tok 0) 0) (.lit (.i 5))) (.leaf [(.set (.tok 0) 0 (.lit (.i 0)))]) (.leaf [(.tok 0)]))
theorem qr0:CdZ [] qtd q27 Try.f68 q9h:=fun cd h=>by injection h with h;subst h;kernel_rfl
theorem qw0(h:HgZ q9h q27 [] g):FOk q27 g:=jf (qr0) .nil rfl rfl qo0 (by decide) h
def q1l:Ct:=⟨67,[.rref (.st 26),.val (.st 32),.val (.int .i64)],[(.bool,false)],[],none,[],[]⟩
theorem qlt:EnZ q1l:=fun _ _=>by kernel_rfl
def qpg:Ann:=⟨[0,1,2,4,6,7,13,14,15,25,29,40],[(2,⟨[(6,.bool,false),(14,.int .i64,false)],[4],[15,16,17,18,19,20,21,22,23,24,25,26,27,28,29,30,31,32,33,34,35,36,37,7,38,39,40,41,42],[]⟩)]⟩
def q80:Tree:=(.need [(.rng .i64 (.add (.len (.fld (.tok 0) 0)) (.lit (.i 1))))] (.loop 2 3 [(.lit (.b .false)),(.lit (.i 0)),(.tok 1)] (.br (.lt (.tok 4) (.add (.len (.fld (.tok 0) 0)) (.lit (.i 1)))) (.need [(.imp (.not (.not (.eq (.fld (.tok 5) 0) (.lit (.i 0))))) (.ok 0 [(.tok 0),(.fld (.tok 5) 1)]))] (.br (.or (.not (.eq (.fld (.tok 5) 0) (.lit (.i 0)))) (.not (.call 0 0 [(.tok 0),(.fld (.tok 5) 1)]))) (.leaf [(.lit (.b .false))]) (.br (.eq (.fld (.tok 5) 1) (.tok 2)) (.leaf [(.lit (.b .true))]) (.need [(.le (.lit (.i 0)) (.fld (.tok 5) 1)),(.lt (.fld (.tok 5) 1) (.len (.fld (.tok 0) 0)))] (.br (.eq (.get (.fld (.tok 0) 0) (.fld (.tok 5) 1)) (.tok 5)) (.leaf [(.lit (.b .false))]) (.need [(.rng .i64 (.add (.tok 4) (.lit (.i 1))))] (.back 2 [(.tok 3),(.add (.tok 4) (.lit (.i 1))),(.get (.fld (.tok 0) 0) (.fld (.tok 5) 1))]))))))) (.leaf [(.lit (.b .false))]))))
theorem qnz(g0:GfZ):CdZ [(q1m,g0)] qpg q1l Try.f67 q80:=fun cd h=>by injection h with h;subst h;kernel_rfl
theorem qps(h0:FOk q1m g0)(h:HgZ q80 q1l [(q1m,g0)] g):FOk q1l g:=jf (qnz g0) (.cons h0 .nil) rfl rfl qlt (by decide) h
def zo:Ct:=⟨41,[.ref (.st 26) true,.val (.int .i64),.val (.st 32)],[(.int .i64,false)],[],none,[],[]⟩
theorem qqk:EnZ zo:=fun _ _=>by kernel_rfl
def qxn:Ann:=⟨[0,1,2,5,6,35],[]⟩
def qb5:Tree:=
 let c:X:=.tok 0
 let d:X:=.tok 1
 let e:X:=.tok 2
 let h:X:=.lit (.i 0)
 let b:X:=.set c 2 (.app (.fld c 2) (.row [(.mk [d,(.get (.fld c 0) d)])]))
 let f:X:=.call 3 0 [e]
 let g:X:=.not (.call 0 0 [c,d])
 let a:X:=.or (.or g (.not (.call 1 0 [c,e]))) (.not (.call 2 0 [c,d]))
 (.need [(.imp (.not a) (.ok 4 [c,f,d])),(.imp (.not a) (.ok 3 [e])),(.imp (.not a) (.ok 3 [e])),(.imp (.not (.or g (.not (.call 1 0 [c,e])))) (.ok 2 [c,d])),(.imp (.not g) (.ok 1 [c,e])),(.ok 0 [c,d])] (.br (.or a (.call 4 0 [c,f,d])) (.leaf [(.lit (.i 1)),c]) (.need [(.le h d),(.lt d (.len (.fld c 0))),(.le (.add (.len (.fld c 2)) (.lit (.i 1))) (.lit (.i 5864062014634)))] (.need [(.ok 3 [e]),(.le h d),(.lt d (.len (.fld b 0)))] (.leaf [h,(.set b 0 (.put (.fld b 0) d f))])))))
theorem qsr(g0 g1 g2 g3 g4:GfZ):CdZ [(q1m,g0),(qb,g1),(q05,g2),(q27,g3),(q1l,g4)] qxn zo Try.f41 qb5:=fun cd h=>by injection h with h;subst h;kernel_rfl
theorem qwx{g2 g3 g4:GfZ}(h0:FOk q1m g0)(h1:FOk qb g1)(h2:FOk q05 g2)(h3:FOk q27 g3)(h4:FOk q1l g4)(h:HgZ qb5 zo [(q1m,g0),(qb,g1),(q05,g2),(q27,g3),(q1l,g4)] g):FOk zo g:=jf (qsr g0 g1 g2 g3 g4) (.cons h0 (.cons h1 (.cons h2 (.cons h3 (.cons h4 .nil))))) rfl rfl qqk (by decide) h
def q1g:Ct:=⟨69,[.val (.st 32)],[(.st 32,false)],[],none,[],[]⟩
theorem qpv:EnZ q1g:=fun _ _=>by kernel_rfl
def qxe:Ann:=⟨[0,1,2,5],[]⟩
def qb1:Tree:=(.br (.eq (.fld (.tok 0) 0) (.lit (.i 5))) (.leaf [(.set (.tok 0) 0 (.lit (.i 0)))]) (.leaf [(.tok 0)]))
theorem qwf:CdZ [] qxe q1g Try.f69 qb1:=fun cd h=>by injection h with h;subst h;kernel_rfl
theorem qx0(h:HgZ qb1 q1g [] g):FOk q1g g:=jf (qwf) .nil rfl rfl qpv (by decide) h
def q1e:Ct:=⟨43,[.ref (.st 26) true,.val (.st 32),.val (.st 32)],[(.int .i64,false)],[],none,[],[]⟩
theorem qql:EnZ q1e:=fun _ _=>by kernel_rfl
def qx4:Ann:=⟨[0,1,2,4,5,6,7,8,37],[]⟩
def q6t:Tree:=(.need [(.ok 0 [(.tok 2)]),(.ok 0 [(.tok 2)]),(.le (.lit (.i 0)) (.add (.fld (.tok 1) 1) (.lit (.i 2)))),(.lt (.add (.fld (.tok 1) 1) (.lit (.i 2))) (.len (.fld (.tok 0) 0))),(.rng .i64 (.add (.fld (.tok 1) 1) (.lit (.i 2)))),(.le (.lit (.i 0)) (.add (.fld (.tok 1) 1) (.lit (.i 1)))),(.lt (.add (.fld (.tok 1) 1) (.lit (.i 1))) (.len (.fld (.tok 0) 0))),(.rng .i64 (.add (.fld (.tok 1) 1) (.lit (.i 1))))] (.need [(.ok 1 [(.tok 0),(.fld (.tok 1) 1),(.tok 2)])] (.br (.not (.eq (.call 1 0 [(.tok 0),(.fld (.tok 1) 1),(.tok 2)]) (.lit (.i 0)))) (.leaf [(.call 1 0 [(.tok 0),(.fld (.tok 1) 1),(.tok 2)]),(.call 1 1 [(.tok 0),(.fld (.tok 1) 1),(.tok 2)])]) (.need [(.le (.add (.len (.fld (.call 1 1 [(.tok 0),(.fld (.tok 1) 1),(.tok 2)]) 3)) (.lit (.i 1))) (.lit (.i 3518437208780)))] (.leaf [(.lit (.i 0)),(.set (.call 1 1 [(.tok 0),(.fld (.tok 1) 1),(.tok 2)]) 3 (.app (.fld (.call 1 1 [(.tok 0),(.fld (.tok 1) 1),(.tok 2)]) 3) (.row [(.mk [(.fld (.get (.fld (.tok 0) 0) (.add (.fld (.tok 1) 1) (.lit (.i 1)))) 1),(.get (.fld (.tok 0) 0) (.add (.fld (.tok 1) 1) (.lit (.i 2)))),(.call 0 0 [(.tok 2)])])])))])))))
theorem qsu(g0 g1:GfZ):CdZ [(q1g,g0),(zo,g1)] qx4 q1e Try.f43 q6t:=fun cd h=>by injection h with h;subst h;kernel_rfl
theorem qiv(h0:FOk q1g g0)(h1:FOk zo g1)(h:HgZ q6t q1e [(q1g,g0),(zo,g1)] g):FOk q1e g:=jf (qsu g0 g1) (.cons h0 (.cons h1 .nil)) rfl rfl qql (by decide) h
def q19:Ct:=⟨45,[.val (.row 3)],[(.int .i64,false)],[],none,[],[]⟩
theorem qn7:EnZ q19:=fun _ _=>by kernel_rfl
def qu7:Ann:=⟨[0,2,3,5,6,7,8,9,14],[(3,⟨[(2,.int .i64,false),(8,.int .i64,false)],[],[9,10,11,5,12,13,14,15,16],[]⟩)]⟩
def q9s:Tree:=(.loop 3 1 [(.lit (.i 0)),(.lit (.i 0))] (.br (.lt (.tok 2) (.len (.tok 0))) (.need [(.le (.lit (.i 0)) (.tok 2)),(.lt (.tok 2) (.len (.tok 0)))] (.br (.not (.eq (.get (.tok 0) (.tok 2)) (.lit (.i 0)))) (.leaf [(.get (.tok 0) (.tok 2))]) (.need [(.rng .i64 (.add (.tok 2) (.lit (.i 1))))] (.back 3 [(.tok 1),(.add (.tok 2) (.lit (.i 1)))])))) (.leaf [(.lit (.i 0))])))
theorem qr1:CdZ [] qu7 q19 Try.f45 q9s:=fun cd h=>by injection h with h;subst h;kernel_rfl
theorem qth(h:HgZ q9s q19 [] g):FOk q19 g:=jf (qr1) .nil rfl rfl qn7 (by decide) h
def q1h:Ct:=⟨13,[.ref (.st 26) true,.val (.st 32),.val (.st 32)],[(.int .i64,false)],[],none,[],[]⟩
theorem qq0:EnZ q1h:=fun _ _=>by kernel_rfl
def qwm:Ann:=⟨[0,1,2,4,5,6,7,8,9,11,34,40,44,53,61,107],[]⟩
def q6v:Tree:=
 let c:X:=.tok 0
 let f:X:=.lit (.i 1)
 let k:X:=.lit (.i 0)
 let a:X:=.call 2 0 [c,(.tok 2)]
 let b:X:=.call 0 0 [c,(.tok 1)]
 let l:X:=.fld c 0
 let d:X:=.fld a 1
 let g:X:=.or (.not (.call 0 1 [c,(.tok 1)])) (.not (.eq (.fld b 0) (.lit (.i 5))))
 let j:X:=.add (.fld b 1) f
 let h:X:=.not (.call 5 0 [c,d])
 let i:X:=.add d (.lit (.i 2))
 let m:X:=.add d f
 let e:X:=.row [(.call 6 0 [(.fld (.get l j) 1),(.fld (.get l m) 1)]),(.call 6 0 [(.fld b 1),d])]
 (.need [(.ok 0 [c,(.tok 1)]),(.ok 0 [c,(.tok 1)])] (.need [(.imp (.not g) (.ok 1 [c,(.tok 2)]))] (.br (.or g (.not (.call 1 0 [c,(.tok 2)]))) (.leaf [f,c]) (.need [(.ok 2 [c,(.tok 2)]),(.ok 2 [c,(.tok 2)])] (.br (.eq a b) (.leaf [k,c]) (.br (.eq (.fld a 0) k) (.need [(.ok 3 [c,d,b])] (.leaf [(.call 3 0 [c,d,b]),(.call 3 1 [c,d,b])])) (.br (.not (.eq (.fld a 0) (.lit (.i 5)))) (.need [(.ok 4 [c,b,a])] (.leaf [(.call 4 0 [c,b,a]),(.call 4 1 [c,b,a])])) (.need [(.imp (.not h) (.ok 5 [c,i])),(.imp (.not h) (.rng .i64 i)),(.imp (.not h) (.rng .i64 i)),(.ok 5 [c,d])] (.br (.or h (.not (.call 5 0 [c,i]))) (.leaf [f,c]) (.need [(.ok 7 [e]),(.ok 6 [(.fld b 1),d]),(.ok 6 [(.fld (.get l j) 1),(.fld (.get l m) 1)]),(.le k m),(.lt m (.len l)),(.rng .i64 m),(.le k j),(.lt j (.len l)),(.rng .i64 j)] (.br (.lt k (.call 7 0 [e])) (.need [(.ok 4 [c,b,a])] (.leaf [(.call 4 0 [c,b,a]),(.call 4 1 [c,b,a])])) (.need [(.ok 4 [c,a,b])] (.leaf [(.call 4 0 [c,a,b]),(.call 4 1 [c,a,b])])))))))))))))
theorem qvw(g0 g1 g2 g3 g4 g5 g6 g7:GfZ):CdZ [(qu,g0),(qb,g1),(zk,g2),(zo,g3),(q1e,g4),(q0e,g5),(qy,g6),(q19,g7)] qwm q1h Try.f13 q6v:=fun cd h=>by injection h with h;subst h;kernel_rfl
theorem qir{g2 g3 g4 g5 g6 g7:GfZ}(h0:FOk qu g0)(h1:FOk qb g1)(h2:FOk zk g2)(h3:FOk zo g3)(h4:FOk q1e g4)(h5:FOk q0e g5)(h6:FOk qy g6)(h7:FOk q19 g7)(h:HgZ q6v q1h [(qu,g0),(qb,g1),(zk,g2),(zo,g3),(q1e,g4),(q0e,g5),(qy,g6),(q19,g7)] g):FOk q1h g:=jf (qvw g0 g1 g2 g3 g4 g5 g6 g7) (.cons h0 (.cons h1 (.cons h2 (.cons h3 (.cons h4 (.cons h5 (.cons h6 (.cons h7 .nil)))))))) rfl rfl qq0 (by decide) h
def yp:Ct:=⟨34,[.val (.row 65)],[(.row 65,true)],[],none,[],[]⟩
theorem qd7:EnZ yp:=fun _ _=>by kernel_rfl
def qf8:Ann:=⟨[0,2,4],[]⟩
def q6r:Tree:=(.amb (.tok 0) .false (.leaf [(.lit (.r []))]) (.need [(.le (.add (.lit (.i 0)) (.len (.tok 0))) (.lit (.i 3518437208780)))] (.leaf [(.app (.row []) (.tok 0))])))
theorem qdj:CdZ [] qf8 yp Try.f34 q6r:=fun cd h=>by injection h with h;subst h;kernel_rfl
theorem qff(h:HgZ q6r yp [] g):FOk yp g:=jf (qdj) .nil rfl rfl qd7 (by decide) h
def q07:Ct:=⟨19,[.val (.int .i64)],[(.st 45,false)],[],none,[],[]⟩
theorem qvz:EnZ q07:=fun _ _=>by kernel_rfl
def z33:Ann:=⟨[0,2],[]⟩
def q8r:Tree:=(.leaf [(.set (.set (.lit (.a [(.i 0),(.i 0),(.s ⟨#[]⟩),(.r [])])) 0 (.lit (.i 1))) 1 (.tok 0))])
theorem qwv:CdZ [] z33 q07 Try.f19 q8r:=fun cd h=>by injection h with h;subst h;kernel_rfl
theorem qke(h:HgZ q8r q07 [] g):FOk q07 g:=jf (qwv) .nil rfl rfl qvz (by decide) h
def yw:Ct:=⟨52,[.val (.st 32),.ref (.int .i64) true,.rref (.st 26),.cell 99 4],[(.st 45,false)],[(.cell 3,.fn 52 [1,2,3])],none,[],[]⟩
theorem q7a:EnZ yw:=fun _ _=>by kernel_rfl
def qqu:Ann:=⟨[0,1,2,3,4,5,6,7,8,12,17,24,43,99],[(13,⟨[(8,.int .i64,false)],[1,7],[83,84,85,86,87,88,89,90,91,92,93,94,95,96,97,98,99,102,103,104,105,106,107,108,109,110,111,112,113,100,101],[]⟩)]⟩
def q50:Tree:=
 let c:X:=.tok 2
 let f:X:=.lit (.i 0)
 let g:X:=.lit (.a [(.i 0),(.i 0),(.s ⟨#[]⟩),(.r [])])
 let j:X:=.tok 3
 let k:X:=.lit (.i 1)
 let n:X:=.tok 4
 let a:X:=.fld (.call 1 0 [c,(.tok 0)]) 1
 let e:X:=.sub (.tok 1) k
 let h:X:=.fld (.call 1 0 [c,(.tok 0)]) 0
 let l:X:=.fld c 0
 let m:X:=.fld c 1
 let b:X:=.and (.eq h (.lit (.i 3))) (.eq (.call 5 0 [c,a]) (.lit (.i 4)))
 let d:X:=.fld (.get l a) 1
 let i:X:=.add a (.fld (.get m d) 1)
 (.need [(.rng .i64 e)] (.br (.lt e f) (.leaf [g,e]) (.need [(.ok 1 [c,(.tok 0)])] (.br (.eq h k) (.need [(.ok 2 [a])] (.leaf [(.call 2 0 [a]),e])) (.need [(.imp (.eq h (.lit (.i 2))) (.ok 3 [c,a]))] (.br (.and (.eq h (.lit (.i 2))) (.le f (.call 3 0 [c,a]))) (.need [(.le f a),(.lt a (.len m)),(.ok 4 [(.fld (.get m a) 0)])] (.leaf [(.call 4 0 [(.fld (.get m a) 0)]),e])) (.need [(.imp b (.ok 3 [c,d])),(.imp b (.le f a)),(.imp b (.lt a (.len l))),(.imp (.eq h (.lit (.i 3))) (.ok 5 [c,a]))] (.br (.and b (.le f (.call 3 0 [c,d]))) (.need [(.le f d),(.lt d (.len m)),(.le f a),(.lt a (.len l))] (.need [(.rng .i64 (.add a k))] (.loop 13 3 [(.add a k),e,(.set (.set g 0 (.lit (.i 3))) 2 (.fld (.get m d) 0))] (.need [(.rng .i64 i),(.imp (.le j i) (.ok 5 [c,j]))] (.br (.and (.and (.le j i) (.le f (.call 5 0 [c,j]))) (.le f n)) (.need [(.le (.add (.len (.fld (.tok 5) 3)) k) (.lit (.i 2513169434843))),(.ok 0 [(.get l j),n,c]),(.le f j),(.lt j (.len l))] (.need [(.rng .i64 (.add j k))] (.back 13 [(.add j k),(.call 0 1 [(.get l j),n,c]),(.set (.tok 5) 3 (.app (.fld (.tok 5) 3) (.row [(.call 0 0 [(.get l j),n,c])])))]))) (.leaf [(.tok 5),n])))))) (.leaf [(.set (.set g 0 f) 1 a),e])))))))))
theorem qmr(g0 g1 g2 g3 g4 g5:GfZ):CdZ [(yw,g0),(zk,g1),(q07,g2),(yb,g3),(zp,g4),(ze,g5)] qqu yw Try.f52 q50:=fun cd h=>by injection h with h;subst h;kernel_rfl
theorem qet{g2 g3 g4 g5:GfZ}(h0:FOk yw g0)(h1:FOk zk g1)(h2:FOk q07 g2)(h3:FOk yb g3)(h4:FOk zp g4)(h5:FOk ze g5)(h:HgZ q50 yw [(yw,g0),(zk,g1),(q07,g2),(yb,g3),(zp,g4),(ze,g5)] g):FOk yw g:=jf (qmr g0 g1 g2 g3 g4 g5) (.cons h0 (.cons h1 (.cons h2 (.cons h3 (.cons h4 (.cons h5 .nil)))))) rfl rfl q7a (by decide) h
def q1d:Ct:=⟨15,[.val (.st 26),.val (.st 32)],[(.st 45,false),(.int .i64,false)],[],none,[],[]⟩
theorem qq3:EnZ q1d:=fun _ _=>by kernel_rfl
def qxf:Ann:=⟨[0,1,2,3,4,5,6,7,11,18],[]⟩
def q6s:Tree:=(.need [(.ok 1 [(.tok 0),(.tok 1)])] (.br (.not (.call 1 0 [(.tok 0),(.tok 1)])) (.leaf [(.lit (.a [(.i 0),(.i 0),(.s ⟨#[]⟩),(.r [])])),(.lit (.i 1))]) (.need [(.ok 0 [(.tok 1),(.lit (.i 2000)),(.tok 0)])] (.br (.lt (.call 0 1 [(.tok 1),(.lit (.i 2000)),(.tok 0)]) (.lit (.i 0))) (.leaf [(.lit (.a [(.i 0),(.i 0),(.s ⟨#[]⟩),(.r [])])),(.lit (.i 2))]) (.leaf [(.call 0 0 [(.tok 1),(.lit (.i 2000)),(.tok 0)]),(.lit (.i 0))])))))
theorem qvh(g0 g1:GfZ):CdZ [(yw,g0),(qb,g1)] qxf q1d Try.f15 q6s:=fun cd h=>by injection h with h;subst h;kernel_rfl
theorem qis(h0:FOk yw g0)(h1:FOk qb g1)(h:HgZ q6s q1d [(yw,g0),(qb,g1)] g):FOk q1d g:=jf (qvh g0 g1) (.cons h0 (.cons h1 .nil)) rfl rfl qq3 (by decide) h
def yq:Ct:=⟨98,[.val (.st 45),.val (.int .i64)],[(.int .i64,false)],[],none,[],[]⟩
theorem q7b:EnZ yq:=fun _ _=>by kernel_rfl
def qpp:Ann:=⟨[0,1,2,4,5,6,16],[(3,⟨[(5,.int .i64,false),(6,.int .i64,false)],[],[7,8,9,10,11,12,13,14,15,16,19,20,21,22,23,24,25,26,27,28,29,17,18],[]⟩)]⟩
def q4v:Tree:=(.loop 3 2 [(.lit (.i 1)),(.lit (.i 0))] (.br (.and (.lt (.tok 3) (.len (.fld (.tok 0) 3))) (.lt (.tok 2) (.tok 1))) (.need [(.le (.lit (.i 0)) (.tok 3)),(.lt (.tok 3) (.len (.fld (.tok 0) 3))),(.rng .i64 (.sub (.tok 1) (.tok 2))),(.ok 0 [(.get (.fld (.tok 0) 3) (.tok 3)),(.sub (.tok 1) (.tok 2))]),(.rng .i64 (.add (.tok 2) (.call 0 0 [(.get (.fld (.tok 0) 3) (.tok 3)),(.sub (.tok 1) (.tok 2))])))] (.need [(.rng .i64 (.add (.tok 3) (.lit (.i 1))))] (.back 3 [(.add (.tok 2) (.call 0 0 [(.get (.fld (.tok 0) 3) (.tok 3)),(.sub (.tok 1) (.tok 2))])),(.add (.tok 3) (.lit (.i 1)))]))) (.leaf [(.tok 2)])))
theorem qn6(g0:GfZ):CdZ [(yq,g0)] qpp yq Try.f98 q4v:=fun cd h=>by injection h with h;subst h;kernel_rfl
theorem qeq(h0:FOk yq g0)(h:HgZ q4v yq [(yq,g0)] g):FOk yq g:=jf (qn6 g0) (.cons h0 .nil) rfl rfl q7b (by decide) h
def q0n:Ct:=⟨86,[.val (.st 45)],[(.int .i64,false)],[],none,[],[]⟩
theorem qme:EnZ q0n:=fun _ _=>by kernel_rfl
def qts:Ann:=⟨[0,1,2],[]⟩
def q5n:Tree:=(.need [(.ok 0 [(.tok 0),(.lit (.i 2001))])] (.leaf [(.call 0 0 [(.tok 0),(.lit (.i 2001))])]))
theorem qpa(g0:GfZ):CdZ [(yq,g0)] qts q0n Try.f86 q5n:=fun cd h=>by injection h with h;subst h;kernel_rfl
theorem qfq(h0:FOk yq g0)(h:HgZ q5n q0n [(yq,g0)] g):FOk q0n g:=jf (qpa g0) (.cons h0 .nil) rfl rfl qme (by decide) h
def q0m:Ct:=⟨99,[.val (.st 45)],[(.bool,false)],[],none,[],[]⟩
theorem qog:EnZ q0m:=fun _ _=>by kernel_rfl
def qup:Ann:=⟨[0,1,2,4,5,26,37,54],[]⟩
def q5p:Tree:=(.br (.eq (.fld (.tok 0) 0) (.lit (.i 0))) (.leaf [(.and (.and (.and (.le (.lit (.i 0)) (.fld (.tok 0) 1)) (.le (.fld (.tok 0) 1) (.lit (.i 1099511627776)))) (.eq (.fld (.tok 0) 2) (.lit (.s ⟨#[]⟩)))) (.eq (.len (.fld (.tok 0) 3)) (.lit (.i 0))))]) (.br (.eq (.fld (.tok 0) 0) (.lit (.i 1))) (.leaf [(.and (.eq (.fld (.tok 0) 2) (.lit (.s ⟨#[]⟩))) (.eq (.len (.fld (.tok 0) 3)) (.lit (.i 0))))]) (.br (.eq (.fld (.tok 0) 0) (.lit (.i 2))) (.leaf [(.and (.and (.eq (.fld (.tok 0) 1) (.lit (.i 0))) (.le (.slen (.fld (.tok 0) 2)) (.lit (.i 100)))) (.eq (.len (.fld (.tok 0) 3)) (.lit (.i 0))))]) (.br (.eq (.fld (.tok 0) 0) (.lit (.i 3))) (.leaf [(.and (.and (.and (.eq (.fld (.tok 0) 1) (.lit (.i 0))) (.le (.slen (.fld (.tok 0) 2)) (.lit (.i 100)))) (.le (.lit (.i 1)) (.len (.fld (.tok 0) 3)))) (.le (.len (.fld (.tok 0) 3)) (.lit (.i 8))))]) (.leaf [(.lit (.b .false))])))))
theorem qqc:CdZ [] qup q0m Try.f99 q5p:=fun cd h=>by injection h with h;subst h;kernel_rfl
theorem qgs(h:HgZ q5p q0m [] g):FOk q0m g:=jf (qqc) .nil rfl rfl qog (by decide) h
def yu:Ct:=⟨87,[.val (.st 45)],[(.bool,false)],[],none,[],[]⟩
theorem q73:EnZ yu:=fun _ _=>by kernel_rfl
def qpi:Ann:=⟨[0,1,2,3,6,11,20],[(4,⟨[(2,.bool,false),(3,.int .i64,false)],[],[7,8,9,10,11,14,15,16,17,18,19,20,12,13],[]⟩)]⟩
def q4k:Tree:=(.need [(.ok 0 [(.tok 0)])] (.br (.not (.call 0 0 [(.tok 0)])) (.leaf [(.lit (.b .false))]) (.loop 4 1 [(.lit (.b .false)),(.lit (.i 0))] (.br (.lt (.tok 2) (.len (.fld (.tok 0) 3))) (.need [(.le (.lit (.i 0)) (.tok 2)),(.lt (.tok 2) (.len (.fld (.tok 0) 3))),(.ok 1 [(.get (.fld (.tok 0) 3) (.tok 2))])] (.br (.not (.call 1 0 [(.get (.fld (.tok 0) 3) (.tok 2))])) (.leaf [(.lit (.b .false))]) (.need [(.rng .i64 (.add (.tok 2) (.lit (.i 1))))] (.back 4 [(.tok 1),(.add (.tok 2) (.lit (.i 1)))])))) (.leaf [(.lit (.b .true))])))))
theorem qn1(g0 g1:GfZ):CdZ [(q0m,g0),(yu,g1)] qpi yu Try.f87 q4k:=fun cd h=>by injection h with h;subst h;kernel_rfl
theorem qeu(h0:FOk q0m g0)(h1:FOk yu g1)(h:HgZ q4k yu [(q0m,g0),(yu,g1)] g):FOk yu g:=jf (qn1 g0 g1) (.cons h0 (.cons h1 .nil)) rfl rfl q73 (by decide) h
def q09:Ct:=⟨55,[.val (.st 45)],[(.bool,false)],[],none,[],[]⟩
theorem qlr:EnZ q09:=fun _ _=>by kernel_rfl
def qpy:Ann:=⟨[0,1,2],[]⟩
def q4p:Tree:=(.need [(.ok 0 [(.tok 0)]),(.imp (.le (.call 0 0 [(.tok 0)]) (.lit (.i 2000))) (.ok 1 [(.tok 0)]))] (.leaf [(.and (.le (.call 0 0 [(.tok 0)]) (.lit (.i 2000))) (.call 1 0 [(.tok 0)]))]))
theorem qmj(g0 g1:GfZ):CdZ [(q0n,g0),(yu,g1)] qpy q09 Try.f55 q4p:=fun cd h=>by injection h with h;subst h;kernel_rfl
theorem qev(h0:FOk q0n g0)(h1:FOk yu g1)(h:HgZ q4p q09 [(q0n,g0),(yu,g1)] g):FOk q09 g:=jf (qmj g0 g1) (.cons h0 (.cons h1 .nil)) rfl rfl qlr (by decide) h
def zg:Ct:=⟨56,[.val (.st 45),.val (.st 45)],[(.bool,false)],[],none,[],[]⟩
theorem q3u:EnZ zg:=fun _ _=>by kernel_rfl
def qhv:Ann:=⟨[0,1,2,3,4,5,33,38,52],[(4,⟨[(4,.bool,false),(5,.int .i64,false)],[],[34,35,36,37,38,41,42,43,44,45,46,47,48,49,50,51,52,39,40],[]⟩)]⟩
def q2r:Tree:=(.br (.or (.or (.or (.not (.eq (.fld (.tok 0) 0) (.fld (.tok 1) 0))) (.not (.eq (.fld (.tok 0) 1) (.fld (.tok 1) 1)))) (.not (.eq (.fld (.tok 0) 2) (.fld (.tok 1) 2)))) (.not (.eq (.len (.fld (.tok 0) 3)) (.len (.fld (.tok 1) 3))))) (.leaf [(.lit (.b .false))]) (.loop 4 2 [(.lit (.b .false)),(.lit (.i 0))] (.br (.lt (.tok 3) (.len (.fld (.tok 0) 3))) (.need [(.ok 0 [(.get (.fld (.tok 0) 3) (.tok 3)),(.get (.fld (.tok 1) 3) (.tok 3))]),(.le (.lit (.i 0)) (.tok 3)),(.lt (.tok 3) (.len (.fld (.tok 1) 3))),(.le (.lit (.i 0)) (.tok 3)),(.lt (.tok 3) (.len (.fld (.tok 0) 3)))] (.br (.not (.call 0 0 [(.get (.fld (.tok 0) 3) (.tok 3)),(.get (.fld (.tok 1) 3) (.tok 3))])) (.leaf [(.lit (.b .false))]) (.need [(.rng .i64 (.add (.tok 3) (.lit (.i 1))))] (.back 4 [(.tok 2),(.add (.tok 3) (.lit (.i 1)))])))) (.leaf [(.lit (.b .true))]))))
theorem qgp(g0:GfZ):CdZ [(zg,g0)] qhv zg Try.f56 q2r:=fun cd h=>by injection h with h;subst h;kernel_rfl
theorem q9u(h0:FOk zg g0)(h:HgZ q2r zg [(zg,g0)] g):FOk zg g:=jf (qgp g0) (.cons h0 .nil) rfl rfl q3u (by decide) h
def q0l:Ct:=⟨16,[.val (.st 45),.val (.st 45)],[(.bool,false)],[],none,[],[]⟩
theorem qnp:EnZ q0l:=fun _ _=>by kernel_rfl
def qvb:Ann:=⟨[0,1,2,3,4],[]⟩
def q5r:Tree:=(.need [(.ok 0 [(.tok 0)]),(.imp (.call 0 0 [(.tok 0)]) (.ok 0 [(.tok 1)])),(.imp (.and (.call 0 0 [(.tok 0)]) (.call 0 0 [(.tok 1)])) (.ok 1 [(.tok 0),(.tok 1)]))] (.leaf [(.and (.and (.call 0 0 [(.tok 0)]) (.call 0 0 [(.tok 1)])) (.call 1 0 [(.tok 0),(.tok 1)]))]))
theorem qr3(g0 g1:GfZ):CdZ [(q09,g0),(zg,g1)] qvb q0l Try.f16 q5r:=fun cd h=>by injection h with h;subst h;kernel_rfl
theorem qfx(h0:FOk q09 g0)(h1:FOk zg g1)(h:HgZ q5r q0l [(q09,g0),(zg,g1)] g):FOk q0l g:=jf (qr3 g0 g1) (.cons h0 (.cons h1 .nil)) rfl rfl qnp (by decide) h
end Go.Proofs.Ytdaadonfbnedaaa
