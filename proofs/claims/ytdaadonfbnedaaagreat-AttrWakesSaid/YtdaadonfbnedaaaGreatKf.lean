/-
 Lemmas of the walk and plain laws, put together. No condition.
-/
import Derived.Test.YtdaadonfbnedaaaGreatKe
namespace Go.Proofs.YtdaadonfbnedaaaGreat
open Go.RowKit
set_option linter.unusedVariables false
set_option linter.unusedSimpArgs false
set_option maxRecDepth 100000
open _root_.And renaming intro→uA
open _root_.Option.some renaming injEq→uB
open _root_.Option renaming ite_none_right_eq_some→uC,isSome_some→uV,getD_some→uX
open _root_.Go.Proofs.Tryz renaming prog→uD,f17→kM,f16→kN
open _root_.List renaming getD_cons_zero→uE,length_map→uF,range→uH,all_eq_true→uJ,mem_cons→uL,getElem?_cons_zero→uM,mem_range→uN,getElem?_cons_succ→uR,Pairwise→uW,take_length→uY,cons_append→uZ,take_append_drop→kD,getElem?_toArray→kE,take_succ_cons→kF,getD_cons_succ→kG,mem_singleton→kH,mem_cons_self→kI,nodup_cons→kJ,nil_append→kK,take_zero→kO,map_cons→kQ,mem_map→kS
open _root_.Nat renaming zero_le→uG,not_lt_zero→uP,le_refl→uU,sub_self→kB,le_trans→kC,sub_zero→kT,beq→kU,blt_eq→kV
open _root_.Bool renaming and_assoc→uI,not_eq_false'→uK,not_eq_true'→uO,and_eq_false_iff→uT,or_true→kA,eq_iff_iff→kL,and_false→kP,or_assoc→kR
open _root_.Array renaming getD_eq_getD_getElem?→uQ
variable{u:FrameMode}
section
def zcl(t:Nat)(σ:St):Option (Nat×St):=match lkA σ.t t with
 |some (.ref k [] 0 ty)=>if Ty.beq ty y7&&(σ.t.all fun e=>q9v e.2) then some (k,⟨jw σ.t t (.sn (VB+t) (.ref k [] 0 ty)),σ.m⟩) else none
 |_=>none
def zgr(t:Nat)(σ:St):Option (Nat×St):=match lkA σ.t t with
 |some (.sn q (.ref k [] 0 ty))=>if kU q (VB+t)&&Ty.beq ty y7 then some (k,⟨jw σ.t t (.ref k [] 0 ty),σ.m⟩) else none
 |_=>none
def z2c(ks j:Nat)(es:Ent)(ee was:X)(σ:St):St:=⟨q9y (q1x (ks * 16)) no σ.t,jw (q9x (q1x (ks * 16)) no σ.m) ks ⟨.call j 0 [ee,es.x,was],qd,es.own,es.dep⟩⟩
def z9g(k:Nat)(σ:St):Bool:=σ.t.any fun e=>match lkA σ.t e.1 with
 |some x=>x.has k
 |none=>false
def qi2(ct:Ct)(fn:Func)(j ks te:Nat)(was:X):Nat→ResD→St→Tree:=fun n r σ=>match r with
 |.exit i=>.bad (8000000+i)
 | _ => match zgr te σ with
  |some (ke,σ1)=>(match lkA σ1.m ks,lkA σ1.m ke with
   |some es,some ee=>if Ty.beq es.t qd&&(Ty.beq ee.t y7&&(!zu (es.own.map (·.2)++es.dep) (ks * 16)&&z9g ks σ1)) then .need [.ok j [ee.x,es.x,was]] (qbs ct fn.results.toList n .ret (z2c ks j es ee.x was σ1)) else .bad 9100000
   |_,_=>.bad 9200000)
  |none=>.bad 9300000
def z3a(o:Oper):Option (Nat×Operand×Operand×Nat):=match o.op,o.dst,o.guard with
 |.call {callee:=.value y,args:=⟨[x1,.tmp te]⟩,argTypes:=_},some t,none=>some (t,y,x1,te)
 |_,_,_=>none
def ztf(P:Program)(tbl:Tbl)(ann:Ann)(ct:Ct)(fn:Func)(j:Nat)(ops:List Oper)(post:Code)(n:Nat)(σ:St):Tree:=match ops with
 | [o1, ck, df] => (match zkh df, z3a ck with
  | some t, some (t', y, x1, te) => if kU t t' && (o1.guard.isNone && (q9g ct.ar.length fn.ntmps o1 && (q9g ct.ar.length fn.ntmps ck && !Nat.beq t te))) then (match stepG P tbl (dsts [o1, ck, df]) σ o1 with
   | some (N, σ1) => (match opd σ1 [] y, opd σ1 [] x1, zcl te σ1 with
    |some (.fn f []),some (.ref ks [] 0 ty),some (_,σ2)=>(match lkA σ1.m ks with
     |some es=>if kU f 43&&(Ty.beq ty qd&&(Ty.beq es.t qd&&(Nat.blt ks ct.ar.length&&X.upto n es.x))) then z7h N (toT P tbl ann ct.ar.length fn.ntmps post [] n ⟨jw σ2.t t .any,σ2.m⟩ (qi2 ct fn j ks te es.x)) else .bad 9400000
     |none=>.bad 9500000)
    |_,_,_=>.bad 9600000)
   |none=>.bad 9700000) else .bad 9800000
  |_,_=>.bad 9900000)
 |_=>.bad 9950000
def zbn(P:Program)(tbl:Tbl)(ann:Ann)(ct:Ct)(fn:Func)(j:Nat)(cd:Code):Tree:=match qhi cd with
 |some (xs,_,ops,post)=>q5p P tbl ann ct.ar.length fn.ntmps xs (q6f ct.ars) (qn1 ct) fun n r σ=>match r with
  |.normal=>ztf P tbl ann ct fn j ops post n σ
  |r=>qbs ct fn.results.toList n r σ
 |none=>.bad 9990000
theorem z2s{n:Nat}{P:Program}{f:FuncId}{args:Array Value}{w:World}{R:Ending→FrameMode→World→Prop}(h:CallsDIn (FR none) n P f args u w R):CallsD P f args u w R:=fun c cs hu=>
 let ⟨e,u',w',fr,r,s,k,_,g⟩:=h.2 c cs hu (room_wide _)
 ⟨e,u',w',fr,r,comesIn_wide.1 s,k,g⟩
section
variable{c:Cx}{p:qg}{w w0 w':World}{S0:Nat→Prop}{a:Act}{σ σ':St}{d:List Deferred}{z:Nat}{tbl:Tbl}
theorem z5q{t k:Nat}(h:zcl t σ=some (k,σ'))(hf:SF c σ p w a):SF {c with snap:=fun q=>if q=VB+t then a.eval (.tmp t) else c.snap q} σ' p w a∧∃g,p (k * 16)=some g∧a.eval (.tmp t)=.pointer (some ⟨g,0,none⟩):=by
 unfold zcl at h;split at h
 ·rename_i k' ty hx;split at h
  ·rename_i hok;simp only[gnB,uJ] at hok;simp only[gnS] at h;obtain⟨rfl,rfl⟩:=h;obtain⟨v0,hv0,g0,hg0,e0,-⟩:=hf.t t _ hx;have hev:a.eval (.tmp t)=v0:=by
    show a.tmps.getD t undef=v0
    simp[uQ,hv0]
   refine⟨⟨fun k y hy=>?_,fun k e he=>hf.m k e he⟩,g0,hg0,hev.trans e0⟩;by_cases hk:t=k
   ·subst hk;have hy:lkA (jw σ.t t (.sn (VB+t) (.ref k' [] 0 ty))) t=some y:=hy;rw[q1q] at hy;injection hy with hy;subst hy;obtain⟨v,hv,hp⟩:=hf.t t _ hx;refine⟨v,hv,?_,qc7 _ v (hok.2 _ (qv hx)) hp⟩
    show v=if VB+t=VB+t then a.eval (.tmp t) else _
    rw[if_pos rfl]
    show v=a.tmps.getD t undef
    simp[uQ,hv]
   ·have hy:lkA (jw σ.t t (.sn (VB+t) (.ref k' [] 0 ty))) k=some y:=hy;rw[q3y hk] at hy;obtain⟨v,hv,hp⟩:=hf.t k y hy;exact⟨v,hv,qc7 y v (hok.2 _ (qv hy)) hp⟩
  ·cases h
 ·cases h
theorem z6x{t k:Nat}(h:zgr t σ=some (k,σ'))(hf:SF c σ p w a):SF c σ' p w a∧∃g,p (k * 16)=some g∧c.snap (VB+t)=.pointer (some ⟨g,0,none⟩):=by
 unfold zgr at h;split at h
 ·rename_i q k' ty hx;split at h
  ·rename_i hq;simp only[gnB] at hq;simp only[gnS] at h;obtain⟨rfl,rfl⟩:=h;obtain⟨v,hv,he,g,hg,e,hat⟩:=hf.t t _ hx;have hq:=gnN hq.1;refine⟨⟨fun k y hy=>?_,hf.m⟩,g,hg,by rw[←hq,←he];exact e⟩;by_cases hk:t=k
   ·subst hk;have hy:lkA (jw σ.t t (.ref k' [] 0 ty)) t=some y:=hy;rw[q1q] at hy;injection hy with hy;subst hy;exact⟨v,hv,g,hg,e,hat⟩
   ·have hy:lkA (jw σ.t t (.ref k' [] 0 ty)) k=some y:=hy;rw[q3y hk] at hy;exact hf.t k y hy
  ·cases h
 ·cases h
theorem zd7{k x:Nat}{l:List Nat}(h:zu l k=false)(hx:x∈l):q1x k x=false:=by
 cases hq:q1x k x with
 |false=>rfl
 |true=>
  exfalso;have e:x=k:=gnN hq;rw[yk.2 (e▸hx)] at h;cases h
theorem z5h{nn j:Nat}(hkj:∀l,(qb tbl j) l=q72 l){l:List D}{ks ke:Nat}{es ee:Ent}{was:X}{gs ge b5 b2 b3:Nat}(hb:Bs c.A c.F w0 S0 p w)(hf:SF (c.at (qb tbl) l) σ p w a)(hes:lkA σ.m ks=some es)(hee:lkA σ.m ke=some ee)(ht:es.t=qd)(hte:ee.t=y7)(hown:zu (es.own.map (·.2)++es.dep) (ks * 16)=false)
  (hgs:p (ks * 16)=some gs)(hge:p (ke * 16)=some ge)(hsay:(X.ok j [ee.x,es.x,was]).says (evl (qb tbl) l))
  {m0 m1 m2 m3 l0 l1 l2 l3:Nat}{y4 y5:Int}{B0 B1 B2 B3:Option Addr}{T2 T3 T':TypeId}(h3:w.heap[b3]? =some (.cells #[.pointer (some ⟨ge,0,none⟩)] T3 (0,0)))(h2:w.heap[b2]? =some (.cells #[.pointer (some ⟨gs,0,none⟩)] T2 (0,0)))(hw:w.heap[b5]? =some (.cells #[.slice B0 l0 m0,.slice B1 l1 m1,.slice B2 l2 m2,.slice B3 l3 m3,.int .i64 y4,.int .i64 y5] T' (0,0)))
  (hwas:((was.ev (evl (qb tbl) l)).fld 0).rs.length=l0∧((was.ev (evl (qb tbl) l)).fld 1).rs.length=l1∧((was.ev (evl (qb tbl) l)).fld 2).rs.length=l2∧(was.ev (evl (qb tbl) l)).fld 4=.i y4)(hy4:yz .i64 y4=true)(hn:b3≠gs∧b2≠gs∧b5≠gs):
  CallsDIn (FR none) nn uD 82 #[.pointer (some ⟨b3,0,none⟩),.pointer (some ⟨b2,0,none⟩),.pointer (some ⟨b5,0,none⟩)] u w fun r u' w'=>u'=u∧(r=.returned (.tuple #[])∧Bs c.A c.F w0 S0 p w'∧SF (c.at (qb tbl) l) (z2c ks j es ee.x was σ) p w' a):=by
 obtain⟨g,cs,T,hg,hh,hT,hcon⟩:=hf.m ks _ hes;rw[hgs] at hg;injection hg with hg;subst hg;obtain⟨g',cs',Te,hg',hh',hTe,hcon'⟩:=hf.m ke _ hee;rw[hge] at hg';injection hg' with hg';subst hg';rw[hte] at hcon';obtain⟨E,hE,hcE,-⟩:=Con.int (c:=c) hcon';have hhE:w.cell? ⟨ge,0,none⟩=some (.int .i64 E):=by
  have:=cell_of_row w ge 0 _ Te (0,0) hh';rw[this];have e:cs'= #[.int .i64 E]:=by
   obtain⟨cs'⟩:=cs';have hcE:cs'=[.int .i64 E]:=hcE;rw[hcE]
  rw[e];rfl
 have h3c:w.cell? ⟨b3,0,none⟩=some (.pointer (some ⟨ge,0,none⟩)):=by
  have:=cell_of_row w b3 0 _ T3 (0,0) h3;simpa using this
 have h2c:w.cell? ⟨b2,0,none⟩=some (.pointer (some ⟨gs,0,none⟩)):=by
  have:=cell_of_row w b2 0 _ T2 (0,0) h2;simpa using this
 rw[ht] at hcon;obtain⟨r0,r1,r2,r3,A0,A1,A2,A3,k0,k1,k2,k3,x4,x5,eD,ecs,⟨q0,q1,q2⟩,q4,hcut⟩:=qij hcon;have ecs:cs= #[.slice A0 r0.length k0,.slice A1 r1.length k1,.slice A2 r2.length k2,.slice A3 r3.length k3,.int .i64 x4,.int .i64 x5]:=by
  obtain⟨cs⟩:=cs;have ecs:cs=_:=ecs;rw[ecs]
 subst ecs;have hE:ee.x.ev (evl (qb tbl) l)=.i E:=hE;have eD:es.x.ev (evl (qb tbl) l)=.a [.r r0,.r r1,.r r2,.r r3,.i x4,.i x5]:=eD;have eN:(X.call j 0 [ee.x,es.x,was]).ev (evl (qb tbl) l)=(((q72 [.i E,.a [.r r0,.r r1,.r r2,.r r3,.i x4,.i x5],was.ev (evl (qb tbl) l)]).getD []).getD 0 .u):=by
  show(((qb tbl j) [ee.x.ev (evl (qb tbl) l),es.x.ev (evl (qb tbl) l),was.ev (evl (qb tbl) l)]).getD []).getD 0 .u=_
  rw[hkj,hE,eD]
 have hsay:(q72 [.i E,.a [.r r0,.r r1,.r r2,.r r3,.i x4,.i x5],was.ev (evl (qb tbl) l)]).isSome=true:=by
  have h:(D.b ((qb tbl j) [ee.x.ev (evl (qb tbl) l),es.x.ev (evl (qb tbl) l),was.ev (evl (qb tbl) l)]).isSome).tt=true:=hsay;rw[hkj,hE,eD] at h;exact h
 have ownZ:∀x∈es.own.map (·.2),(q1x (ks * 16) x=false∧no x=false):=fun x hx=>⟨zd7 hown (List.mem_append_left _ hx),rfl⟩;have depZ:∀x∈es.dep,(q1x (ks * 16) x=false∧no x=false):=fun x hx=>⟨zd7 hown (List.mem_append_right _ hx),rfl⟩
 -- what holds where only the store's own block has changed
 have key:∀w' cs',But (fun b=>b=gs) w w'→w'.heap[gs]? =some (.cells cs' T (0,0))→Con c.A p w ((X.call j 0 [ee.x,es.x,was]).ev (evl (qb tbl) l)) qd es.own es.dep cs'.toList→Bs c.A c.F w0 S0 p w'∧SF (c.at (qb tbl) l) (z2c ks j es ee.x was σ) p w' a:=fun w' cs' hbut hnew hcn=>by
  have hst:Stab c.A (q1x (ks * 16)) no p w p w':=by
   refine⟨hbut.size,fun b hlt ha hfr=>⟨hbut.block b hlt fun e=>hfr _ (e▸hgs),hfr⟩,fun x b _ hx=>hx,fun x b hz hx=>hbut.block b (hb.bd x b hx) fun e=>?_⟩;have hxk:=hb.inj x (ks * 16) b hx (e▸hgs);subst hxk;simp[q1x] at hz
  refine⟨⟨hb.inj,fun x b hx=>Nat.lt_of_lt_of_le (hb.bd x b hx) hbut.size,hb.but.trans hbut fun b hb' _=>?_,hb.pin,hb.new,hb.pa,fun x b hx=>?_,hb.flo.same fun k hk hfl=>?_⟩,?_⟩
  ·have hb':b=gs:=hb';subst hb';exact hb.pin _ _ hgs
  ·by_cases e:b=gs
   ·subst e;exact .inl ⟨_,_,hnew⟩
   ·exact(hb.obj x b hx).same (hbut.block b (hb.bd x b hx) e)
  ·refine hbut.block k hk fun e=>?_;subst e;obtain⟨c0,c1,T0,te0,-,-,f3,-,f5,f6,f7,-⟩:=hb.flo _ hfl;rw[hh] at f6;injection f6 with f6;injection f6 with f6 f6';subst f6';rw[hT,ht] at f3;injection f3 with f3;subst f3;rw[←f6] at f7;have hw6:qd.w=6:=by kernel_rfl
   unfold FlT at f5;rw[hw6] at f5;simp at f7;rcases f5 with f5|⟨f5,-⟩
   ·omega
   ·have hn:nvB qd=false:=by kernel_rfl
    rw[hn] at f5;cases f5
  ·have hk:=SF.keep hf hst;refine⟨hk.t,fun k e he=>?_⟩;by_cases hks:ks=k
   ·subst hks;have he:lkA (jw (q9x (q1x (ks * 16)) no σ.m) ks ⟨.call j 0 [ee.x,es.x,was],qd,es.own,es.dep⟩) ks=some e:=he;rw[q1q] at he;injection he with he;subst he;exact⟨gs,cs',T,hgs,hnew,by rw[←ht];exact hT,hcn.kept hst depZ ownZ⟩
   ·have he:lkA (jw (q9x (q1x (ks * 16)) no σ.m) ks ⟨.call j 0 [ee.x,es.x,was],qd,es.own,es.dep⟩) k=some e:=he;rw[q3y hks] at he;exact hk.m k e he
 by_cases hE0:E=0
 ·subst hE0;refine(za2 w b3 b2 b5 ge u h3c hhE).mono ?_;rintro r u' w'⟨rfl,rfl,rfl⟩;refine⟨rfl,rfl,?_⟩;refine key w' _ (But.refl _ _) hh ?_;rw[eN];have:q72 [.i 0,.a [.r r0,.r r1,.r r2,.r r3,.i x4,.i x5],was.ev (evl (qb tbl) l)]=some [.a [.r r0,.r r1,.r r2,.r r3,.i x4,.i x5]]:=rfl;rw[this];rw[←eD];exact hcon
 ·obtain⟨e0,e1,e2,e4⟩:=hwas;have hE0':¬(D.i E).int=0:=hE0;have hif:l0≤r0.length∧l1≤r1.length∧l2≤r2.length:=by
   simp only[q72,if_neg hE0',e0,e1,e2] at hsay;split at hsay
   ·rename_i hh;exact hh
   ·cases hsay
  refine(zev w b3 b2 b5 ge gs u E h3c hhE hE0 h2c T T' hh hw hn (kC hif.1 q0) (kC hif.2.1 q1) (kC hif.2.2 q2)).mono ?_;rintro r u' w'⟨rfl,rfl,hbut,hnew⟩;refine⟨rfl,rfl,?_⟩;refine key w' _ hbut hnew ?_;rw[eN];have:q72 [.i E,.a [.r r0,.r r1,.r r2,.r r3,.i x4,.i x5],was.ev (evl (qb tbl) l)]=some [.a [.r (r0.take l0),.r (r1.take l1),.r (r2.take l2),.r r3,.i y4,.i x5]]:=by
   simp only[q72,if_neg hE0',e0,e1,e2,e4];exact if_pos hif
  rw[this];exact hcut l0 l1 l2 y4 hif.1 hif.2.1 hif.2.2 hy4
end
end
theorem z0f{c:Cx}{σ:St}{p:qg}{w:World}{a:Act}{k:Nat}(h:z9g k σ=true)(hf:SF c σ p w a):∃g,p (k * 16)=some g∧c.At k g:=by
 unfold z9g at h;obtain⟨e,-,he⟩:=List.any_eq_true.1 h;split at he
 ·rename_i x hx;obtain⟨v,-,hp⟩:=hf.t e.1 x hx;exact AV.has_ok x he hp
 ·cases he
theorem qzw{o:Oper}{t te:Nat}{y x1:Operand}(h:z3a o=some (t,y,x1,te)):o.dst=some t∧o.guard=none∧∃tys,o.op=.call {callee:=.value y,args:= #[x1,.tmp te],argTypes:=tys}:=by
 unfold z3a at h;split at h
 ·rename_i y' x1' te' tys t' ho hd hg;simp only[gnS] at h;obtain⟨rfl,rfl,rfl,rfl⟩:=h;exact⟨hd,hg,tys,ho⟩
 ·cases h
variable{ds:List D}
theorem z5m{ct:Ct}{tbl:Tbl}(ann:Ann)(fn:Func)(j:Nat)(cd:Code)(htb:q0i tbl)(hkj:∀l,(qb tbl j) l=q72 l)(hf:uD.funcs[ct.f]? =some fn)(hb:fn.body=some cd)(hsz:ct.ar.length≤fn.ntmps)(hnp:q76 tbl=true)
  {outs:List D}(h:(zbn uD tbl ann ct fn j cd).go (qb tbl) (fun o=>o=outs) ds fun _ _=>False)(hfm0:FlF ct tbl ds:=by exact FlF.none rfl):FAt ct ds outs:=by
 intro A F p w vs us hfl hfo hpre hvl hargs;obtain⟨hwf,hdl,-⟩:=hargs.wf;rw[all_map] at hwf hdl;have hfm:=hfm0 F hfl;obtain⟨hb0,hsf⟩:=qzu (tbl:=tbl) (fn:=fn) hsz hfo hpre hvl hargs;refine calls_of_wp_defers hf hb ?_;generalize hR:(fun(e:Ending)(w':World)=>(∃T,ct.pn=some T∧outs=[.u]∧e=.panicked (q98 T)∧But (pinned p) w w')∨∃rs p',e=.returned (qet rs)∧Bs A F w (pinned p) p' w'∧q91 A p' w' ct.rs ct.ar.length rs (outs.take ct.rs.length)∧q3k (vs++us) A p p' w' ct.all (outs.drop ct.rs.length))=R;have hfin:∀{c:Cx}{σ':St}{l':List D}{p':qg}{w':World}{a':Act}{n':Nat}{B':Nat→List D→Prop},c.A=A→c.F=F→c.At=(fun k g=>(k<ct.ar.length∨VB≤k)→p (k * 16)=some g)→(∀i,i<VB→c.snap i=(vs++us).getD i undef)→Bs c.A c.F w (pinned p) p' w'→SF (c.at (qb tbl) l') σ' p' w' a'→(qbs ct fn.results.toList n' .ret σ').go (qb tbl) (fun o=>o=outs) l' B'→Leaves uD fn a'.tmps R [] .returning w':=by
  intro c σ' l' p' w' a' n' B' h1 hF h2 h3 hb' hf' hgo';simp only[qbs] at hgo';split at hgo'
  ·rename_i xs hx;obtain⟨rs,p2,e1,e2,e3,e4⟩:=zcw h1 h2 h3 hargs hvl hb' hf' hx;have ho:X.evs (evl (qb tbl) l') xs=outs:=hgo';refine⟨_,e1,?_⟩;rw[hF] at e2;rw[←hR];exact .inr ⟨rs,p2,rfl,e2,by rw[←ho];exact e3,by rw[←ho];exact e4⟩
  ·exact hgo'.elim
 unfold zbn at h;split at h
 ·rename_i xs id ops post hcut;refine z3n hcut (zbf (c:=cxA tbl ct A F p vs us ds) (S0:=pinned p) (w0:=w) (d:=[]) (z:=fn.ntmps) htb hfm hnp xs h hdl hb0 hsf rfl (by simp;omega) fun n' r σ' l' B' p' w' a' hl' hgo' hb' hf' hd' hz'=>?_);cases r with
  |exit i=>exact hgo'.elim
  |ret=>
   show Leaves uD fn a'.tmps R a'.defers .returning w'
   rw[hd'];exact hfin (c:=cxA tbl ct A F p vs us ds) rfl rfl rfl (fun _ _=>rfl) hb' hf' hgo'
  | normal =>
   show(Code.seq (.region id ops.toArray false) post).wp uD _ a' w'
   rcases ops with _|⟨o1,_|⟨ck,_|⟨df,_|⟨x,l⟩⟩⟩⟩
   ·exact(show False from hgo').elim
   ·exact(show False from hgo').elim
   ·exact(show False from hgo').elim
   ·simp only[ztf] at hgo';split at hgo'
    ·rename_i t t' y x1 te hdt hck;split at hgo'
     ·rename_i hok;simp only[gnB,Option.isNone_iff_eq_none,uO] at hok;obtain⟨htt,hg1,hd1,hd2,htte⟩:=hok;obtain rfl:=gnN htt;have htte:t≠te:=fun e=>by rw[e,Nat.beq_refl] at htte;cases htte
      obtain⟨hck1,hck2,tys,hck3⟩:=qzw hck;have htz:t<fn.ntmps:=by
       unfold q9g at hd2;rw[hck1] at hd2;simp only[gnB,kV] at hd2;exact hd2.1
      split at hgo'
      ·rename_i N σ1 hst;split at hgo'
       ·rename_i f ks ty ke σ2 hy hx1 hhold;split at hgo'
        ·rename_i es hes;split at hgo'
         ·rename_i hok2;simp only[gnB,kV] at hok2;obtain⟨hff,hty,het,hks,hup⟩:=hok2;obtain rfl:=gnN hff;have het:=(Ty.beq_iff _ _).1 het;obtain⟨hN,hgo2⟩:=qwp hgo';refine wp_seq (wp_region ?_);have hw0:Region.wanted o1 (yielded ([o1,ck,df].toArray) a'.tmps)=true:=by simp[Region.wanted,hg1]
          have hstep:=qsj (c:=(cxA tbl ct A F p vs us ds).at (qb tbl) l') (ops:=[o1,ck,df].toArray) (ds:=dsts [o1,ck,df]) (Q:=Exit.then (post.wp uD (bodyPostD uD fn R)) (bodyPostD uD fn R)) (K:=wpOps uD [o1,ck,df].toArray (Exit.then (post.wp uD (bodyPostD uD fn R)) (bodyPostD uD fn R)) [1,2]) htb ⟨rfl,hfm⟩ rfl hb' hf' hd' hz' hd1 hst hN (q3l hnp) fun a1 w1 hpost=>?_
          ·rw[if_pos hw0] at hstep
           show wpOps uD [o1,ck,df].toArray _ [0,1,2] a' w'
           simp only[wpOps,kE,uM];rw[if_pos hw0];exact .inl hstep.2
          ·obtain⟨p1,hb1,hf1,hda1,hz1⟩:=hpost;obtain⟨vy,hvy,hvs⟩:=ql hf1 rfl hy;have hvs:vy=[]:=hvs;subst hvs;obtain⟨gs,hgs,hvx,hat⟩:=ql hf1 rfl hx1;obtain⟨hf2,ge,hge,hve⟩:=z5q hhold hf1;obtain⟨gs',cs,T,hgs',hh,hT,hcon⟩:=hf1.m ks _ hes;rw[hgs] at hgs';injection hgs' with hgs';subst hgs';rw[het] at hcon;obtain⟨r0,r1,r2,r3,A0,A1,A2,A3,k0,k1,k2,k3,x4,x5,eD,ecs,-,q4,-⟩:=qij hcon;have ecs:cs= #[.slice A0 r0.length k0,.slice A1 r1.length k1,.slice A2 r2.length k2,.slice A3 r3.length k3,.int .i64 x4,.int .i64 x5]:=by
            obtain⟨cs⟩:=cs;have ecs:cs=_:=ecs;rw[ecs]
           subst ecs;generalize hcx:({cxA tbl ct A F p vs us ds with snap:=fun q=>if q=VB+te then a1.eval (.tmp te) else(cxA tbl ct A F p vs us ds).snap q}:Cx)=cx;have hcA:cx.A=A:=by rw[←hcx];rfl
           have hcF:cx.F=F:=by rw[←hcx];rfl
           have hcAt:cx.At=(fun k g=>(k<ct.ar.length∨VB≤k)→p (k * 16)=some g):=by rw[←hcx];rfl
           have hcs:∀i,i<VB→cx.snap i=(vs++us).getD i undef:=fun i hi=>by
            rw[←hcx]
            show(if i=VB+te then _ else _)=_
            rw[if_neg (by omega)];rfl
           have hct:cx.snap (VB+te)=.pointer (some ⟨ge,0,none⟩):=by
            rw[←hcx,←hve]
            show(if VB+te=VB+te then _ else _)=_
            rw[if_pos rfl]
           have hlo:cx.lo=ct.ar.length:=by rw[←hcx];rfl
           have hf3:SF (cx.at (qb tbl) l') σ2 p1 w1 a1:=by rw[←hcx];exact hf2
           have hb3:Bs cx.A cx.F w (pinned p) p1 w1:=by rw[hcA,hcF];exact hb1
           have hpg:p (ks * 16)=some gs:=hat (.inl hks);clear hcx
           -- the call of keep
           have hgl:=qq hh;obtain⟨w2,hw2⟩:∃w2,w2=((w1.alloc (.cells #[.pointer (some ⟨gs,0,none⟩)] 41)).alloc (.cells #[.pointer (some ⟨ge,0,none⟩)] 79)).alloc (.cells #[.slice A0 r0.length k0,.slice A1 r1.length k1,.slice A2 r2.length k2,.slice A3 r3.length k3,.int .i64 x4,.int .i64 x5] 27):=⟨_,rfl⟩;have hs2:w2.heap.size=w1.heap.size+3:=by rw[hw2];simp
           have hst1:=q4j (A:=cx.A) hb3.bd (.cells #[.pointer (some ⟨gs,0,none⟩)] 41);have hbs1:=qa7 hb3 (.cells #[.pointer (some ⟨gs,0,none⟩)] 41);have hst2:=q4j (A:=cx.A) hbs1.bd (.cells #[.pointer (some ⟨ge,0,none⟩)] 79);have hbs2:=qa7 hbs1 (.cells #[.pointer (some ⟨ge,0,none⟩)] 79);have hst3:=q4j (A:=cx.A) hbs2.bd (.cells #[.slice A0 r0.length k0,.slice A1 r1.length k1,.slice A2 r2.length k2,.slice A3 r3.length k3,.int .i64 x4,.int .i64 x5] 27);have hbs3:=qa7 hbs2 (.cells #[.slice A0 r0.length k0,.slice A1 r1.length k1,.slice A2 r2.length k2,.slice A3 r3.length k3,.int .i64 x4,.int .i64 x5] 27);have hfk:=SF.same (c:=cx.at (qb tbl) l') hst3 (SF.same (c:=cx.at (qb tbl) l') hst2 (SF.same (c:=cx.at (qb tbl) l') hst1 hf3));have hh2:w2.heap[w1.heap.size]? =some (.cells #[.pointer (some ⟨gs,0,none⟩)] 41 (0,0)):=by
            rw[hw2];exact q0a (q0a (q03 rfl))
           have hh3:w2.heap[w1.heap.size+1]? =some (.cells #[.pointer (some ⟨ge,0,none⟩)] 79 (0,0)):=by
            rw[hw2];exact q0a (q03 (by simp))
           have hh5:w2.heap[w1.heap.size+2]? =some (.cells #[.slice A0 r0.length k0,.slice A1 r1.length k1,.slice A2 r2.length k2,.slice A3 r3.length k3,.int .i64 x4,.int .i64 x5] 27 (0,0)):=by
            rw[hw2];exact q03 (by simp)
           rw[←hw2] at hbs3 hfk;obtain⟨V,hV⟩:∃V,V=Value.func (.func 82) #[] #[.pointer (some ⟨w1.heap.size+1,0,none⟩),.pointer (some ⟨w1.heap.size,0,none⟩),.pointer (some ⟨w1.heap.size+2,0,none⟩)]:=⟨_,rfl⟩;have hfp:SF (cx.at (qb tbl) l') ⟨jw σ2.t t .any,σ2.m⟩ p1 w2 (a1.put (some t) V):=hfk.put (t:=t) (by rw[hz1];exact htz) trivial;have hmain:post.wp uD (bodyPostD uD fn R) {a1.put (some t) V with defers:={target:=.fn (.func 82) #[.pointer (some ⟨w1.heap.size+1,0,none⟩),.pointer (some ⟨w1.heap.size,0,none⟩),.pointer (some ⟨w1.heap.size+2,0,none⟩)],args:= #[]}::(a1.put (some t) V).defers} w2:=by
            refine(wpIn_wide (n:=0)).1 ?_;refine qdg none 0 (c:=cx) (S0:=pinned p1) (w0:=w2) (d:=[{target:=.fn (.func 82) #[.pointer (some ⟨w1.heap.size+1,0,none⟩),.pointer (some ⟨w1.heap.size,0,none⟩),.pointer (some ⟨w1.heap.size+2,0,none⟩)],args:= #[]}]) (z:=fn.ntmps) htb (by rw[hcF];exact hfm) post (by rw[hlo];exact hgo2) hl' hbs3.anew (SF.mk (fun t x hx=>hfp.t t x hx) (fun k e he=>hfp.m k e he)) (by show _::a1.defers=_;rw[hda1]) (by simp only[Act.put,Array.size_setIfInBounds];exact hz1) (q3l hnp) (qbz hnp) fun n2 r σ3 l2 B2 p2 w3 a3 hl2 hpre2 _ hgo3 hb4 hf4 hd4 hz4=>?_;have hend:(qi2 ct fn j ks te es.x n2 .ret σ3).go (qb tbl) (fun o=>o=outs) l2 B2→Leaves uD fn a3.tmps R a3.defers .returning w3:=fun hgo3=>by
             simp only[qi2] at hgo3;split at hgo3
             ·rename_i ke' σ4 hfree;split at hgo3
              ·rename_i es' ee' hes' hee';split at hgo3
               ·rename_i hok3;simp only[gnB] at hok3;have h31:=hok3.1;have h32:=hok3.2.1;have h33:zu (es'.own.map (·.2)++es'.dep) (ks * 16)=false:=by simpa using hok3.2.2.1
                have h34:=hok3.2.2.2;obtain⟨⟨hsay,-⟩,hgo4⟩:=hgo3;obtain⟨hf5,ge',hge',hsn⟩:=z6x hfree hf4;have hsn:cx.snap (VB+te)=.pointer (some ⟨ge',0,none⟩):=hsn;rw[hct] at hsn;injection hsn with hsn;injection hsn with hsn;injection hsn with hsn;subst hsn;obtain⟨g3,hg3,hat3⟩:=z0f h34 hf5;have hat3:cx.At ks g3:=hat3;rw[hcAt] at hat3;have hat3:=hat3 (.inl hks);rw[hpg] at hat3;injection hat3 with hat3;subst hat3;have fr:∀b,w1.heap.size≤b→q58 p1 b:=fun b hb x hx=>by
                 have:=hb3.bd x b hx;omega
                have k2:=(hb4.stays (b:=w1.heap.size) (by omega) (fr _ (by omega))).1.trans hh2;have k3:=(hb4.stays (b:=w1.heap.size+1) (by omega) (fr _ (by omega))).1.trans hh3;have k5:=(hb4.stays (b:=w1.heap.size+2) (by omega) (fr _ (by omega))).1.trans hh5;have ew:es.x.ev (evl (qb tbl) l2)=.a [.r r0,.r r1,.r r2,.r r3,.i x4,.i x5]:=by
                 refine Eq.trans (X.ev_upto (n:=n') (e:=evl (qb tbl) l2) (e':=evl (qb tbl) l') (fun k hk=>?_) rfl es.x hup) eD
                 show l2.getD k .u=l'.getD k .u
                 rw[←hpre2,gnG,gnG,List.getElem?_take_of_lt hk]
                have hcal:=z5h (nn:=0) (c:=cx) (w0:=w2) (S0:=pinned p1) (u:=.returning) hkj hb4 hf5 hes' hee' ((Ty.beq_iff _ _).1 h31) ((Ty.beq_iff _ _).1 h32) h33 hg3 hge' hsay k3 k2 k5 (by rw[ew];exact⟨rfl,rfl,rfl,rfl⟩) q4 ⟨by omega,by omega,by omega⟩;rw[hd4];refine leaves_cons (by simp) (f:=82) (args:= #[.pointer (some ⟨w1.heap.size+1,0,none⟩),.pointer (some ⟨w1.heap.size,0,none⟩),.pointer (some ⟨w1.heap.size+2,0,none⟩)]) (by simp[invoke,qgm]) (z2s (n:=0) (hcal.mono ?_));rintro e' u' w4⟨rfl,rfl,hb5,hf6⟩;exact hfin (c:=cx) hcA hcF hcAt hcs (hbs3.comp hb5) hf6 hgo4
               ·exact(show False from hgo3).elim
              ·exact(show False from hgo3).elim
             ·exact(show False from hgo3).elim
            cases r with
            |exit i=>exact(show False from hgo3).elim
            |ret=>exact hend hgo3
            |normal=>exact hend hgo3
           have hevt:(a1.put (some t) V).eval (.tmp t)=V:=by
            show(a1.tmps.setIfInBounds t V).getD t undef=V
            rw[uQ,Array.getElem?_setIfInBounds_self_of_lt (by omega)];rfl
           obtain⟨hgd,hdw⟩:=zc3 (a:=a1.put (some t) V) (w:=w2) (K:=wpOps uD [o1,ck,df].toArray (Exit.then (post.wp uD (bodyPostD uD fn R)) (bodyPostD uD fn R)) []) (Q:=Exit.then (post.wp uD (bodyPostD uD fn R)) (bodyPostD uD fn R)) hdt (hevt.trans hV) hmain;have hw1:Region.wanted ck (yielded ([o1,ck,df].toArray) a1.tmps)=true:=by simp[Region.wanted,hck2]
           have hw2':Region.wanted df (yielded ([o1,ck,df].toArray) (a1.put (some t) V).tmps)=true:=by simp[Region.wanted,hgd]
           show wpOps uD [o1,ck,df].toArray _ [1,2] a1 w1
           simp only[wpOps,kE,uR,uM];rw[if_pos hw1];refine .inl ?_;have hrun:(execOp a1.eval ck).run uD w1=.ok (.enter 43 #[.pointer (some ⟨gs,0,none⟩),.pointer (some ⟨ge,0,none⟩)]) w1:=by
            have hen:=qt9 #[.pointer (some ⟨gs,0,none⟩),.pointer (some ⟨ge,0,none⟩)] w1;have hvx:a1.eval x1=.pointer (some ⟨gs,0,none⟩):=hvx;generalize a1.eval=r at *;simp[execOp,hck3,resolve,Deferred.ofValue,hvy,hvx,hve,invoke,hen]
           unfold Oper.wp;rw[hrun]
           show Calls uD 43 _ w1 _
           refine(z56 w1 gs ge T hh).mono ?_;rintro e w2'⟨rfl,rfl⟩
           show(if Region.wanted df (yielded ([o1,ck,df].toArray) (a1.put ck.dst _).tmps)=true then _ else _)
           rw[hck1,←hV,←hw2,if_pos hw2'];exact .inl hdw
         ·exact hgo'.elim
        ·exact hgo'.elim
       ·exact hgo'.elim
      ·exact hgo'.elim
     ·exact hgo'.elim
    ·exact hgo'.elim
   ·exact(show False from hgo').elim
 ·exact h.elim
def q61:Ct:=⟨9,[.val (.st 26),.val (.st 28),.val (.str)],[(.st 28,false),(.bool,false)],[],none,[],[]⟩
theorem qv0:EnZ q61:=fun _ _=>by kernel_rfl
def z3g:Ann:=⟨[0,1,2,3,4,6,7,8,9,10,18,27],[]⟩
def qch:Tree:=(.need [(.ok 0 [(.tok 0),(.tok 1)])] (.br (.not (.call 0 1 [(.tok 0),(.tok 1)])) (.leaf [(.lit (.a [(.i 0),(.i 0)])),(.lit (.b .false))]) (.need [(.ok 1 [(.tok 0),(.call 0 0 [(.tok 0),(.tok 1)])])] (.need [(.ok 2 [(.call 1 0 [(.tok 0),(.call 0 0 [(.tok 0),(.tok 1)])]),(.tok 2)])] (.br (.lt (.call 2 0 [(.call 1 0 [(.tok 0),(.call 0 0 [(.tok 0),(.tok 1)])]),(.tok 2)]) (.lit (.i 0))) (.leaf [(.lit (.a [(.i 0),(.i 0)])),(.lit (.b .false))]) (.need [(.le (.lit (.i 0)) (.call 2 0 [(.call 1 0 [(.tok 0),(.call 0 0 [(.tok 0),(.tok 1)])]),(.tok 2)])),(.lt (.call 2 0 [(.call 1 0 [(.tok 0),(.call 0 0 [(.tok 0),(.tok 1)])]),(.tok 2)]) (.len (.call 1 0 [(.tok 0),(.call 0 0 [(.tok 0),(.tok 1)])])))] (.leaf [(.fld (.get (.call 1 0 [(.tok 0),(.call 0 0 [(.tok 0),(.tok 1)])]) (.call 2 0 [(.call 1 0 [(.tok 0),(.call 0 0 [(.tok 0),(.tok 1)])]),(.tok 2)])) 1),(.lit (.b .true))])))))))
theorem qxp(g0 g1 g2:GfZ):CdZ [(qu,g0),(yg,g1),(yq,g2)] z3g q61 Tryz.f9 qch:=fun cd h=>by injection h with h;subst h;kernel_rfl
theorem z3t{g0 g1 g2 g:GfZ}(h0:FOk qu g0)(h1:FOk yg g1)(h2:FOk yq g2)(h:HgZ qch q61 [(qu,g0),(yg,g1),(yq,g2)] g):FOk q61 g:=ym (qxp g0 g1 g2) (.cons h0 (.cons h1 (.cons h2 .nil))) rfl rfl qv0 (by decide) h
def q26:Ct:=⟨16,[.ref (.st 26) true,.val (.st 28),.val (.str),.val (.st 28)],[(.int .i64,false)],[],none,[],[]⟩
theorem qsq:EnZ q26:=fun _ _=>by kernel_rfl
def qks:Ann:=⟨[0,1,2,3,5,7,8,9,10,11,12,13,14,16,52,62,76,78,86,90,114],[]⟩
def qcb:Tree:=
 let i:X:=.tok 0
 let s:X:=.lit (.i 13)
 let v:X:=.lit (.i 1)
 let a1:X:=.lit (.i 0)
 let b1:X:=.lit (.i 3)
 let f:X:=.call 0 0 [i,(.tok 1)]
 let a:X:=.call 3 0 [i,f]
 let q:X:=.fld f 1
 let t:X:=.eq (.fld f 0) (.lit (.i 5))
 let e:X:=.app a (.row [(.mk [(.tok 2),(.tok 3)])])
 let h:X:=.call 4 0 [a,(.tok 2)]
 let k:X:=.add q (.lit (.i 2))
 let p:X:=.or (.or (.not (.call 0 1 [i,(.tok 1)])) (.and t (.not (.call 1 0 [i,f])))) (.lt (.lit (.i 100)) (.slen (.tok 2)))
 let b:X:=.call 5 2 [i,(.put a h (.set (.get a h) 1 (.tok 3)))]
 let l:X:=.call 5 0 [i,(.put a h (.set (.get a h) 1 (.tok 3)))]
 let m:X:=.call 5 2 [i,e]
 let o:X:=.call 5 1 [i,(.put a h (.set (.get a h) 1 (.tok 3)))]
 let r:X:=.call 5 0 [i,e]
 let u:X:=.call 5 1 [i,e]
 let c:X:=.set m 4 (.add (.fld m 4) v)
 let j:X:=.mk [(.lit (.i 5)),(.len (.fld (.set b 4 (.add (.fld b 4) v)) 0))]
 let w:X:=.call 6 0 [b,k,l]
 let y:X:=.call 6 0 [m,k,r]
 let d:X:=.set (.set b 4 (.add (.fld b 4) v)) 0 (.app (.fld (.set b 4 (.add (.fld b 4) v)) 0) (.row [j,(.mk [v,(.fld (.set b 4 (.add (.fld b 4) v)) 4)]),l]))
 let n:X:=.mk [(.lit (.i 5)),(.len (.fld c 0))]
 let g:X:=.set c 0 (.app (.fld c 0) (.row [n,(.mk [v,(.fld c 4)]),r]))
 let x:X:=.call 6 0 [d,q,j]
 let z:X:=.call 6 0 [g,q,n]
 (.need [(.ok 0 [i,(.tok 1)]),(.ok 0 [i,(.tok 1)])] (.need [(.imp (.not p) (.ok 2 [i,(.tok 3)])),(.imp (.and (.not (.not (.call 0 1 [i,(.tok 1)]))) t) (.ok 1 [i,f]))] (.br (.or p (.not (.call 2 0 [i,(.tok 3)]))) (.leaf [v,i]) (.need [(.ok 3 [i,f])] (.need [(.ok 4 [a,(.tok 2)])] (.br (.le a1 h) (.need [(.le a1 h),(.lt h (.len a))] (.br (.lt (.lit (.i 499)) (.len a)) (.leaf [(.lit (.i 2)),i]) (.need [(.ok 5 [i,(.put a h (.set (.get a h) 1 (.tok 3)))])] (.br (.not (.eq o a1)) (.need [(.ok 7 [o,b,i])] (.leaf [o,(.call 7 0 [o,b,i])])) (.br t (.need [(.rng .i64 k),(.ok 6 [b,k,l])] (.need [(.ok 7 [w,(.call 6 1 [b,k,l]),i])] (.leaf [w,(.call 7 0 [w,(.call 6 1 [b,k,l]),i])]))) (.br (.or (.lt (.fn 18 [(.fld b 5),b1]) (.len (.fld b 0))) (.le (.lit (.i 1099511627776)) (.fld b 4))) (.need [(.ok 7 [s,b,i])] (.leaf [s,(.call 7 0 [s,b,i])])) (.need [(.rng .i64 (.add (.fld b 4) v))] (.need [(.le (.add (.len (.fld (.set b 4 (.add (.fld b 4) v)) 0)) b1) (.lit (.i 8796093021952)))] (.need [(.ok 6 [d,q,j])] (.need [(.ok 7 [x,(.call 6 1 [d,q,j]),i])] (.leaf [x,(.call 7 0 [x,(.call 6 1 [d,q,j]),i])]))))))))))) (.need [(.le (.add (.len a) v) (.lit (.i 4398046510976)))] (.br (.lt (.lit (.i 499)) (.len e)) (.leaf [(.lit (.i 2)),i]) (.need [(.ok 5 [i,e])] (.br (.not (.eq u a1)) (.need [(.ok 7 [u,m,i])] (.leaf [u,(.call 7 0 [u,m,i])])) (.br t (.need [(.rng .i64 k),(.ok 6 [m,k,r])] (.need [(.ok 7 [y,(.call 6 1 [m,k,r]),i])] (.leaf [y,(.call 7 0 [y,(.call 6 1 [m,k,r]),i])]))) (.br (.or (.lt (.fn 18 [(.fld m 5),b1]) (.len (.fld m 0))) (.le (.lit (.i 1099511627776)) (.fld m 4))) (.need [(.ok 7 [s,m,i])] (.leaf [s,(.call 7 0 [s,m,i])])) (.need [(.rng .i64 (.add (.fld m 4) v))] (.need [(.le (.add (.len (.fld c 0)) b1) (.lit (.i 8796093021952)))] (.need [(.ok 6 [g,q,n])] (.need [(.ok 7 [z,(.call 6 1 [g,q,n]),i])] (.leaf [z,(.call 7 0 [z,(.call 6 1 [g,q,n]),i])])))))))))))))))))
theorem qy4(g0 g1 g2 g3 g4 g5 g6:List D→Option (List D)):∀cd,kN.body=some cd→zbn uD [(qu,g0),(y9,g1),(qh,g2),(yg,g3),(yq,g4),(jd,g5),(zn,g6),(qf4,q72)] qks q26 kN 7 cd=qcb:=by
 intro cd h;injection h with h;subst h;kernel_rfl
variable{g:List D→Option (List D)}
theorem z1s{g0 g1 g2 g3 g4 g5 g6:List D→Option (List D)}(h0:FOk qu g0)(h1:FOk y9 g1)(h2:FOk qh g2)(h3:FOk yg g3)(h4:FOk yq g4)(h5:FOk jd g5)(h6:FOk zn g6)(h:∀ds outs,WfA q26.ars ds→g ds=some outs→qcb.go (qb [(qu,g0),(y9,g1),(qh,g2),(yg,g3),(yq,g4),(jd,g5),(zn,g6),(qf4,q72)]) (fun o=>o=outs) ds fun _ _=>False):FOk q26 g:=
 FOk.of_at qsq fun ds outs hw hg=>z5m qks kN 7 _ (.cons h0 (.cons h1 (.cons h2 (.cons h3 (.cons h4 (.cons h5 (.cons h6 (.cons z4l .nil)))))))) (fun _=>rfl) rfl rfl (by decide) rfl (by rw[qy4 g0 g1 g2 g3 g4 g5 g6 _ rfl];exact h ds outs hw hg)
def q65:Ct:=⟨17,[.ref (.st 26) true,.val (.st 28),.val (.str)],[(.int .i64,false)],[],none,[],[]⟩
theorem qvq:EnZ q65:=fun _ _=>by kernel_rfl
def qlk:Ann:=⟨[0,1,2,4,6,7,8,9,10,11,13,28,38,44,46,58],[]⟩
def qci:Tree:=
 let c:X:=.tok 0
 let j:X:=.lit (.i 1)
 let k:X:=.lit (.i 0)
 let b:X:=.call 0 0 [c,(.tok 1)]
 let d:X:=.add (.fld b 1) (.lit (.i 2))
 let e:X:=.call 2 0 [(.call 1 0 [c,b]),(.tok 2)]
 let a:X:=.call 4 0 [(.call 1 0 [c,b]),e,(.add e j)]
 let f:X:=.call 5 2 [c,a]
 let g:X:=.call 5 0 [c,a]
 let h:X:=.call 5 1 [c,a]
 let i:X:=.call 6 0 [f,d,g]
 (.need [(.ok 0 [c,(.tok 1)]),(.ok 0 [c,(.tok 1)])] (.br (.or (.not (.call 0 1 [c,(.tok 1)])) (.lt (.lit (.i 100)) (.slen (.tok 2)))) (.leaf [j,c]) (.need [(.ok 1 [c,b])] (.need [(.ok 2 [(.call 1 0 [c,b]),(.tok 2)])] (.br (.lt e k) (.leaf [k,c]) (.need [(.ok 3 [c,b])] (.br (.not (.call 3 0 [c,b])) (.leaf [j,c]) (.need [(.rng .i64 (.add e j)),(.ok 4 [(.call 1 0 [c,b]),e,(.add e j)]),(.ok 5 [c,a])] (.br (.not (.eq h k)) (.need [(.ok 7 [h,f,c])] (.leaf [h,(.call 7 0 [h,f,c])])) (.need [(.rng .i64 d),(.ok 6 [f,d,g])] (.need [(.ok 7 [i,(.call 6 1 [f,d,g]),c])] (.leaf [i,(.call 7 0 [i,(.call 6 1 [f,d,g]),c])]))))))))))))
theorem qye(g0 g1 g2 g3 g4 g5 g6:List D→Option (List D)):∀cd,kM.body=some cd→zbn uD [(qu,g0),(yg,g1),(yq,g2),(y9,g3),(j8,g4),(jd,g5),(zn,g6),(qf4,q72)] qlk q65 kM 7 cd=qci:=by
 intro cd h;injection h with h;subst h;kernel_rfl
theorem z2w{g0 g1 g2 g3 g4 g5 g6:List D→Option (List D)}(h0:FOk qu g0)(h1:FOk yg g1)(h2:FOk yq g2)(h3:FOk y9 g3)(h4:FOk j8 g4)(h5:FOk jd g5)(h6:FOk zn g6)(h:∀ds outs,WfA q65.ars ds→g ds=some outs→qci.go (qb [(qu,g0),(yg,g1),(yq,g2),(y9,g3),(j8,g4),(jd,g5),(zn,g6),(qf4,q72)]) (fun o=>o=outs) ds fun _ _=>False):FOk q65 g:=
 FOk.of_at qvq fun ds outs hw hg=>z5m qlk kM 7 _ (.cons h0 (.cons h1 (.cons h2 (.cons h3 (.cons h4 (.cons h5 (.cons h6 (.cons z4l .nil)))))))) (fun _=>rfl) rfl rfl (by decide) rfl (by rw[qye g0 g1 g2 g3 g4 g5 g6 _ rfl];exact h ds outs hw hg)
variable{S:Nat→List D→Option (List D)}{R:List D→Prop}{body:Tree}{B:Nat→List D→Prop}{i:Int}{P:Nat→Bool}{d:D}
section
theorem yw(n:Int):(D.i n).int=n:=rfl
theorem q6x(x:Bool):(D.b x).tt=x:=by cases x<;>rfl
theorem qa8(l:List D):(D.r l).rs=l:=rfl
theorem zv9(l:List D):(D.a l).fs=l:=rfl
theorem q5f(x:ByteArray):(D.s x).str=x:=rfl
theorem zbo(l:List D):(D.mp l).ms=l:=rfl
theorem q6r(m n:Int):(D.i m=D.i n)=(m=n):=by simp
theorem zou(m n:Bool):(D.b m=D.b n)=(m=n):=by simp
theorem zjx(m n:ByteArray):(D.s m=D.s n)=(m=n):=by simp
theorem qp{S:Nat→List D→Option (List D)}{R:List D→Prop}{ns:List X}{t:Tree}{l:List D}{B:Nat→List D→Prop}:(Tree.need ns t).go S R l B=(jy (evl S l) ns∧t.go S R l B):=rfl
theorem zw{S:Nat→List D→Option (List D)}{R:List D→Prop}{x:X}{t e:Tree}{l:List D}{B:Nat→List D→Prop}:(Tree.br x t e).go S R l B=(((x.ev (evl S l)).tt=true→t.go S R l B)∧((x.ev (evl S l)).tt=false→e.go S R l B)):=rfl
theorem q40{S:Nat→List D→Option (List D)}{R:List D→Prop}{xs:List X}{l:List D}{B:Nat→List D→Prop}:(Tree.leaf xs).go S R l B=R (X.evs (evl S l) xs):=rfl
theorem z2p{S:Nat→List D→Option (List D)}{R:List D→Prop}{id:Nat}{xs:List X}{l:List D}{B:Nat→List D→Prop}:(Tree.back id xs).go S R l B=B id (X.evs (evl S l) xs):=rfl
theorem zz{id n:Nat}{init:List X}{l:List D}:(Tree.loop id n init body).go S R l B=∃(I:List D→Prop)(μ:List D→Nat),I (X.evs (evl S l) init)∧
   ∀st,st.length=init.length→I st→body.go S R (l.take n++st) (jg B id fun st'=>I st'∧μ st'<μ st):=rfl
theorem q6w{n:Int}:yz .i64 n=true↔-9223372036854775808≤n∧n≤9223372036854775807:=by simp[yz]
section
variable{α:Type}[Inhabited α]
theorem get_map(e:α→D){l:List α}{i:Nat}(h:i<l.length):(l.map e).getD i .u=e (l.getD i default):=by
 simp[gnG,h]
theorem zbv(e:α→D){l:List α}(h0:0≤i)(h:i<l.length):(D.r (l.map e)).get i=e (l.getD i.toNat default):=get_map e (by omega)
theorem q31(e:α→D){l:List α}{i:Nat}(h:i<l.length):(D.r (l.map e)).get (i:Int)=e (l.getD i default):=get_map e (by simpa using h)
omit [Inhabited α] in
theorem map_inj{e:α→D}(he:∀a b,e a=e b→a=b):∀{l m:List α},l.map e=m.map e→l=m
 |[],[],_=>rfl
 |a::l,b::m,h=>by
  simp only[kQ,List.cons.injEq] at h;rw[he a b h.1,map_inj he h.2]
 |[],_::_,h=>by simp at h
 |_::_,[],h=>by simp at h
omit [Inhabited α] in
theorem qe5{e:α→D}{P:α→Prop}{l:List D}(h:∀x∈l,∃a,x=e a∧P a):∃m:List α,l=m.map e∧∀a∈m,P a:=by
 induction l with
 |nil=>exact⟨[],rfl,fun a ha=>by cases ha⟩
 |cons x l ih=>
  obtain⟨a,rfl,ha⟩:=h x kI;obtain⟨m,rfl,hm⟩:=ih fun y hy=>h y (List.mem_cons_of_mem _ hy);refine⟨a::m,rfl,fun b hb=>?_⟩;rcases uL.1 hb with rfl|hb
  ·exact ha
  ·exact hm b hb
theorem q8t{l:List α}{i:Nat}(h:i<l.length):l.getD i default∈l:=by
 rw[gnG,gnK h];exact List.getElem_mem h
theorem q7x{l:List α}{k:Nat}(h:k<l.length):l.take (k+1)=l.take k++[l.getD k default]:=by
 rw[List.take_add_one,gnK h];simp[gnG,h]
end
theorem q8m{n:Nat}(h:∀j,j<n→P j=true):(uH n).all P=true:=by
 rw[uJ];exact fun j hj=>h j (uN.1 hj)
theorem qaa{n k:Nat}(hk:k<n)(h:P k=false):(uH n).all P=false:=by
 cases ha:(uH n).all P with
 |false=>rfl
 |true=>rw[uJ.1 ha k (uN.2 hk)] at h;cases h
theorem qur{n k:Nat}(h:(uH n).all P=true)(hk:k<n):P k=true:=uJ.1 h k (uN.2 hk)
theorem q2v{P:Nat→Prop}{k:Nat}(h:∀j,j<k→P j)(hk:P k):∀j,j<k+1→P j:=fun j hj=>by
 rcases Nat.lt_succ_iff_lt_or_eq.1 hj with h1|h1
 ·exact h j h1
 ·exact h1▸hk
theorem z81{t u:Ty}(h:WfL ds [t,u]):∃a b,ds=[a,b]∧Wf a t∧Wf b u:=by
 match ds,h with
 |[],h=>cases h
 |[a],h=>obtain⟨t,ts,e,h1,h2⟩:=h;rw[h2] at e;cases e
 |[a,b],h=>
  obtain⟨t,ts,e,h1,t2,ts2,e2,h2,-⟩:=h;injection e with e e';subst e e';injection e2 with e2 e2';subst e2;exact⟨a,b,rfl,h1,h2⟩
 |a::b::c::l,h=>obtain⟨t,ts,e,h1,t2,ts2,e2,h2,t3,ts3,e3,-⟩:=h;subst e2 e3;cases e
theorem qav{t:Ty}{ts:List Ty}(h:WfL ds (t::ts)):∃a r,ds=a::r∧Wf a t∧WfL r ts:=by
 match ds,h with
 |[],h=>cases h
 |a::r,h=>
  obtain⟨t,ts,e,h1,h2⟩:=h;injection e with e e';subst e e';exact⟨a,r,rfl,h1,h2⟩
theorem Wf.st_of{S:TypeId}{fs:List Ty}(h:Wf d (.st S))(hf:flds S=some fs):∃ds,d=.a ds∧WfL ds fs:=by
 obtain⟨ds,fs',rfl,hf',hl⟩:=h.st;rw[hf] at hf';injection hf' with hf';subst hf';exact⟨ds,rfl,hl⟩
theorem Wf.row_of{E:TypeId}{te:Ty}(h:Wf d (.row E))(hE:qj E=some te):∃l,d=.r l∧l.length≤LM te∧∀x∈l,Wf x te:=by
 obtain⟨l,te',rfl,hE',h1,h2⟩:=h.row;rw[hE] at hE';injection hE' with hE';subst hE';exact⟨l,rfl,h1,h2⟩
end
structure Ce where
 t:Int
 n:Int
structure Un where
 at':Int
 old:Ce
structure Wk where
 ser:Int
 att:Ce
 val:Ce
structure Sy where
 name:ByteArray
 ar:Int
structure So where
 cs:List Ce
 ys:List Sy
 tr:List Un
 wk:List Wk
 ser:Int
 mx:Int
instance:Inhabited Ce:=⟨⟨0,0⟩⟩
instance:Inhabited Un:=⟨⟨0,default⟩⟩
instance:Inhabited Wk:=⟨⟨0,default,default⟩⟩
instance:Inhabited Sy:=⟨⟨⟨#[]⟩,0⟩⟩
def eC(c:Ce):D:=.a [.i c.t,.i c.n]
def eU(u:Un):D:=.a [.i u.at',eC u.old]
def eW(w:Wk):D:=.a [.i w.ser,eC w.att,eC w.val]
def eY(y:Sy):D:=.a [.s y.name,.i y.ar]
def eS(s:So):D:=.a [.r (s.cs.map eC),.r (s.ys.map eY),.r (s.tr.map eU),.r (s.wk.map eW),.i s.ser,.i s.mx]
def dC(d:D):Ce:=⟨(d.fld 0).int,(d.fld 1).int⟩
def dU(d:D):Un:=⟨(d.fld 0).int,dC (d.fld 1)⟩
def dW(d:D):Wk:=⟨(d.fld 0).int,dC (d.fld 1),dC (d.fld 2)⟩
def dY(d:D):Sy:=⟨(d.fld 0).str,(d.fld 1).int⟩
def dS(d:D):So:=⟨(d.fld 0).rs.map dC,(d.fld 1).rs.map dY,(d.fld 2).rs.map dU,(d.fld 3).rs.map dW,(d.fld 4).int,(d.fld 5).int⟩
theorem q0t(c:Ce):dC (eC c)=c:=rfl
theorem z04(c:Un):dU (eU c)=c:=rfl
theorem z7r(c:Wk):dW (eW c)=c:=rfl
theorem qt4(c:Sy):dY (eY c)=c:=rfl
variable{α:Type}
theorem map_id'{e:α→D}{d:D→α}(h:∀a,d (e a)=a)(l:List α):(l.map e).map d=l:=by
 rw[List.map_map];have:d ∘ e=id:=funext h;rw[this,List.map_id]
theorem zr(s:So):dS (eS s)=s:=by
 show So.mk ((s.cs.map eC).map dC) ((s.ys.map eY).map dY) ((s.tr.map eU).map dU) ((s.wk.map eW).map dW) s.ser s.mx=s
 rw[map_id' q0t,map_id' qt4,map_id' z04,map_id' z7r]
theorem z3c{a b:Ce}(h:eC a=eC b):a=b:=by rw[←q0t a,h,q0t b]
theorem z9z{a b:Un}(h:eU a=eU b):a=b:=by rw[←z04 a,h,z04 b]
theorem z88{a b:Wk}(h:eW a=eW b):a=b:=by rw[←z7r a,h,z7r b]
theorem qvx{a b:Sy}(h:eY a=eY b):a=b:=by rw[←qt4 a,h,qt4 b]
theorem z9b{a b:So}(h:eS a=eS b):a=b:=by rw[←zr a,h,zr b]
theorem zao(a b:Ce):(eC a=eC b)=(a=b):=propext ⟨z3c,fun h=>h▸rfl⟩
theorem zow(a b:Un):(eU a=eU b)=(a=b):=propext ⟨z9z,fun h=>h▸rfl⟩
theorem zpf(a b:Wk):(eW a=eW b)=(a=b):=propext ⟨z88,fun h=>h▸rfl⟩
theorem qzi(a b:Sy):(eY a=eY b)=(a=b):=propext ⟨qvx,fun h=>h▸rfl⟩
theorem zhp(a b:So):(eS a=eS b)=(a=b):=propext ⟨z9b,fun h=>h▸rfl⟩
instance:DecidableEq Ce:=fun a b=>if h:eC a=eC b then .isTrue (z3c h) else .isFalse fun e=>h (e▸rfl)
instance:DecidableEq Un:=fun a b=>if h:eU a=eU b then .isTrue (z9z h) else .isFalse fun e=>h (e▸rfl)
instance:DecidableEq Wk:=fun a b=>if h:eW a=eW b then .isTrue (z88 h) else .isFalse fun e=>h (e▸rfl)
instance:DecidableEq Sy:=fun a b=>if h:eY a=eY b then .isTrue (qvx h) else .isFalse fun e=>h (e▸rfl)
instance:DecidableEq So:=fun a b=>if h:eS a=eS b then .isTrue (z9b h) else .isFalse fun e=>h (e▸rfl)
theorem Ce.ext'{a b:Ce}(h1:a.t=b.t)(h2:a.n=b.n):a=b:=by
 cases a;cases b;cases h1;cases h2;rfl
theorem qps(c:Ce):(eC c).fld 0=.i c.t:=rfl
theorem qxf(c:Ce):(eC c).fld 1=.i c.n:=rfl
theorem ztt(c:Un):(eU c).fld 0=.i c.at':=rfl
theorem zu0(c:Un):(eU c).fld 1=eC c.old:=rfl
theorem zuq(c:Wk):(eW c).fld 0=.i c.ser:=rfl
theorem zvl(c:Wk):(eW c).fld 1=eC c.att:=rfl
theorem znv(c:Wk):(eW c).fld 2=eC c.val:=rfl
theorem zec(c:Sy):(eY c).fld 0=.s c.name:=rfl
theorem z9h(c:Sy):(eY c).fld 1=.i c.ar:=rfl
theorem qev(s:So):(eS s).fld 0=.r (s.cs.map eC):=rfl
theorem za7(s:So):(eS s).fld 1=.r (s.ys.map eY):=rfl
theorem z2r(s:So):(eS s).fld 2=.r (s.tr.map eU):=rfl
theorem qyh(s:So):(eS s).fld 3=.r (s.wk.map eW):=rfl
theorem zs4(s:So):(eS s).fld 4=.i s.ser:=rfl
theorem zr4(s:So):(eS s).fld 5=.i s.mx:=rfl
theorem gnA:type_of% (uA @uE.{0} (uA @kG.{0} (uA @uM.{0} (uA @uR.{0} (uA @q6x (uA @yw (uA @q5f (uA @qa8 (uA @uV.{0} (uA @uX.{0} (uA @decide_eq_true_eq (uA @decide_eq_false_iff_not (uA @zr (uA @q0t (uA @z04 (uA @z7r (uA @qt4 (uA @qps (uA @qxf (uA @ztt (uA @zu0 (uA @zuq (uA @zvl (uA @znv (uA @zec (uA @z9h (uA @qev (uA @za7 (uA @z2r (uA @qyh (uA @zs4 (uA @zr4 (uA @uF.{0,0} (uA @q6r (uA @zou (uA @zjx (uA @zao (uA @zow (uA @zpf (uA @qzi (uA @zhp (uA @q6w (uA @kF.{0} (uA @kO.{0} (uA @kK.{0} (uA @uZ.{0} (uA @decide_true (uA @decide_false (uA @kA (uA @true_and @and_true)))))))))))))))))))))))))))))))))))))))))))))))))):=uA @uE.{0} (uA @kG.{0} (uA @uM.{0} (uA @uR.{0} (uA @q6x (uA @yw (uA @q5f (uA @qa8 (uA @uV.{0} (uA @uX.{0} (uA @decide_eq_true_eq (uA @decide_eq_false_iff_not (uA @zr (uA @q0t (uA @z04 (uA @z7r (uA @qt4 (uA @qps (uA @qxf (uA @ztt (uA @zu0 (uA @zuq (uA @zvl (uA @znv (uA @zec (uA @z9h (uA @qev (uA @za7 (uA @z2r (uA @qyh (uA @zs4 (uA @zr4 (uA @uF.{0,0} (uA @q6r (uA @zou (uA @zjx (uA @zao (uA @zow (uA @zpf (uA @qzi (uA @zhp (uA @q6w (uA @kF.{0} (uA @kO.{0} (uA @kK.{0} (uA @uZ.{0} (uA @decide_true (uA @decide_false (uA @kA (uA @true_and @and_true)))))))))))))))))))))))))))))))))))))))))))))))))
theorem gnZ:type_of% (uA @qp (uA @zw (uA @q40 (uA @z2p (uA @jy.eq_1 (uA @jy.eq_2 (uA @X.says.eq_1 (uA @X.ev.eq_1 (uA @X.ev.eq_2 (uA @X.ev.eq_3 (uA @X.ev.eq_4 (uA @X.ev.eq_5 (uA @X.ev.eq_6 (uA @X.ev.eq_7 (uA @X.ev.eq_8 (uA @X.ev.eq_9 (uA @X.ev.eq_10 (uA @X.ev.eq_11 (uA @X.ev.eq_12 (uA @X.ev.eq_13 (uA @X.ev.eq_14 (uA @X.ev.eq_15 (uA @X.ev.eq_16 (uA @X.ev.eq_17 (uA @X.ev.eq_18 (uA @X.ev.eq_19 (uA @X.ev.eq_20 (uA @X.ev.eq_21 (uA @X.ev.eq_22 (uA @X.ev.eq_23 (uA @X.ev.eq_24 (uA @X.ev.eq_25 (uA @X.ev.eq_26 (uA @X.ev.eq_27 (uA @X.ev.eq_28 (uA @X.ev.eq_29 (uA @X.evs.eq_1 (uA @X.evs.eq_2 (uA @evl.eq_1 (uA @qb.eq_1 @gnA)))))))))))))))))))))))))))))))))))))))):=uA @qp (uA @zw (uA @q40 (uA @z2p (uA @jy.eq_1 (uA @jy.eq_2 (uA @X.says.eq_1 (uA @X.ev.eq_1 (uA @X.ev.eq_2 (uA @X.ev.eq_3 (uA @X.ev.eq_4 (uA @X.ev.eq_5 (uA @X.ev.eq_6 (uA @X.ev.eq_7 (uA @X.ev.eq_8 (uA @X.ev.eq_9 (uA @X.ev.eq_10 (uA @X.ev.eq_11 (uA @X.ev.eq_12 (uA @X.ev.eq_13 (uA @X.ev.eq_14 (uA @X.ev.eq_15 (uA @X.ev.eq_16 (uA @X.ev.eq_17 (uA @X.ev.eq_18 (uA @X.ev.eq_19 (uA @X.ev.eq_20 (uA @X.ev.eq_21 (uA @X.ev.eq_22 (uA @X.ev.eq_23 (uA @X.ev.eq_24 (uA @X.ev.eq_25 (uA @X.ev.eq_26 (uA @X.ev.eq_27 (uA @X.ev.eq_28 (uA @X.ev.eq_29 (uA @X.evs.eq_1 (uA @X.evs.eq_2 (uA @evl.eq_1 (uA @qb.eq_1 @gnA)))))))))))))))))))))))))))))))))))))))
theorem zpd(c:Ce)(n:Int):D.a ((eC c).fs.set 0 (.i n))=eC {c with t:=n}:=rfl
theorem q8w(t n:Int):D.a [.i t,.i n]=eC ⟨t,n⟩:=rfl
abbrev i64(n:Int):Prop:= -9223372036854775808≤n∧n≤9223372036854775807
def Ce.ok(c:Ce):Prop:=i64 c.t∧i64 c.n
def Un.ok(c:Un):Prop:=i64 c.at'∧c.old.ok
def Wk.ok(c:Wk):Prop:=i64 c.ser∧c.att.ok∧c.val.ok
def Sy.ok(c:Sy):Prop:=c.name.size≤LIM∧i64 c.ar
structure So.ok(s:So):Prop where
 cs:s.cs.length≤8796093021952∧∀c∈s.cs,c.ok
 ys:s.ys.length≤5864062014634∧∀c∈s.ys,c.ok
 tr:s.tr.length≤5864062014634∧∀c∈s.tr,c.ok
 wk:s.wk.length≤3518437208780∧∀c∈s.wk,c.ok
 ser:i64 s.ser
 mx:i64 s.mx
theorem wfI(h:Wf d (.int .i64)):∃n,d=.i n∧i64 n:=by
 obtain⟨n,rfl,hn⟩:=h.int;exact⟨n,rfl,q6w.1 hn⟩
theorem wfC(h:Wf d qk):∃c,d=eC c∧c.ok:=by
 obtain⟨ds,rfl,hl⟩:=h.st_of (fs:=[.int .i64,.int .i64]) rfl;obtain⟨a,b,rfl,ha,hb⟩:=z81 hl;obtain⟨x,rfl,hx⟩:=wfI ha;obtain⟨y,rfl,hy⟩:=wfI hb;exact⟨⟨x,y⟩,rfl,hx,hy⟩
theorem wfU(h:Wf d q2f):∃c,d=eU c∧c.ok:=by
 obtain⟨ds,rfl,hl⟩:=h.st_of (fs:=[.int .i64,qk]) rfl;obtain⟨a,b,rfl,ha,hb⟩:=z81 hl;obtain⟨x,rfl,hx⟩:=wfI ha;obtain⟨y,rfl,hy⟩:=wfC hb;exact⟨⟨x,y⟩,rfl,hx,hy⟩
theorem wfW(h:Wf d yo):∃c,d=eW c∧c.ok:=by
 obtain⟨ds,rfl,hl⟩:=h.st_of (fs:=[.int .i64,qk,qk]) rfl;obtain⟨a,r,rfl,ha,hr⟩:=qav hl;obtain⟨b,c,rfl,hb,hc⟩:=z81 hr;obtain⟨x,rfl,hx⟩:=wfI ha;obtain⟨y,rfl,hy⟩:=wfC hb;obtain⟨z,rfl,hz⟩:=wfC hc;exact⟨⟨x,y,z⟩,rfl,hx,hy,hz⟩
theorem wfY(h:Wf d yd):∃c,d=eY c∧c.ok:=by
 obtain⟨ds,rfl,hl⟩:=h.st_of (fs:=[.str,.int .i64]) rfl;obtain⟨a,b,rfl,ha,hb⟩:=z81 hl;obtain⟨x,rfl,hx⟩:=ha.str;obtain⟨y,rfl,hy⟩:=wfI hb;exact⟨⟨x,y⟩,rfl,hx,hy⟩
theorem zwd(h:Wf d zk):∃l:List Ce,d=.r (l.map eC)∧l.length≤8796093021952∧∀c∈l,c.ok:=by
 obtain⟨l,rfl,h1,h2⟩:=h.row_of (te:=qk) rfl;obtain⟨m,rfl,h3⟩:=qe5 (e:=eC) (P:=Ce.ok) fun x hx=>wfC (h2 x hx);have e:LM qk=8796093021952:=by kernel_rfl
 rw[e,uF] at h1;exact⟨m,rfl,h1,h3⟩
theorem zvy(h:Wf d z2k):∃l:List Un,d=.r (l.map eU)∧l.length≤5864062014634∧∀c∈l,c.ok:=by
 obtain⟨l,rfl,h1,h2⟩:=h.row_of (te:=q2f) rfl;obtain⟨m,rfl,h3⟩:=qe5 (e:=eU) (P:=Un.ok) fun x hx=>wfU (h2 x hx);have e:LM q2f=5864062014634:=by kernel_rfl
 rw[e,uF] at h1;exact⟨m,rfl,h1,h3⟩
theorem zwj(h:Wf d q35):∃l:List Wk,d=.r (l.map eW)∧l.length≤3518437208780∧∀c∈l,c.ok:=by
 obtain⟨l,rfl,h1,h2⟩:=h.row_of (te:=yo) rfl;obtain⟨m,rfl,h3⟩:=qe5 (e:=eW) (P:=Wk.ok) fun x hx=>wfW (h2 x hx);have e:LM yo=3518437208780:=by kernel_rfl
 rw[e,uF] at h1;exact⟨m,rfl,h1,h3⟩
theorem zvg(h:Wf d qnl):∃l:List Sy,d=.r (l.map eY)∧l.length≤5864062014634∧∀c∈l,c.ok:=by
 obtain⟨l,rfl,h1,h2⟩:=h.row_of (te:=yd) rfl;obtain⟨m,rfl,h3⟩:=qe5 (e:=eY) (P:=Sy.ok) fun x hx=>wfY (h2 x hx);have e:LM yd=5864062014634:=by kernel_rfl
 rw[e,uF] at h1;exact⟨m,rfl,h1,h3⟩
theorem wfS(h:Wf d qd):∃s,d=eS s∧s.ok:=by
 obtain⟨ds,rfl,hl⟩:=h.st_of (fs:=[zk,qnl,z2k,q35,.int .i64,.int .i64]) rfl;obtain⟨d0,r,rfl,h0,hl⟩:=qav hl;obtain⟨d1,r,rfl,h1,hl⟩:=qav hl;obtain⟨d2,r,rfl,h2,hl⟩:=qav hl;obtain⟨d3,r,rfl,h3,hl⟩:=qav hl;obtain⟨d4,d5,rfl,h4,h5⟩:=z81 hl;obtain⟨cs,rfl,q0⟩:=zwd h0;obtain⟨ys,rfl,q1⟩:=zvg h1;obtain⟨tr,rfl,q2⟩:=zvy h2;obtain⟨wk,rfl,q3⟩:=zwj h3;obtain⟨x,rfl,q4⟩:=wfI h4;obtain⟨y,rfl,q5⟩:=wfI h5;exact⟨⟨cs,ys,tr,wk,x,y⟩,rfl,q0,q1,q2,q3,q4,q5⟩
def cellAt(s:So)(i:Int):Ce:=s.cs.getD i.toNat default
def inS(s:So)(i:Int):Bool:=decide (0≤i)&&decide (i<s.cs.length)
def q3f(s:So)(i:Int):Int:=if inS s i then(cellAt s i).t else -1
def arS(s:So)(n:Int):Int:=if 0≤n∧n<s.ys.length then(s.ys.getD n.toNat default).ar else -1
def vcR(s:So)(c:Ce):Bool:=if c.t=0 then inS s c.n&& !decide (q3f s c.n=4) else if c.t=1 then true else if c.t=2 then decide (arS s c.n=0) else if c.t=3 then decide (q3f s c.n=4) else if c.t=5 then decide (q3f s c.n=5) else false
def vcP(s:So)(c:Ce):Bool:=if c.t=0 then decide (0≤q3f s c.n)&& !decide (q3f s c.n=4) else if c.t=1 then true else if c.t=2 then decide (arS s c.n=0) else if c.t=3 then decide (q3f s c.n=4) else if c.t=5 then decide (q3f s c.n=5) else false
def qjh(s:So)(i:Int):Bool:=decide (q3f s (i+1)=1)&&(decide (1≤(cellAt s (i+1)).n)&&(decide ((cellAt s (i+1)).n≤s.ser)&&(decide (0≤q3f s (i+2))&&(!decide (q3f s (i+2)=4)&& !decide (q3f s (i+2)=5)))))
def qa3(f:So→Int→Int):List D→Option (List D)
 |[s,i]=>some [.i (f (dS s) i.int)]
 |_=>none
def qcv(f:So→Int→Bool):List D→Option (List D)
 |[s,i]=>some [.b (f (dS s) i.int)]
 |_=>none
def qg5(q:So→Int→Bool)(f:So→Int→Bool):List D→Option (List D)
 |[s,i]=>if q (dS s) i.int then some [.b (f (dS s) i.int)] else none
 |_=>none
def qcu(f:So→Ce→Bool):List D→Option (List D)
 |[s,c]=>some [.b (f (dS s) (dC c))]
 |_=>none
def zld(f:So→Un→Bool):List D→Option (List D)
 |[s,c]=>some [.b (f (dS s) (dU c))]
 |_=>none
def gSb(f:So→Bool):List D→Option (List D)
 |[s]=>some [.b (f (dS s))]
 |_=>none
theorem qs{s:So}:inS s i=true↔0≤i∧i<s.cs.length:=by simp[inS]
theorem zs{s:So}(h:inS s i=true):(D.r (s.cs.map eC)).get i=eC (cellAt s i):=zbv eC (qs.1 h).1 (qs.1 h).2
theorem q34{s:So}(h:inS s i=true):q3f s i=(cellAt s i).t:=if_pos h
theorem q70{s:So}(h:inS s i=false):q3f s i= -1:=if_neg (by rw[h];decide)
theorem q3p:FOk z5 (qcv inS):=qnp fun ds outs hw hg=>by
 obtain⟨d,r,rfl,hd,e,r',rfl,he,rfl⟩:=hw;obtain⟨s,rfl,hs⟩:=wfS hd;obtain⟨i,rfl,hi⟩:=wfI he;simp only[qcv,zr,yw,uB] at hg;subst hg;simp only[q6a,Tree.go,jy,X.says,X.ev,X.evs,evl,qb,gnA,inS]
theorem q6j:FOk zy (qa3 q3f):=qxo q3p fun ds outs hw hg=>by
 obtain⟨d,r,rfl,hd,e,r',rfl,he,rfl⟩:=hw;obtain⟨s,rfl,hs⟩:=wfS hd;obtain⟨i,rfl,hi⟩:=wfI he;simp only[qa3,zr,yw,uB] at hg;subst hg;simp only[qb4,Tree.go,jy,X.says,X.ev,X.evs,evl,qb,gnA,qcv,true_and];cases h:inS s i with
 |false=>simp[q70 h]
 |true=>
  have h':=qs.1 h;simp[zs h,qps,q34 h,h']
theorem qac:FOk ja (qa3 q3f):=qxy fun ds outs hw hg=>by
 obtain⟨d,r,rfl,hd,e,r',rfl,he,rfl⟩:=hw;obtain⟨s,rfl,hs⟩:=wfS hd;obtain⟨i,rfl,hi⟩:=wfI he;simp only[qa3,zr,yw,uB] at hg;subst hg;simp only[qau,Tree.go,jy,X.says,X.ev,X.evs,evl,qb,gnA,true_and];cases h:inS s i with
 |false=>
  have h':¬(0≤i∧i<s.cs.length):=fun q=>by rw[qs.2 q] at h;cases h
  have h2:i<0∨(s.cs.length:Int)≤i:=by omega
  simp[q70 h];omega
 |true=>
  have h':=qs.1 h;have h1:¬i<0:=by omega
  have h2:¬(s.cs.length:Int)≤i:=by omega
  simp[zs h,qps,q34 h,h',h1,h2]
theorem z2j{s:So}(h:0≤i∧i<s.ys.length):(D.r (s.ys.map eY)).get i=eY (s.ys.getD i.toNat default):=zbv eY h.1 h.2
theorem qga:FOk jk (qa3 arS):=qrg fun ds outs hw hg=>by
 obtain⟨d,r,rfl,hd,e,r',rfl,he,rfl⟩:=hw;obtain⟨s,rfl,hs⟩:=wfS hd;obtain⟨i,rfl,hi⟩:=wfI he;simp only[qa3,zr,yw,uB] at hg;subst hg;simp only[q8c,Tree.go,jy,X.says,X.ev,X.evs,evl,qb,gnA,true_and];by_cases h:0≤i∧i<s.ys.length
 ·have h1:¬i<0:=by omega
  have h2:¬(s.ys.length:Int)≤i:=by omega
  simp[z2j h,z9h,arS,h,h1,h2]
 ·simp[arS,h]
theorem qfs:FOk jc (qa3 arS):=qqc fun ds outs hw hg=>by
 obtain⟨d,r,rfl,hd,e,r',rfl,he,rfl⟩:=hw;obtain⟨s,rfl,hs⟩:=wfS hd;obtain⟨i,rfl,hi⟩:=wfI he;simp only[qa3,zr,yw,uB] at hg;subst hg;simp only[q7o,Tree.go,jy,X.says,X.ev,X.evs,evl,qb,gnA,true_and];by_cases h:0≤i∧i<s.ys.length
 ·have h1:¬i<0:=by omega
  have h2:¬(s.ys.length:Int)≤i:=by omega
  simp[z2j h,z9h,arS,h,h1,h2]
 ·simp[arS,h]
theorem q2i:FOk qo (qcu vcR):=qhr q3p q6j qga fun ds outs hw hg=>by
 obtain⟨d,r,rfl,hd,e,r',rfl,he,rfl⟩:=hw;obtain⟨s,rfl,hs⟩:=wfS hd;obtain⟨c,rfl,hc⟩:=wfC he;simp only[qcu,zr,q0t,uB] at hg;subst hg;simp only[q49,Tree.go,jy,X.says,X.ev,X.evs,evl,qb,gnA,qcv,qa3,vcR,true_and];by_cases h0:c.t=0
 ·simp[h0]
 ·by_cases h1:c.t=1
  ·simp[h1]
  ·by_cases h2:c.t=2
   ·simp[h2]
   ·by_cases h3:c.t=3
    ·simp[h3]
    ·by_cases h5:c.t=5
     ·simp[h5]
     ·simp[h0,h1,h2,h3,h5]
theorem jm:FOk qh (qcu vcP):=qhd qfs qac fun ds outs hw hg=>by
 obtain⟨d,r,rfl,hd,e,r',rfl,he,rfl⟩:=hw;obtain⟨s,rfl,hs⟩:=wfS hd;obtain⟨c,rfl,hc⟩:=wfC he;simp only[qcu,zr,q0t,uB] at hg;subst hg;simp only[q4d,Tree.go,jy,X.says,X.ev,X.evs,evl,qb,gnA,qa3,vcP,true_and];by_cases h0:c.t=0
 ·simp[h0]
 ·by_cases h1:c.t=1
  ·simp[h1]
  ·by_cases h2:c.t=2
   ·simp[h2]
   ·by_cases h3:c.t=3
    ·simp[h3]
    ·by_cases h5:c.t=5
     ·simp[h5]
     ·simp[h0,h1,h2,h3,h5]
theorem tag_in{s:So}(h:q3f s i=1):inS s i=true:=by
 cases hi:inS s i with
 |true=>rfl
 |false=>rw[q70 hi] at h;cases h
theorem qg0:FOk jl (qg5 inS qjh):=qq6 q6j fun ds outs hw hg=>by
 obtain⟨d,r,rfl,hd,e,r',rfl,he,rfl⟩:=hw;obtain⟨s,rfl,hs⟩:=wfS hd;obtain⟨i,rfl,hi⟩:=wfI he;simp only[qg5,zr,yw,uC,uB] at hg;obtain⟨hin,rfl⟩:=hg;have h1:=qs.1 hin;have hl:=hs.cs.1;have r1:i64 (i+1):=⟨by omega,by omega⟩;have r2:i64 (i+2):=⟨by omega,by omega⟩;simp only[q7z,Tree.go,jy,X.says,X.ev,X.evs,evl,qb,gnA,qa3,true_and,qjh,r1,r2];by_cases ht:q3f s (i+1)=1
 ·have h2:=tag_in ht;have h3:=qs.1 h2;simp[ht,zs h2,qxf,h3.1,h3.2,yw,uI,q6w,r1.1,r1.2]
 ·simp[ht]
theorem qjj{k k' v:D}:∀{l:List D},mfind k (mset k' v l)=if k'=k then some v else mfind k l
 |[]=>by simp[mset,mfind,D.fld,D.fs]
 | p :: l => by
  unfold mset;split
  ·rename_i h;by_cases hk:k'=k
   ·simp[mfind,D.fld,D.fs,hk]
   ·have:¬(p.fld 0=k):=fun e=>hk (h.symm.trans e);simp[mfind,D.fld,D.fs,hk,this];intro e;exact absurd e this
  ·rename_i h;unfold mfind;by_cases hk:p.fld 0=k
   ·have:¬(k'=k):=fun e=>h (hk.trans e.symm);simp[hk,this]
   ·simp only[if_neg hk];exact qjj
def okY(y:Sy):Bool:=decide (y.name.size≤100)&&(decide (0≤y.ar)&&decide (y.ar≤8))
def qeb(l:List Sy)(k:Nat):Bool:=okY (l.getD k default)&& !decide (l.getD k default∈l.take k)
def q95(l:List Sy):Bool:=decide (l.length≤1048576)&&(uH l.length).all (qeb l)
def zjp(f:List Sy→Bool):List D→Option (List D)
 |[l]=>some [.b (f (l.rs.map dY))]
 |_=>none
def qto(x:D)(l:List Sy)(k:Nat)(L:List D):Prop:=∀y,mfind (eY y) L=if y∈l.take k then some x else none
variable{x:D}
theorem qto.nil{l:List Sy}:qto x l 0 []:=fun y=>by simp[mfind]
theorem qto.put{l:List Sy}{k:Nat}{L:List D}(h:qto x l k L)(hk:k<l.length):qto x l (k+1) (mset (eY (l.getD k default)) x L):=fun y=>by
 rw[qjj,q7x hk,h y];generalize l.getD k default=z;by_cases hy:y=z
 ·subst hy;simp
 ·have:¬(z=y):=fun e=>hy e.symm;simp[qzi,this,hy]
theorem qnr:FOk jr (zjp q95):=qkt fun ds outs hw hg=>by
 obtain⟨d,r,rfl,hd,rfl⟩:=hw;obtain⟨l,rfl,hl,hok⟩:=zvg hd;simp only[zjp,qa8,map_id' qt4,uB] at hg;subst hg;simp only[q5u,Tree.go,jy,X.says,X.ev,X.evs,evl,qb,gnA,q95];refine⟨fun h=>?_,fun h=>?_⟩
 ·have:¬(l.length≤1048576):=by omega
  simp[this]
 ·have h0:l.length≤1048576:=by omega
  refine⟨fun st=>∃(k:Nat)(L:List D),k≤l.length∧st=[.b false,.i k,.mp L]∧(∀j,j<k→qeb l j=true)∧qto (.i 1) l k L,fun st=>l.length - (st.getD 1 .u).int.toNat,⟨0,[],uG _,rfl,(fun j hj=>absurd hj (uP _)),qto.nil⟩,?_⟩;rintro st - ⟨k,L,hk,rfl,hP,hL⟩;simp only[Tree.go,jy,X.says,X.ev,X.evs,evl,qb,gnA];refine⟨fun hlt=>?_,fun hlt=>?_⟩
  ·have hkl:k<l.length:=by omega
   have hp:(0:Int)≤k:=by omega
   simp only[hlt,hp,q31 eY hkl,zec,z9h,q5f,yw,true_and,kA,decide_true,and_true,Int.toNat_natCast,fnD,zbo,hL (l.getD k default)];have hr:i64 ((k:Int)+1):=⟨by omega,by omega⟩;have e:(if l.getD k default∈l.take k then some (D.i 1) else none).getD (.i 0)=.i (if l.getD k default∈l.take k then 1 else 0):=by split<;>rfl
   rw[e];refine⟨fun hb=>?_,fun hb=>⟨hr,?_⟩⟩
   ·have:qeb l k=false:=by
     simp only[qeb,okY];generalize l.getD k default=z at hb⊢;by_cases hm:z∈l.take k
     ·simp[hm]
     ·simp[hm] at hb⊢;intro h1 h2;omega
    rw[qaa hkl this];simp
   ·have hs:qeb l k=true:=by
     simp only[qeb,okY];generalize l.getD k default=z at hb⊢;by_cases hm:z∈l.take k
     ·simp[hm] at hb
     ·simp[hm] at hb⊢;omega
    rw[jg,if_pos rfl];refine⟨⟨k+1,_,hkl,?_,q2v hP hs,hL.put hkl⟩,?_⟩
    ·simp
    ·simp[D.int];omega
  ·have:k=l.length:=by omega
   subst this;rw[q8m hP];simp[h0]
theorem z5e{s:So}(h:q95 s.ys=true)(n:Int): -1≤arS s n∧arS s n≤8:=by
 unfold arS;split
 ·rename_i hn;simp only[q95,gnB] at h;have:=qur h.2 (k:=n.toNat) (by omega);simp only[qeb,okY,gnB,gnD] at this;omega
 ·omega
def q3g(s:So):Nat→Int→Bool
 |0,_=>false
 |k+1,n=>if q3f s n=0∧¬(cellAt s n).n=n then q3g s k (cellAt s n).n else true
def qot(s:So)(n:Int):Bool:=q3g s (s.cs.length+1) n
theorem qdb{s:So}{t:Int}(ht:t≠-1)(h:q3f s i=t):inS s i=true:=by
 cases hi:inS s i with
 |true=>rfl
 |false=>rw[q70 hi] at h;exact absurd h.symm ht
theorem qyr:FOk q28 (qcv qot):=qtd q6j fun ds outs hw hg=>by
 obtain⟨d,r,rfl,hd,e,r',rfl,he,rfl⟩:=hw;obtain⟨s,rfl,hs⟩:=wfS hd;obtain⟨i,rfl,hi⟩:=wfI he;simp only[qcv,zr,yw,uB] at hg;subst hg;have hl:=hs.cs.1;simp only[q9d,Tree.go,jy,X.says,X.ev,X.evs,evl,qb,gnA,qa3];refine⟨fun st=>∃(k:Nat)(m:Int),k≤s.cs.length+1∧st=[.b false,.i m,.i k]∧q3g s (s.cs.length+1 - k) m=qot s i,fun st=>s.cs.length+1 - (st.getD 2 .u).int.toNat,⟨0,i,uG _,rfl,rfl⟩,?_⟩;rintro st - ⟨k,m,hk,rfl,hP⟩;simp only[Tree.go,jy,X.says,X.ev,X.evs,evl,qb,gnA,qa3];refine⟨fun hlt=>?_,fun hlt=>?_⟩
 ·have hkl:k≤s.cs.length:=by omega
  have hr:i64 ((k:Int)+1):=⟨by omega,by omega⟩;obtain⟨n,hn⟩:∃n,s.cs.length+1 - k=n+1:=⟨s.cs.length - k,by omega⟩;rw[hn] at hP;unfold q3g at hP;have hn2:s.cs.length+1 - (k+1)=n:=by omega
  by_cases ht:q3f s m=0
  ·have hin:=qdb (by decide) ht;have h3:=qs.1 hin;simp only[ht,zs hin,qxf,h3.1,h3.2,yw,q6r,hr] at hP⊢;refine⟨by simp,fun hx=>?_,fun hx=>?_⟩
   ·have:(cellAt s m).n=m:=by simpa using hx
    rw[if_neg (by simp[this])] at hP;simp[←hP]
   ·have hx':¬(cellAt s m).n=m:=by simpa using hx
    rw[if_pos ⟨trivial,hx'⟩] at hP;refine⟨⟨trivial,trivial⟩,⟨trivial,trivial⟩,?_⟩;rw[jg,if_pos rfl];refine⟨⟨k+1,(cellAt s m).n,by omega,by simp,by rw[hn2];exact hP⟩,?_⟩;simp[D.int];omega
  ·rw[if_neg (by simp[ht])] at hP;simp[ht,←hP]
 ·have:k=s.cs.length+1:=by omega
  subst this;rw[kB] at hP;simp[←hP,q3g]
def q7m(s:So)(i:Int):Bool:=
 if(cellAt s i).t=4 then decide (1≤arS s (cellAt s i).n)&&(inS s (i+arS s (cellAt s i).n)&&(uH (arS s (cellAt s i).n).toNat).all fun j=> !decide (q3f s (i+((j:Int)+1))=4))
 else vcR s (cellAt s i)&&(qot s i&&(!decide ((cellAt s i).t=5)||(decide ((cellAt s i).n=i)&&qjh s i)))
def z5d(s:So)(i:Int):Bool:=inS s i&&q95 s.ys
theorem qx6:FOk q1a (qg5 z5d q7m):=qtr qga q3p q6j q2i qyr qg0 fun ds outs hw hg=>by
 obtain⟨d,r,rfl,hd,e,r',rfl,he,rfl⟩:=hw;obtain⟨s,rfl,hs⟩:=wfS hd;obtain⟨i,rfl,hi⟩:=wfI he;simp only[qg5,zr,yw,uC,uB,z5d,gnB] at hg;obtain⟨⟨hin,hy⟩,rfl⟩:=hg;have h1:=qs.1 hin;have hl:=hs.cs.1;obtain⟨ha,hb⟩:=z5e hy (cellAt s i).n;simp only[q9c,Tree.go,jy,X.says,X.ev,X.evs,evl,qb,gnA,qa3,qcv,qcu,qg5,zs hin,h1.1,h1.2,hin,if_true];unfold q7m;generalize arS s (cellAt s i).n=K at ha hb⊢;refine⟨fun h4=>?_,fun h4=>?_⟩
 ·have hr:i64 (i+K):=⟨by omega,by omega⟩;simp only[h4,hr,if_true];refine⟨by simp[q6w,hr.1,hr.2],fun hx=>?_,fun hx=>?_⟩
  ·have hx':K<1∨inS s (i+K)=false:=by simpa using hx
   rcases hx' with hx|hx
   ·have:¬(1≤K):=by omega
    simp[this]
   ·simp[hx]
  ·have hx':1≤K∧inS s (i+K)=true:=by simpa using hx
   obtain⟨hk,hin2⟩:=hx';simp only[hk,hin2];refine⟨fun st=>∃(j:Nat),(j:Int)≤K∧st=[.b false,.i ((j:Int)+1)]∧∀m:Nat,m<j→(!decide (q3f s (i+((m:Int)+1))=4))=true,fun st=>K.toNat+1 - (st.getD 1 .u).int.toNat,⟨0,by omega,by simp,fun m hm=>absurd hm (uP _)⟩,?_⟩;rintro st - ⟨j,hj,rfl,hP⟩;simp only[Tree.go,jy,X.says,X.ev,X.evs,evl,qb,gnA,qa3];refine⟨fun hlt=>?_,fun hlt=>?_⟩
   ·have hr2:i64 (i+((j:Int)+1)):=⟨by omega,by omega⟩;have hr3:i64 (((j:Int)+1)+1):=⟨by omega,by omega⟩;refine⟨hr2,fun hx=>?_,fun hx=>⟨hr3,?_⟩⟩
    ·rw[qaa (k:=j) (by omega) (by simp[hx])];simp
    ·rw[jg,if_pos rfl];refine⟨⟨j+1,by omega,by simp,q2v hP (by simp[hx])⟩,?_⟩;simp[D.int];omega
   ·have:j=K.toNat:=by omega
    subst this;rw[q8m hP];simp
 ·simp only[h4,if_false];refine⟨fun hx=>?_,fun hx=>?_⟩
  ·have hx':vcR s (cellAt s i)=false∨qot s i=false:=by simpa using hx
   rcases hx' with hx|hx<;>simp[hx]
  ·have hx':vcR s (cellAt s i)=true∧qot s i=true:=by simpa using hx
   simp[hx'.1,hx'.2]
def zrt(vc:So→Ce→Bool)(rg:So→Int→Bool)(s:So)(u:Un):Bool:=
 rg s u.at'&&if u.old.t=0 then decide (u.old.n=u.at') else if u.old.t=5 then decide (u.old.n=u.at')&&(qjh s u.at'&& !decide (q3f s (u.at' - 1)=5)) else if u.old.t=1∨u.old.t=2∨u.old.t=3 then vc s u.old else false
def qws:So→Un→Bool:=zrt vcR inS
theorem z45:FOk q1v (zld qws):=qyy q3p qg0 q6j q2i fun ds outs hw hg=>by
 obtain⟨d,r,rfl,hd,e,r',rfl,he,rfl⟩:=hw;obtain⟨s,rfl,hs⟩:=wfS hd;obtain⟨u,rfl,hu⟩:=wfU he;simp only[zld,zr,z04,uB] at hg;subst hg;have hl:=hs.cs.1;simp only[qbf,Tree.go,jy,X.says,X.ev,X.evs,evl,qb,gnA,qa3,qcv,qcu,qg5,qws,zrt];cases hin:inS s u.at' with
 |false=>simp
 | true =>
  have h1:=qs.1 hin;have hr:i64 (u.at' - 1):=⟨by omega,by omega⟩;simp only[hr,if_true];by_cases h0:u.old.t=0
  ·simp[h0]
  ·by_cases h5:u.old.t=5
   ·simp[h5,uI,q6x,q6w,hr.1,hr.2]
   ·by_cases h2:u.old.t=1
    ·simp[h2]
    ·by_cases h3:u.old.t=2
     ·simp[h3]
     ·by_cases h4:u.old.t=3
      ·simp[h4]
      ·simp[h0,h5,h2,h3,h4]
section
section
variable{s:So}
def Ns(s:So)(n:Int):Prop:=q3f s n=0∧¬(cellAt s n).n=n
abbrev nx(s:So)(n:Int):Int:=(cellAt s n).n
theorem q5d{k:Nat}{n:Int}(h:Ns s n):q3g s (k+1) n=q3g s k (nx s n):=if_pos h
theorem q8o{k:Nat}{n:Int}(h:¬Ns s n):q3g s (k+1) n=true:=if_neg h
theorem Ns.inS{n:Int}(h:Ns s n):inS s n=true:=qdb (by decide) h.1
theorem zgw{k:Nat}:∀{n:Int},q3g s k n=true→q3g s (k+1) n=true:=by
 induction k with
 |zero=>intro n h;cases h
 | succ k ih =>
  intro n h;by_cases hn:Ns s n
  ·rw[q5d hn] at h⊢;exact ih h
  ·exact q8o hn
theorem qgi{k j:Nat}(hk:k≤j){n:Int}(h:q3g s k n=true):q3g s j n=true:=by
 obtain⟨d,rfl⟩:=Nat.exists_eq_add_of_le hk;clear hk
 induction d with
 |zero=>exact h
 |succ d ih=>exact zgw ih
def En(s:So)(n:Int):Prop:=∃k,q3g s k n=true
theorem En.st{n:Int}(h:¬Ns s n):En s n:=⟨1,q8o h⟩
theorem qsl:∀(n:Nat)(l:List Nat),l.Nodup→(∀x∈l,x<n)→l.length≤n
 |0,[],_,_=>uU _
 |0,x::l,_,h=>absurd (h x kI) (uP _)
 | n + 1, l, hn, h => by
  have h1:=qsl n (l.erase n) (hn.erase n) fun x hx=>by
   have h2:=(hn.mem_erase_iff).1 hx;have:=h x h2.2;have:=h2.1;omega
  have h2:=List.length_erase (a:=n) (l:=l);split at h2<;>omega
theorem z0w:∀(k:Nat)(n:Int),q3g s (k+1) n=true→q3g s k n=false→∃l:List Int,l.length=k∧l.Nodup∧(∀x∈l,inS s x=true)∧∀x∈l,∃j,j≤k∧q3g s (j+1) x=true
 |0,n,_,_=>⟨[],rfl,List.nodup_nil,(fun x hx=>by cases hx),fun x hx=>by cases hx⟩
 | k + 1, n, h1, h2 => by
  have hn:Ns s n:=Classical.byContradiction fun hn=>by rw[q8o hn] at h2;cases h2
  rw[q5d hn] at h1 h2;obtain⟨l,e1,e2,e3,e4⟩:=z0w k _ h1 h2;refine⟨n::l,by simp[e1],?_,fun x hx=>?_,fun x hx=>?_⟩
  ·refine kJ.2 ⟨fun hm=>?_,e2⟩;obtain⟨j,hj,he⟩:=e4 n hm;rw[q5d hn] at he;rw[qgi hj he] at h2;cases h2
  ·rcases uL.1 hx with rfl|hx
   ·exact hn.inS
   ·exact e3 x hx
  ·rcases uL.1 hx with rfl|hx
   ·exact⟨k+1,uU _,by rw[q5d hn];exact h1⟩
   ·obtain⟨j,hj,he⟩:=e4 x hx;exact⟨j,by omega,he⟩
theorem En.ends{n:Int}(h:En s n):qot s n=true:=by
 obtain⟨k,hk⟩:=h
 induction k with
 |zero=>cases hk
 | succ k ih =>
  cases hk':q3g s k n with
  |true=>exact ih hk'
  | false =>
   obtain⟨l,e1,e2,e3,-⟩:=z0w k n hk hk';have h1:=qsl s.cs.length (l.map Int.toNat) ?_ ?_
   ·rw[uF,e1] at h1;exact qgi (by omega) hk
   ·refine uW.map _ (fun a b h=>h) ?_;refine uW.imp_of_mem (R:=fun a b=>a≠b) (fun{a b}ha hb hab e=>hab ?_) e2;have h1:=qs.1 (e3 a ha);have h2:=qs.1 (e3 b hb);omega
   ·intro x hx;obtain⟨a,ha,rfl⟩:=kS.1 hx;have h1:=qs.1 (e3 a ha);omega
end
end
instance{s:So}{n:Int}:Decidable (Ns s n):=inferInstanceAs (Decidable (_∧_))
theorem qc0{id n:Nat}{x0:X}{l:List D}{v0:D}(N:Nat)(P:Nat→Bool)(h0:x0.ev (evl S l)=v0)
  (h:∀(k:Nat)(B':Nat→List D→Prop),k≤N→(∀j,j<k→P j=true)→(k<N→P k=true→B' id [v0,.i ((k:Int)+1)])→(∀j,j≠id→B' j=B j)→body.go S R (l.take n++[v0,.i k]) B'):(Tree.loop id n [x0,.lit (.i 0)] body).go S R l B:=by
 rw[zz];refine⟨fun st=>∃k:Nat,k≤N∧st=[v0,.i k]∧∀j,j<k→P j=true,fun st=>N - (st.getD 1 .u).int.toNat,⟨0,uG _,by simp[X.evs,X.ev,h0],fun j hj=>absurd hj (uP _)⟩,?_⟩;rintro st - ⟨k,hk,rfl,hP⟩;refine h k _ hk hP (fun hlt hp=>?_) fun j hj=>by rw[jg,if_neg hj]
 rw[jg,if_pos rfl];refine⟨⟨k+1,hlt,by simp,q2v hP hp⟩,?_⟩;simp[D.int];omega
def wkB(vc:So→Ce→Bool)(s:So)(w:Wk):Bool:=decide (1≤w.ser)&&(decide (w.ser≤s.ser)&&(vc s w.att&&vc s w.val))
def qg2(s:So):Bool:=decide (1≤s.mx)&&(decide (s.mx≤1048576)&&(decide ((s.cs.length:Int)≤s.mx)&&(decide (0≤s.ser)&&q95 s.ys)))
def zi(s:So):Bool:=qg2 s&&((uH s.cs.length).all (fun i=>q7m s (i:Nat))&&((uH s.tr.length).all (fun i=>qws s (s.tr.getD i default))&&(uH s.wk.length).all fun i=>wkB vcR s (s.wk.getD i default)))
theorem zq7{s:So}{n:Int}(h:0≤q3f s n):inS s n=true:=by
 cases hi:inS s n with
 |true=>rfl
 |false=>rw[q70 hi] at h;omega
theorem quu:FOk q1m (gSb zi):=qpt qnr qx6 z45 q2i fun ds outs hw hg=>by
 obtain⟨d,r,rfl,hd,rfl⟩:=hw;obtain⟨s,rfl,hs⟩:=wfS hd;simp only[gSb,zr,uB] at hg;subst hg;have hl:=hs.cs.1;have hl2:=hs.tr.1;have hl3:=hs.wk.1;have hsy:zjp q95 [D.r (s.ys.map eY)]=some [.b (q95 s.ys)]:=by simp[zjp,qa8,map_id' qt4]
 rw[q7u,qp];refine⟨by simp only[gnZ,hsy],?_⟩;rw[zw];have hcond:(X.ev (evl (qb [(jr,zjp q95),(q1a,qg5 z5d q7m),(q1v,zld qws),(qo,qcu vcR)]) [eS s]) (.or (.or (.or (.or (.lt (.fld (.tok 0) 5) (.lit (.i 1))) (.lt (.lit (.i 1048576)) (.fld (.tok 0) 5))) (.lt (.fld (.tok 0) 5) (.len (.fld (.tok 0) 0)))) (.lt (.fld (.tok 0) 4) (.lit (.i 0)))) (.not (.call 0 0 [(.fld (.tok 0) 1)])))).tt= !qg2 s:=by
  simp only[gnZ,hsy,qg2];by_cases h1:s.mx<1
  ·have:¬1≤s.mx:=by omega
   simp[h1,this]
  ·by_cases h2:1048576<s.mx
   ·have:¬s.mx≤1048576:=by omega
    simp[h2,this]
   ·by_cases h3:s.mx<s.cs.length
    ·have:¬(s.cs.length:Int)≤s.mx:=by omega
     simp[h3,this]
    ·by_cases h4:s.ser<0
     ·have:¬0≤s.ser:=by omega
      simp[h4,this]
     ·have a1:1≤s.mx:=by omega
      have a2:s.mx≤1048576:=by omega
      have a3:(s.cs.length:Int)≤s.mx:=by omega
      have a4:0≤s.ser:=by omega
      simp[h1,h2,h3,h4,a1,a2,a3,a4]
 refine⟨fun hx=>?_,fun hx=>?_⟩
 ·have hh:qg2 s=false:=by
   have:=hcond.symm.trans hx;simpa using this
  simp[q40,X.evs,X.ev,zi,hh]
 have hh:qg2 s=true:=by
  have:=hcond.symm.trans hx;simpa using this
 have hsy2:q95 s.ys=true:=by
  simp only[qg2,gnB] at hh;exact hh.2.2.2.2
 refine qc0 s.cs.length (fun i=>q7m s (i:Nat)) (v0:=.b false) rfl fun k B' hk hP hB _=>?_;rw[zw];refine⟨fun hlt=>?_,fun hlt=>?_⟩
 ·have hkl:k<s.cs.length:=by simpa[X.ev,evl,qev,D.int,D.rs,D.tt] using hlt
  have hin:inS s (k:Nat)=true:=qs.2 ⟨by omega,by omega⟩;have hQ:z5d s (k:Nat)=true:=by simp[z5d,hin,hsy2]
  simp only[gnZ,qg5,hQ,if_true];refine⟨fun hb=>?_,fun hb=>⟨⟨by omega,by omega⟩,?_⟩⟩
  ·have:q7m s (k:Nat)=false:=by simpa using hb
   have:=qaa (P:=fun i=>q7m s (i:Nat)) hkl this;simp[zi,this]
  ·exact hB hkl (by simpa using hb)
 have hc:(uH s.cs.length).all (fun i=>q7m s (i:Nat))=true:=by
  have:k=s.cs.length:=by
   have:¬(k<s.cs.length):=by simpa[X.ev,evl,qev,D.int,D.rs,D.tt] using hlt
   omega
  subst this;exact q8m hP
 refine qc0 s.tr.length (fun i=>qws s (s.tr.getD i default)) (v0:=.b false) rfl fun k B' hk hP hB _=>?_;rw[zw];refine⟨fun hlt=>?_,fun hlt=>?_⟩
 ·have hkl:k<s.tr.length:=by simpa[X.ev,evl,z2r,D.int,D.rs,D.tt] using hlt
  simp only[gnZ,zld,q31 eU hkl];refine⟨⟨by omega,by omega⟩,fun hb=>?_,fun hb=>⟨⟨by omega,by omega⟩,?_⟩⟩
  ·have:qws s (s.tr.getD k default)=false:=by simpa only[uO] using hb
   have:=qaa (P:=fun i=>qws s (s.tr.getD i default)) hkl this;simp only[zi,this,Bool.false_and,kP]
  ·exact hB hkl (by simpa only[uK] using hb)
 have hc2:(uH s.tr.length).all (fun i=>qws s (s.tr.getD i default))=true:=by
  have:k=s.tr.length:=by
   have:¬(k<s.tr.length):=by simpa[X.ev,evl,z2r,D.int,D.rs,D.tt] using hlt
   omega
  subst this;exact q8m hP
 refine qc0 s.wk.length (fun i=>wkB vcR s (s.wk.getD i default)) (v0:=.b false) rfl fun k B' hk hP hB _=>?_;rw[zw];refine⟨fun hlt=>?_,fun hlt=>?_⟩
 ·have hkl:k<s.wk.length:=by simpa[X.ev,evl,qyh,D.int,D.rs,D.tt] using hlt
  simp only[gnZ,qcu,q31 eW hkl];have hw:((decide ((s.wk.getD k default).ser<1)||decide (s.ser<(s.wk.getD k default).ser)|| !vcR s (s.wk.getD k default).att|| !vcR s (s.wk.getD k default).val))= !wkB vcR s (s.wk.getD k default):=by
   generalize s.wk.getD k default=w;simp only[wkB];by_cases h1:w.ser<1
   ·have:¬1≤w.ser:=by omega
    simp[h1,this]
   ·by_cases h2:s.ser<w.ser
    ·have:¬w.ser≤s.ser:=by omega
     simp[h2,this]
    ·have a1:1≤w.ser:=by omega
     have a2:w.ser≤s.ser:=by omega
     simp[h1,h2,a1,a2]
  refine⟨⟨by omega,by omega⟩,fun hb=>?_,fun hb=>⟨⟨by omega,by omega⟩,?_⟩⟩
  ·rw[hw] at hb;have:=qaa (P:=fun i=>wkB vcR s (s.wk.getD i default)) hkl (by simpa only[uO] using hb);simp only[zi,this,kP]
  ·rw[hw] at hb;exact hB hkl (by simpa only[uK] using hb)
 have hc3:(uH s.wk.length).all (fun i=>wkB vcR s (s.wk.getD i default))=true:=by
  have:k=s.wk.length:=by
   have:¬(k<s.wk.length):=by simpa[X.ev,evl,qyh,D.int,D.rs,D.tt] using hlt
   omega
  subst this;exact q8m hP
 simp only[q40,X.evs,X.ev,zi,hh,hc,hc2,hc3,Bool.and_true]
theorem qk6{l m:List D}(hl:l.length=m.length)(h:∀j,j<l.length→l.getD j .u=m.getD j .u):l=m:=by
 refine List.ext_getElem hl fun j h1 h2=>?_;have:=h j h1;simpa[gnG,h1,h2] using this
theorem z7z(l:List D)(k:Nat):(D.r l).get (k:Int)=l.getD k .u:=rfl
def eqT:Tree:=(.br (.not (.eq (.len (.tok 0)) (.len (.tok 1)))) (.leaf [(.lit (.b .false))]) (.loop 4 2 [(.lit (.b .false)),(.lit (.i 0))] (.br (.lt (.tok 3) (.len (.tok 0))) (.need [(.le (.lit (.i 0)) (.tok 3)),(.lt (.tok 3) (.len (.tok 1))),(.le (.lit (.i 0)) (.tok 3)),(.lt (.tok 3) (.len (.tok 0)))] (.br (.not (.eq (.get (.tok 0) (.tok 3)) (.get (.tok 1) (.tok 3)))) (.leaf [(.lit (.b .false))]) (.need [(.rng .i64 (.add (.tok 3) (.lit (.i 1))))] (.back 4 [(.tok 2),(.add (.tok 3) (.lit (.i 1)))])))) (.leaf [(.lit (.b .true))]))))
theorem zw3{l m:List D}(hl:l.length≤LIM)(hR:R [.b (decide (l=m))]):eqT.go S R [.r l,.r m] B:=by
 simp only[LIM] at hl;rw[eqT,zw];refine⟨fun hx=>?_,fun hx=>?_⟩
 ·have:¬l=m:=fun e=>by subst e;simp[X.ev,evl,D.rs,D.tt] at hx
  rw[decide_eq_false this] at hR;exact hR
 have hlen:l.length=m.length:=by
  simp[X.ev,evl,D.rs,D.tt] at hx;omega
 refine qc0 l.length (fun j=>decide (l.getD j .u=m.getD j .u)) (v0:=.b false) rfl fun k B' hk hP hB _=>?_;rw[zw];refine⟨fun hlt=>?_,fun hlt=>?_⟩
 ·have hkl:k<l.length:=by simpa[X.ev,evl,D.int,D.rs,D.tt] using hlt
  simp only[gnZ,z7z];refine⟨⟨by omega,by omega,by omega,by omega⟩,fun hb=>?_,fun hb=>⟨⟨by omega,by omega⟩,?_⟩⟩
  ·have:¬l=m:=fun e=>by subst e;simp at hb
   rw[decide_eq_false this] at hR;exact hR
  ·exact hB hkl (by simpa using hb)
 ·have:k=l.length:=by
   have:¬(k<l.length):=by simpa[X.ev,evl,D.int,D.rs,D.tt] using hlt
   omega
  subst this;have:l=m:=qk6 hlen fun j hj=>by simpa using hP j hj
  rw[decide_eq_true this] at hR;exact hR
def gEq:List D→Option (List D)
 |[a,b]=>some [.b (decide (a=b))]
 |_=>none
def zik(n:Nat)(d:D):Bool:=decide (d.rs.length≤n)
theorem za0(n:Nat)(l:List D):(zik n (.r l)=true)=(l.length≤n):=by simp only[zik,gnD];rfl
def gCl(n:Nat):List D→Option (List D)
 |[a]=>if zik n a then some [a] else none
 |_=>none
def clT(n:Nat):Tree:=(.amb (.tok 0) .false (.leaf [(.lit (.r []))]) (.need [(.le (.add (.lit (.i 0)) (.len (.tok 0))) (.lit (.i (n:Nat))))] (.leaf [(.app (.row []) (.tok 0))])))
theorem zhq{l:List D}{n:Nat}(hl:l.length≤n)(hR:R [.r l]):(clT n).go S R [.r l] B:=by
 refine⟨fun h=>?_,fun _=>?_⟩
 ·have:l=[]:=h rfl;subst this;exact hR
 ·rw[qp];refine⟨by simp only[gnZ];omega,?_⟩;simpa[q40,X.evs,X.ev,evl,D.rs] using hR
theorem q90:FOk yv (gCl 3518437208780):=qez fun ds outs hw hg=>by
 obtain⟨d,r,rfl,hd,rfl⟩:=hw;obtain⟨l,te,rfl,-⟩:=hd.row;simp only[gCl,za0,uC,uB] at hg;obtain⟨h1,rfl⟩:=hg;exact zhq h1 rfl
def clQ(s:So):Bool:=decide (s.cs.length≤8796093021952)&&(decide (s.ys.length≤5864062014634)&&(decide (s.tr.length≤5864062014634)&&decide (s.wk.length≤3518437208780)))
def qfw:List D→Option (List D)
 |[s]=>if clQ (dS s) then some [eS (dS s)] else none
 |_=>none
theorem z8n{s:So}(hs:s.ok):clQ s=true:=by
 simp only[clQ,gnB,gnD];exact⟨hs.cs.1,hs.ys.1,hs.tr.1,hs.wk.1⟩
theorem qbc:FOk yt qfw:=qpq fun ds outs hw hg=>by
 obtain⟨d,r,rfl,hd,rfl⟩:=hw;obtain⟨s,rfl,hs⟩:=wfS hd;simp only[qfw,zr,uC,uB] at hg;obtain⟨hq,rfl⟩:=hg;simp only[clQ,gnB,gnD] at hq;simp only[q7n,gnZ,eS,D.fs,D.fld];simp;omega
def zb6:List D→Option (List D)
 |[a,b]=>some [.b (decide (a=b))]
 |_=>none
theorem qxi:FOk q2a zb6:=qv7 fun ds outs hw hg=>by
 obtain⟨d,r,rfl,hd,e,r',rfl,he,rfl⟩:=hw;obtain⟨s,rfl,hs⟩:=wfS hd;obtain⟨t,rfl,ht⟩:=wfS he;simp only[zb6,uB] at hg;subst hg;have hl:=hs.cs.1;have hl1:=hs.ys.1;have hl2:=hs.tr.1;have hl3:=hs.wk.1;have e0:decide (eS s=eS t)=decide (s=t):=by simp[zhp]
 rw[e0];have no:¬s=t→[D.b false]=[D.b (decide (s=t))]:=fun h=>by rw[decide_eq_false h]
 rw[q9t,zw];refine⟨fun hx=>?_,fun hx=>?_⟩
 ·refine no fun e=>?_;subst e;simp[X.ev,evl,D.tt] at hx
 simp only[gnZ] at hx;have hx':s.cs.length=t.cs.length∧s.ys.length=t.ys.length∧s.tr.length=t.tr.length∧s.wk.length=t.wk.length∧s.ser=t.ser∧s.mx=t.mx:=by
  simp at hx;omega
 obtain⟨q1,q2,q3,q4,q5,q6⟩:=hx';refine qc0 s.cs.length (fun j=>decide ((s.cs.map eC).getD j .u=(t.cs.map eC).getD j .u)) (v0:=.b false) rfl fun k B' hk hP hB _=>?_;rw[zw];refine⟨fun hlt=>?_,fun hlt=>?_⟩
 ·have hkl:k<s.cs.length:=by simpa[X.ev,evl,qev,D.int,D.rs,D.tt] using hlt
  simp only[gnZ,z7z];refine⟨⟨by omega,by omega,by omega,by omega⟩,fun hb=>?_,fun hb=>⟨⟨by omega,by omega⟩,?_⟩⟩
  ·refine no fun e=>?_;subst e;simp at hb
  ·exact hB hkl (by simpa only[uK] using hb)
 have hc0:∀j,j<(s.cs.map eC).length→(s.cs.map eC).getD j .u=(t.cs.map eC).getD j .u:=by
  have:k=s.cs.length:=by
   have:¬(k<s.cs.length):=by simpa[X.ev,evl,qev,D.int,D.rs,D.tt] using hlt
   omega
  subst this;exact fun j hj=>by simpa only[gnD] using hP j (by simpa using hj)
 refine qc0 s.ys.length (fun j=>decide ((s.ys.map eY).getD j .u=(t.ys.map eY).getD j .u)) (v0:=.b false) rfl fun k B' hk hP hB _=>?_;rw[zw];refine⟨fun hlt=>?_,fun hlt=>?_⟩
 ·have hkl:k<s.ys.length:=by simpa[X.ev,evl,za7,D.int,D.rs,D.tt] using hlt
  simp only[gnZ,z7z];refine⟨⟨by omega,by omega,by omega,by omega⟩,fun hb=>?_,fun hb=>⟨⟨by omega,by omega⟩,?_⟩⟩
  ·refine no fun e=>?_;subst e;simp at hb
  ·exact hB hkl (by simpa only[uK] using hb)
 have hc1:∀j,j<(s.ys.map eY).length→(s.ys.map eY).getD j .u=(t.ys.map eY).getD j .u:=by
  have:k=s.ys.length:=by
   have:¬(k<s.ys.length):=by simpa[X.ev,evl,za7,D.int,D.rs,D.tt] using hlt
   omega
  subst this;exact fun j hj=>by simpa only[gnD] using hP j (by simpa using hj)
 refine qc0 s.tr.length (fun j=>decide ((s.tr.map eU).getD j .u=(t.tr.map eU).getD j .u)) (v0:=.b false) rfl fun k B' hk hP hB _=>?_;rw[zw];refine⟨fun hlt=>?_,fun hlt=>?_⟩
 ·have hkl:k<s.tr.length:=by simpa[X.ev,evl,z2r,D.int,D.rs,D.tt] using hlt
  simp only[gnZ,z7z];refine⟨⟨by omega,by omega,by omega,by omega⟩,fun hb=>?_,fun hb=>⟨⟨by omega,by omega⟩,?_⟩⟩
  ·refine no fun e=>?_;subst e;simp at hb
  ·exact hB hkl (by simpa only[uK] using hb)
 have hc2:∀j,j<(s.tr.map eU).length→(s.tr.map eU).getD j .u=(t.tr.map eU).getD j .u:=by
  have:k=s.tr.length:=by
   have:¬(k<s.tr.length):=by simpa[X.ev,evl,z2r,D.int,D.rs,D.tt] using hlt
   omega
  subst this;exact fun j hj=>by simpa only[gnD] using hP j (by simpa using hj)
 refine qc0 s.wk.length (fun j=>decide ((s.wk.map eW).getD j .u=(t.wk.map eW).getD j .u)) (v0:=.b false) rfl fun k B' hk hP hB _=>?_;rw[zw];refine⟨fun hlt=>?_,fun hlt=>?_⟩
 ·have hkl:k<s.wk.length:=by simpa[X.ev,evl,qyh,D.int,D.rs,D.tt] using hlt
  simp only[gnZ,z7z];refine⟨⟨by omega,by omega,by omega,by omega⟩,fun hb=>?_,fun hb=>⟨⟨by omega,by omega⟩,?_⟩⟩
  ·refine no fun e=>?_;subst e;simp at hb
  ·exact hB hkl (by simpa only[uK] using hb)
 have hc3:∀j,j<(s.wk.map eW).length→(s.wk.map eW).getD j .u=(t.wk.map eW).getD j .u:=by
  have:k=s.wk.length:=by
   have:¬(k<s.wk.length):=by simpa[X.ev,evl,qyh,D.int,D.rs,D.tt] using hlt
   omega
  subst this;exact fun j hj=>by simpa only[gnD] using hP j (by simpa using hj)
 have e1:=map_inj (fun _ _=>z3c) (qk6 (by simpa using q1) hc0);have e2:=map_inj (fun _ _=>qvx) (qk6 (by simpa using q2) hc1);have e3:=map_inj (fun _ _=>z9z) (qk6 (by simpa using q3) hc2);have e4:=map_inj (fun _ _=>z88) (qk6 (by simpa using q4) hc3);have:s=t:=by cases s;cases t;simp_all
 subst this;simp[q40,X.evs,X.ev]
theorem qp3:FOk q1f (qcv inS):=z2z fun ds outs hw hg=>by
 obtain⟨d,r,rfl,hd,e,r',rfl,he,rfl⟩:=hw;obtain⟨s,rfl,hs⟩:=wfS hd;obtain⟨i,rfl,hi⟩:=wfI he;simp only[qcv,zr,yw,uB] at hg;subst hg;simp only[qcc,gnZ,inS]
def q2q(c:Ce):Ce:=if c.t=5 then⟨0,c.n⟩ else c
def q63:List D→Option (List D)
 |[c]=>some [eC (q2q (dC c))]
 |_=>none
theorem qyt:FOk q22 q63:=quq fun ds outs hw hg=>by
 obtain⟨d,r,rfl,hd,rfl⟩:=hw;obtain⟨c,rfl,hc⟩:=wfC hd;simp only[q63,q0t,uB] at hg;subst hg;simp only[q9k,gnZ,q2q,zpd];exact⟨fun h=>by rw[if_pos h],fun h=>by rw[if_neg h]⟩
theorem qi4:FOk q04 q63:=qwa fun ds outs hw hg=>by
 obtain⟨d,r,rfl,hd,rfl⟩:=hw;obtain⟨c,rfl,hc⟩:=wfC hd;simp only[q63,q0t,uB] at hg;subst hg;simp only[q9f,gnZ,q2q,q8w];exact⟨fun h=>by rw[if_pos h],fun h=>by rw[if_neg h]⟩
def behind(s:So)(a:Int):Bool:=decide (2≤a)&&decide ((cellAt s (a - 2)).t=5)
def qay(s:So)(a:Int):Bool:=if(cellAt s a).t=0 then decide ((cellAt s a).n=a) else if(cellAt s a).t=5 then true else if(cellAt s a).t=1∨(cellAt s a).t=2∨(cellAt s a).t=3 then behind s a else false
theorem qkk:FOk jz (qg5 inS qay):=qj6 fun ds outs hw hg=>by
 obtain⟨d,r,rfl,hd,e,r',rfl,he,rfl⟩:=hw;obtain⟨s,rfl,hs⟩:=wfS hd;obtain⟨i,rfl,hi⟩:=wfI he;simp only[qg5,zr,yw,uC,uB] at hg;obtain⟨hin,rfl⟩:=hg;have h1:=qs.1 hin;have hl:=hs.cs.1;have hr:i64 (i - 2):=⟨by omega,by omega⟩;have hr':=q6w.2 hr;simp only[q56,gnZ,zs hin,h1,hr,qay,behind,q8w];have e0:(D.a [.i 0,.i i])=eC ⟨0,i⟩:=rfl;by_cases h2:2≤i
 ·have hin2:inS s (i - 2)=true:=qs.2 ⟨by omega,by omega⟩;have q1:0≤i - 2:=by omega
  have q2:i - 2<s.cs.length:=by omega
  simp only[zs hin2,h2,q1,q2,qps,q6r,hr'];by_cases c0:(cellAt s i).t=0
  ·have:(cellAt s i=⟨0,i⟩)=((cellAt s i).n=i):=propext ⟨fun e=>by rw[e],fun e=>Ce.ext' c0 e⟩;simp[c0,this]
  ·by_cases c5:(cellAt s i).t=5
   ·simp[c5]
   ·by_cases c1:(cellAt s i).t=1
    ·simp[c1]
    ·by_cases c2:(cellAt s i).t=2
     ·simp[c2]
     ·by_cases c3:(cellAt s i).t=3
      ·simp[c3]
      ·simp[c0,c1,c2,c3,c5]
 ·simp only[h2];by_cases c0:(cellAt s i).t=0
  ·have:(cellAt s i=⟨0,i⟩)=((cellAt s i).n=i):=propext ⟨fun e=>by rw[e],fun e=>Ce.ext' c0 e⟩;simp[c0,this]
  ·by_cases c5:(cellAt s i).t=5
   ·simp[c5]
   ·by_cases c1:(cellAt s i).t=1
    ·simp[c1]
    ·by_cases c2:(cellAt s i).t=2
     ·simp[c2]
     ·by_cases c3:(cellAt s i).t=3
      ·simp[c3]
      ·simp[c0,c1,c2,c3,c5]
def qog(s:So)(a:Int):Nat→Ce→Bool
 |0,_=>false
 |k+1,c=>if c.t=0∧inS s c.n=true then(if c.n=a then true else qog s a k (cellAt s c.n)) else false
def z20(s:So)(c:Ce)(a:Int):Bool:=qog s a (s.cs.length+1) c
variable{c:Ce}
theorem qor{s:So}{a:Int}(h:cellAt s c.n=c)(ha:¬c.n=a):∀k,qog s a k c=false
 |0=>rfl
 | k + 1 => by
  unfold qog;by_cases hc:c.t=0∧inS s c.n=true
  ·rw[if_pos hc,if_neg ha,h];exact qor h ha k
  ·rw[if_neg hc]
def zk9(f:So→Ce→Int→Bool):List D→Option (List D)
 |[s,c,i]=>some [.b (f (dS s) (dC c) i.int)]
 |_=>none
theorem qt7:FOk q1g (zk9 z20):=qqx qp3 fun ds outs hw hg=>by
 obtain⟨d,r,rfl,hd,e,r',rfl,he,f,r2,rfl,hf,rfl⟩:=hw;obtain⟨s,rfl,hs⟩:=wfS hd;obtain⟨c0,rfl,hc⟩:=wfC he;obtain⟨a,rfl,ha⟩:=wfI hf;simp only[zk9,zr,q0t,yw,uB] at hg;subst hg;have hl:=hs.cs.1;rw[q83,qp];refine⟨by simp only[gnZ];omega,?_⟩;rw[zz];refine⟨fun st=>∃(k:Nat)(c:Ce),k≤s.cs.length+1∧st=[.b false,.i k,eC c]∧qog s a (s.cs.length+1 - k) c=z20 s c0 a,fun st=>s.cs.length+1 - (st.getD 1 .u).int.toNat,⟨0,c0,uG _,rfl,rfl⟩,?_⟩;rintro st - ⟨k,c,hk,rfl,hP⟩;simp only[gnZ,qcv];refine⟨fun hlt=>?_,fun hlt=>?_⟩
 ·have hkl:k≤s.cs.length:=by omega
  have hr:i64 ((k:Int)+1):=⟨by omega,by omega⟩;obtain⟨n,hn⟩:∃n,s.cs.length+1 - k=n+1:=⟨s.cs.length - k,by omega⟩;rw[hn] at hP;unfold qog at hP;refine⟨fun hx=>?_,fun hx=>?_⟩
  ·rw[if_neg] at hP
   ·rw[←hP]
   ·intro h;simp[h.1,h.2] at hx
  ·have hx':c.t=0∧inS s c.n=true:=by simpa using hx
   have h1:=qs.1 hx'.2;rw[if_pos hx'] at hP;simp only[zs hx'.2,zao];refine⟨fun hy=>?_,fun hy=>⟨h1,fun hz=>?_,fun hz=>⟨hr,?_⟩⟩⟩
   ·rw[if_pos hy] at hP;rw[hP]
   ·rw[if_neg hy,hz,qor hz hy] at hP;rw[←hP]
   ·rw[if_neg hy] at hP;rw[jg,if_pos rfl];refine⟨⟨k+1,cellAt s c.n,by omega,by simp,by rw[show s.cs.length+1 - (k+1)=n by omega];exact hP⟩,?_⟩;simp[D.int];omega
 ·rw[←hP,show s.cs.length+1 - k=0 by omega];rfl
def qem(vc:So→Ce→Bool)(st:So→Int→Bool)(s:So)(a:Int)(c:Ce):Bool:=inS s a&&(vc s c&&(st s a&& !z20 s (q2q c) a))
def zn1(s:So)(a:Int)(c:Ce):So:={s with cs:=s.cs.set a.toNat (q2q c),tr:=s.tr++[⟨a,cellAt s a⟩]}
def z7i(vc:So→Ce→Bool)(st:So→Int→Bool):List D→Option (List D)
 |[s,a,c]=>if qem vc st (dS s) a.int (dC c) then(if decide ((dS s).tr.length<5864062014634) then some [.i 0,eS (zn1 (dS s) a.int (dC c))] else none) else some [.i 1,eS (dS s)]
 |_=>none
theorem zo5{s:So}{a:Int}:D.a ((D.a ((eS s).fs.set 2 (.r (s.tr.map eU++[.a [.i a,eC (cellAt s a)]])))).fs.set 0 (.r ((s.cs.map eC).set a.toNat (eC (q2q c)))))=eS (zn1 s a c):=by
 simp[zn1,eS,D.fs,eU,List.map_set]
theorem zpy{s:So}:(D.a ((eS s).fs.set 2 x)).fld 0=.r (s.cs.map eC):=rfl
theorem q7c:FOk zn (z7i vcP qay):=qyb qp3 jm qkk qyt qt7 fun ds outs hw hg=>by
 obtain⟨d,r,rfl,hd,e,r',rfl,he,f,r2,rfl,hf,rfl⟩:=hw;obtain⟨s,rfl,hs⟩:=wfS hd;obtain⟨a,rfl,ha⟩:=wfI he;obtain⟨c,rfl,hc⟩:=wfC hf;simp only[z7i,zr,q0t,yw] at hg;simp only[qb8,gnZ,qcv,qcu,qg5,q63,zk9,uV,uX];cases hin:inS s a with
 |false=>
  have:qem vcP qay s a c=false:=by simp[qem,hin]
  simp only[this,gnF,if_false,uB] at hg;subst hg;simp
 | true =>
  have h1:=qs.1 hin;cases hv:vcP s c with
  |false=>
   have:qem vcP qay s a c=false:=by simp[qem,hv]
   simp only[this,gnF,if_false,uB] at hg;subst hg;simp
  | true =>
   cases ht:qay s a with
   |false=>
    have:qem vcP qay s a c=false:=by simp[qem,ht]
    simp only[this,gnF,if_false,uB] at hg;subst hg;simp[q6x,ht]
   | true =>
    cases hco:z20 s (q2q c) a with
    |true=>
     have:qem vcP qay s a c=false:=by simp[qem,hco]
     simp only[this,gnF,if_false,uB] at hg;subst hg;simp[q6x,ht]
    |false=>
     have:qem vcP qay s a c=true:=by simp[qem,hin,hv,ht,hco]
     simp only[this,if_true,uC,uB,gnD] at hg;obtain⟨hlt,rfl⟩:=hg;simp only[zs hin,zpy,qa8,uF,zo5];simp[q6x,ht,h1];omega
def fnd(nm:ByteArray)(ar:Int):Nat→List Sy→Int
 |_,[]=> -1
 |k,y::l=>if y.name=nm∧y.ar=ar then(k:Int) else fnd nm ar (k+1) l
def q60(s:So)(nm:ByteArray)(ar:Int):Int:=fnd nm ar 0 s.ys
theorem qae[Inhabited α]{l:List α}{k:Nat}(h:k<l.length):l.drop k=l.getD k default::l.drop (k+1):=by
 rw[List.drop_eq_getElem_cons h];simp[gnG,h]
theorem z7x{nm:ByteArray}{ar:Int}{l:List Sy}{k:Nat}(h:k<l.length):fnd nm ar k (l.drop k)=if(l.getD k default).name=nm∧(l.getD k default).ar=ar then(k:Int) else fnd nm ar (k+1) (l.drop (k+1)):=by
 rw[qae h];rfl
theorem zax{nm:ByteArray}{ar:Int}:∀(k:Nat)(l:List Sy),fnd nm ar k l= -1∨((k:Int)≤fnd nm ar k l∧fnd nm ar k l<k+l.length)
 |k,[]=>.inl rfl
 | k, y :: l => by
  unfold fnd;split
  ·exact .inr ⟨Int.le_refl _,by simp;omega⟩
  ·rcases zax (nm:=nm) (ar:=ar) (k+1) l with h|⟨h1,h2⟩
   ·exact .inl h
   ·exact .inr ⟨by omega,by simp;omega⟩
def qdo:List D→Option (List D)
 |[s,y]=>some [.i (q60 (dS s) (y.fld 0).str (y.fld 1).int)]
 |_=>none
def zfo:List D→Option (List D)
 |[s,nm,ar]=>some [.i (q60 (dS s) nm.str ar.int)]
 |_=>none
theorem qi8:FOk yj qdo:=qwy fun ds outs hw hg=>by
 obtain⟨d,r,rfl,hd,e,r',rfl,he,rfl⟩:=hw;obtain⟨s,rfl,hs⟩:=wfS hd;obtain⟨y,rfl,hy⟩:=wfY he;simp only[qdo,zr,zec,z9h,q5f,yw,uB] at hg;subst hg;have hl:=hs.ys.1;rw[q9q,zz];refine⟨fun st=>∃k:Nat,k≤s.ys.length∧st=[.i 0,.i k]∧fnd y.name y.ar k (s.ys.drop k)=q60 s y.name y.ar,fun st=>s.ys.length - (st.getD 1 .u).int.toNat,⟨0,uG _,rfl,rfl⟩,?_⟩;rintro st - ⟨k,hk,rfl,hf⟩;simp only[gnZ];refine⟨fun hlt=>?_,fun hlt=>?_⟩
 ·have hkn:k<s.ys.length:=by omega
  rw[z7x hkn] at hf;simp only[q31 eY hkn,qzi];generalize s.ys.getD k default=z at hf;refine⟨⟨by omega,by omega⟩,fun he=>?_,fun he=>⟨⟨by omega,by omega⟩,?_⟩⟩
  ·have he':z=y:=by simpa using he
   subst he';rw[if_pos ⟨rfl,rfl⟩] at hf;rw[←hf]
  ·have he':¬z=y:=by simpa using he
   have hne:¬(z.name=y.name∧z.ar=y.ar):=fun h=>he' (by cases z;cases y;simp_all);rw[if_neg hne] at hf;rw[jg,if_pos rfl];refine⟨⟨k+1,hkn,by simp,hf⟩,?_⟩;simp[D.int];omega
 ·have:k=s.ys.length:=by omega
  subst this;rw[List.drop_length] at hf;rw[←hf];rfl
def qj9(nm:ByteArray)(ar:Int):Bool:=decide (100<(nm.size:Int))||(decide (ar<0)||decide (8<ar))
def znu:List D→Option (List D)
 | [s, nm, ar] => if qj9 nm.str ar.int then some [.i 0, .i 1, eS (dS s)] else if decide (0 ≤ q60 (dS s) nm.str ar.int) then some [.i (q60 (dS s) nm.str ar.int), .i 0, eS (dS s)]
   else if decide (1048576≤(dS s).ys.length) then some [.i 0,.i 13,eS (dS s)] else some [.i (dS s).ys.length,.i 0,eS {dS s with ys:=(dS s).ys++[⟨nm.str,ar.int⟩]}]
 |_=>none
theorem zsu(s:So)(y:Sy):D.a ((eS s).fs.set 1 (.r (s.ys.map eY++[eY y])))=eS {s with ys:=s.ys++[y]}:=by simp[eS,D.fs]
theorem qqa:FOk zh znu:=qnd qi8 fun ds outs hw hg=>by
 obtain⟨d,r,rfl,hd,e,r',rfl,he,f,r2,rfl,hf',rfl⟩:=hw;obtain⟨s,rfl,hs⟩:=wfS hd;obtain⟨nm,rfl,hn⟩:=he.str;obtain⟨ar,rfl,ha⟩:=wfI hf';simp only[znu,zr,q5f,yw] at hg;have ey:D.a [.s nm,.i ar]=eY ⟨nm,ar⟩:=rfl;simp only[q6s,gnZ,qdo,ey,zsu];cases hb:qj9 nm ar with
 |true=>
  simp only[hb,if_true,uB] at hg;subst hg;have hb':(decide (100<(nm.size:Int))||decide (ar<0)||decide (8<ar))=true:=by rw[kR];exact hb
  rw[hb'];exact⟨fun _=>rfl,fun h=>(by cases h)⟩
 | false =>
  simp only[hb,gnF,if_false] at hg;have hb':(decide (100<(nm.size:Int))||decide (ar<0)||decide (8<ar))=false:=by rw[kR];exact hb
  rw[hb'];refine⟨fun h=>(by cases h),fun _=>⟨fun h0=>?_,fun h0=>⟨fun h1=>?_,fun h1=>?_⟩⟩⟩
  ·rw[if_pos (decide_eq_true h0)] at hg;exact gnI hg
  ·have h1':1048576≤s.ys.length:=by omega
   rw[if_neg (by simpa using h0),if_pos (decide_eq_true h1')] at hg;exact gnI hg
  ·have h1':¬1048576≤s.ys.length:=by omega
   rw[if_neg (by simpa using h0),if_neg (by simpa using h1')] at hg;have:=gnI hg;subst this;simp[eS,D.fld,D.fs,D.rs];omega
def z2m:List D→Option (List D)
 |[s]=>if decide ((dS s).mx≤(dS s).cs.length) then some [eC ⟨0,0⟩,.i 13,eS (dS s)] else if decide ((dS s).cs.length<8796093021952) then some [eC ⟨0,(dS s).cs.length⟩,.i 0,eS {dS s with cs:=(dS s).cs++[⟨0,(dS s).cs.length⟩]}] else none
 |_=>none
theorem z94(s:So)(y:Ce):D.a ((eS s).fs.set 0 (.r (s.cs.map eC++[eC y])))=eS {s with cs:=s.cs++[y]}:=by simp[eS,D.fs]
theorem qfl:FOk z7 z2m:=qpi fun ds outs hw hg=>by
 obtain⟨d,r,rfl,hd,rfl⟩:=hw;obtain⟨s,rfl,hs⟩:=wfS hd;simp only[z2m,zr] at hg;simp only[q80,gnZ,q8w,z94];refine⟨fun h0=>?_,fun h0=>?_⟩
 ·rw[if_pos (decide_eq_true h0)] at hg;exact gnI hg
 ·rw[if_neg (by simpa using h0)] at hg;split at hg
  ·rename_i h1;have h1:=of_decide_eq_true h1;have:=gnI hg;exact⟨by omega,this⟩
  ·cases hg
structure VS(s:So):Prop where
 tag:∀i:Int,inS s i=true→0≤(cellAt s i).t∧(cellAt s i).t≤5
theorem z2x{s:So}(h:vcR s c=true):c.t=0∨c.t=1∨c.t=2∨c.t=3∨c.t=5:=by
 unfold vcR at h;by_cases h0:c.t=0
 ·exact .inl h0
 ·by_cases h1:c.t=1
  ·exact .inr (.inl h1)
  ·by_cases h2:c.t=2
   ·exact .inr (.inr (.inl h2))
   ·by_cases h3:c.t=3
    ·exact .inr (.inr (.inr (.inl h3)))
    ·by_cases h5:c.t=5
     ·exact .inr (.inr (.inr (.inr h5)))
     ·simp[h0,h1,h2,h3,h5] at h
theorem qad{s:So}(h:zi s=true):VS s:=by
 simp only[zi,gnB] at h;refine⟨fun i hi=>?_⟩;have h1:=qs.1 hi;have hk:=qur h.2.1 (k:=i.toNat) (by omega);rw[show((i.toNat:Nat):Int)=i by omega] at hk;unfold q7m at hk;by_cases h4:(cellAt s i).t=4
 ·omega
 ·rw[if_neg h4] at hk;simp only[gnB] at hk;have:=z2x hk.1;omega
theorem VS.tag_in{s:So}(h:VS s)(n:Int):decide (0≤q3f s n)=inS s n:=by
 cases hi:inS s n with
 |true=>
  rw[q34 hi];exact decide_eq_true (h.tag n hi).1
 |false=>
  rw[q70 hi];decide
theorem VS.vc{s:So}(h:VS s)(c:Ce):vcP s c=vcR s c:=by
 unfold vcP vcR;rw[h.tag_in]
inductive Te where
 |mk(k n:Int)(s:ByteArray)(l:List Te)
instance:Inhabited Te:=⟨.mk 0 0 ⟨#[]⟩ []⟩
def Te.k:Te→Int|.mk k _ _ _=>k
def Te.n:Te→Int|.mk _ n _ _=>n
def Te.s:Te→ByteArray|.mk _ _ s _=>s
def Te.l:Te→List Te|.mk _ _ _ l=>l
mutual
theorem Te.ind0{P:Te→Prop}(h:∀k n s l,(∀t∈l,P t)→P (.mk k n s l)):∀t,P t
 |.mk k n s l=>h k n s l (Te.inds h l)
theorem Te.inds{P:Te→Prop}(h:∀k n s l,(∀t∈l,P t)→P (.mk k n s l)):∀(l:List Te),∀t∈l,P t
 |[],_,ht=>by cases ht
 |u::l,t,ht=>by
  exact(uL.1 ht).elim (fun e=>e▸Te.ind0 h u) fun h'=>Te.inds h l t h'
end
mutual
def eT:Te→D
 |.mk k n s l=>.a [.i k,.i n,.s s,.r (eTs l)]
def eTs:List Te→List D
 |[]=>[]
 |t::l=>eT t::eTs l
end
theorem zcs:∀l,eTs l=l.map eT
 |[]=>rfl
 |t::l=>by rw[eTs,zcs l,kQ]
theorem qou(k n:Int)(s:ByteArray)(l:List Te):eT (.mk k n s l)=.a [.i k,.i n,.s s,.r (l.map eT)]:=by rw[eT,zcs]
mutual
def dT:D→Te
 |.a [.i k,.i n,.s s,.r l]=>.mk k n s (dTs l)
 |_=>.mk 0 0 ⟨#[]⟩ []
def dTs:List D→List Te
 |[]=>[]
 |d::l=>dT d::dTs l
end
mutual
theorem q1p:∀t,dT (eT t)=t
 |.mk k n s l=>by simp only[eT,dT,zcp l]
theorem zcp:∀l,dTs (eTs l)=l
 |[]=>rfl
 |t::l=>by simp only[eTs,dTs,q1p t,zcp l]
end
variable{t:Te}
theorem zs2{u:Te}(h:eT t=eT u):t=u:=by rw[←q1p t,h,q1p u]
theorem zog(t u:Te):(eT t=eT u)=(t=u):=propext ⟨zs2,fun h=>h▸rfl⟩
theorem zsz(t:Te):(eT t).fld 0=.i t.k:=by cases t;rfl
theorem zr6(t:Te):(eT t).fld 1=.i t.n:=by cases t;rfl
theorem zsr(t:Te):(eT t).fld 2=.s t.s:=by cases t;rfl
theorem ztv(t:Te):(eT t).fld 3=.r (t.l.map eT):=by cases t;rw[qou];rfl
theorem zkk(k n:Int)(s:ByteArray)(l:List Te)(x:Te):D.a ((eT (.mk k n s l)).fs.set 3 (.r (l.map eT++[eT x])))=eT (.mk k n s (l++[x])):=by
 rw[qou,qou];simp[D.fs]
def zT:Te:=.mk 0 0 ⟨#[]⟩ []
theorem zu2:D.a [.i 0,.i 0,.s ⟨#[]⟩,.r []]=eT zT:=rfl
theorem gnT:type_of% (uA @q1p (uA @zsz (uA @zr6 (uA @zsr (uA @ztv (uA @zog @zu2)))))):=uA @q1p (uA @zsz (uA @zr6 (uA @zsr (uA @ztv (uA @zog @zu2)))))
mutual
def szT:Te→Nat
 |.mk _ _ _ l=>q4y l+1
def q4y:List Te→Nat
 |[]=>0
 |t::l=>szT t+q4y l
end
theorem znf(t:Te):1≤szT t:=by cases t;rw[szT];omega
theorem z79:∀{l:List Te},t∈l→szT t≤q4y l
 |u::l,h=>by
  rcases uL.1 h with rfl|h
  ·rw[q4y];omega
  ·have:=z79 h;rw[q4y];omega
theorem zke{u:Te}(h:u∈t.l):szT u<szT t:=by
 cases t;have:=z79 h;rw[szT];exact Nat.lt_succ_of_le this
theorem qk1:∀(l m:List Te),q4y (l++m)=q4y l+q4y m
 |[],m=>by simp[q4y]
 |t::l,m=>by rw[uZ,q4y,q4y,qk1 l m];omega
theorem qzj{l:List Te}{k:Nat}(h:k<l.length):q4y (l.take (k+1))=q4y (l.take k)+szT (l.getD k default):=by
 rw[q7x h,qk1];simp[q4y]
theorem z69:∀(l:List Te),l.length≤q4y l
 |[]=>uU _
 |t::l=>by have:=z69 l;have:=znf t;rw[q4y,List.length_cons];omega
theorem zor(t:Te):szT t=q4y t.l+1:=by cases t;rw[szT];rfl
mutual
def okT:Te→Prop
 |.mk k n s l=>i64 k∧i64 n∧s.size≤LIM∧l.length≤2513169434843∧znp l
def znp:List Te→Prop
 |[]=>True
 |t::l=>okT t∧znp l
end
theorem z7s:∀{l:List Te},znp l↔∀t∈l,okT t
 |[]=>⟨fun _ t h=>(by cases h),fun _=>trivial⟩
 |t::l=>by rw[znp,z7s];simp
theorem zi0{k n:Int}{s:ByteArray}{l:List Te}:okT (.mk k n s l)↔i64 k∧i64 n∧s.size≤LIM∧l.length≤2513169434843∧∀t∈l,okT t:=by rw[okT,z7s]
theorem okT.l(h:okT t):t.l.length≤2513169434843:=by cases t;exact(zi0.1 h).2.2.2.1
theorem zc9(d:D):(Wf d qo8→∃t,d=eT t∧okT t)∧(Wf d qlb→∃l:List Te,d=.r (l.map eT)∧l.length≤2513169434843∧∀t∈l,okT t):=by
 have noS:∀{d:D},Wf d qo8→∃l,d=.a l:=fun h=>let ⟨l,e,_⟩:=h.st_of (fs:=[.int .i64,.int .i64,.str,qlb]) rfl;⟨l,e⟩
 have noR:∀{d:D},Wf d qlb→∃l,d=.r l:=fun h=>let ⟨l,e,_⟩:=h.row_of (te:=qo8) rfl;⟨l,e⟩
 induction d using D.ind with
 |hu=>exact⟨fun h=>(by obtain⟨_,e⟩:=noS h;cases e),fun h=>(by obtain⟨_,e⟩:=noR h;cases e)⟩
 |hi n=>exact⟨fun h=>(by obtain⟨_,e⟩:=noS h;cases e),fun h=>(by obtain⟨_,e⟩:=noR h;cases e)⟩
 |hb n=>exact⟨fun h=>(by obtain⟨_,e⟩:=noS h;cases e),fun h=>(by obtain⟨_,e⟩:=noR h;cases e)⟩
 |hs n=>exact⟨fun h=>(by obtain⟨_,e⟩:=noS h;cases e),fun h=>(by obtain⟨_,e⟩:=noR h;cases e)⟩
 |hm n=>exact⟨fun h=>(by obtain⟨_,e⟩:=noS h;cases e),fun h=>(by obtain⟨_,e⟩:=noR h;cases e)⟩
 |ha l ih=>
  refine⟨fun h=>?_,fun h=>(by obtain⟨_,e⟩:=noR h;cases e)⟩;obtain⟨ds,e,hl⟩:=h.st_of (fs:=[.int .i64,.int .i64,.str,qlb]) rfl;injection e with e;subst e;obtain⟨d0,r,rfl,h0,hl⟩:=qav hl;obtain⟨d1,r,rfl,h1,hl⟩:=qav hl;obtain⟨d2,d3,rfl,h2,h3⟩:=z81 hl;obtain⟨k,rfl,hk⟩:=wfI h0;obtain⟨n,rfl,hn⟩:=wfI h1;obtain⟨s,rfl,hs⟩:=h2.str;obtain⟨ts,rfl,h4,h5⟩:=(ih d3 (by simp)).2 h3;exact⟨.mk k n s ts,(qou _ _ _ _).symm,zi0.2 ⟨hk,hn,hs,h4,h5⟩⟩
 |hr l ih=>
  refine⟨fun h=>(by obtain⟨_,e⟩:=noS h;cases e),fun h=>?_⟩;obtain⟨l',e,h1,h2⟩:=h.row_of (te:=qo8) rfl;injection e with e;subst e;obtain⟨m,rfl,h3⟩:=qe5 (e:=eT) (P:=okT) fun x hx=>(ih x hx).1 (h2 x hx);have e:LM qo8=2513169434843:=by kernel_rfl
  rw[e,uF] at h1;exact⟨m,rfl,h1,h3⟩
theorem wfT(h:Wf d qo8):∃t,d=eT t∧okT t:=(zc9 d).1 h
theorem zw2(h:Wf d qlb):∃l:List Te,d=.r (l.map eT)∧l.length≤2513169434843∧∀t∈l,okT t:=(zc9 d).2 h
def q9z(t:Te):Bool:=
 if t.k=0 then decide (0≤t.n)&&(decide (t.n≤1099511627776)&&(decide (t.s=⟨#[]⟩)&&decide ((t.l.length:Int)=0)))
 else if t.k=1 then decide (t.s=⟨#[]⟩)&&decide ((t.l.length:Int)=0)
 else if t.k=2 then decide (t.n=0)&&(decide ((t.s.size:Int)≤100)&&decide ((t.l.length:Int)=0))
 else if t.k=3 then decide (t.n=0)&&(decide ((t.s.size:Int)≤100)&&(decide (1≤(t.l.length:Int))&&decide ((t.l.length:Int)≤8)))
 else false
mutual
def zq:Te→Bool
 |.mk k n s l=>q9z (.mk k n s l)&&q0m l
def q0m:List Te→Bool
 |[]=>true
 |t::l=>zq t&&q0m l
end
theorem qgb:∀{l:List Te},q0m l=true↔∀t∈l,zq t=true
 |[]=>⟨fun _ t h=>(by cases h),fun _=>rfl⟩
 |t::l=>by rw[q0m,gnB,qgb];simp
theorem qtt(t:Te):zq t=(q9z t&&(uH t.l.length).all fun i=>zq (t.l.getD i default)):=by
 cases t with
 |mk k n s l=>
  rw[zq]
  congr 1
  rw[kL,qgb,uJ];refine⟨fun h i hi=>h _ (q8t (uN.1 hi)),fun h t ht=>?_⟩;obtain⟨i,hi,rfl⟩:=List.getElem_of_mem ht;have:=h i (uN.2 hi);rwa [show(Te.mk k n s l).l.getD i default=l[i] by simp[Te.l,gnG,gnK hi]] at this
def q01(t:Te):Bool:=decide (szT t≤2000)&&zq t
mutual
def idT:Te→Te→Bool
 |.mk k n s l,.mk k' n' s' l'=>decide (k=k')&&(decide (n=n')&&(decide (s=s')&&z9p l l'))
def z9p:List Te→List Te→Bool
 |[],[]=>true
 |t::l,u::m=>idT t u&&z9p l m
 |_,_=>false
end
mutual
theorem z48:∀(t u:Te),idT t u=true↔t=u
 |.mk k n s l,.mk k' n' s' l'=>by simp[idT,z5x l l']
theorem z5x:∀(l m:List Te),z9p l m=true↔l=m
 |[],[]=>by simp[z9p]
 |t::l,u::m=>by simp[z9p,z48 t u,z5x l m]
 |[],_::_=>by simp[z9p]
 |_::_,[]=>by simp[z9p]
end
instance:DecidableEq Te:=fun t u=>if h:idT t u=true then .isTrue ((z48 t u).1 h) else .isFalse fun e=>h ((z48 t u).2 e)
def mT(ds:List D):Nat:=szT (dT (ds.getD 0 .u))
def zl7:List D→Option (List D)
 |[t,m]=>if 1≤m.int then some [.i (min (szT (dT t):Int) m.int)] else none
 |_=>none
def gTi(f:Te→Int):List D→Option (List D)
 |[t]=>some [.i (f (dT t))]
 |_=>none
def gTb(f:Te→Bool):List D→Option (List D)
 |[t]=>some [.b (f (dT t))]
 |_=>none
def gTT(f:Te→Te):List D→Option (List D)
 |[t]=>some [eT (f (dT t))]
 |_=>none
theorem zw7(k n:Int)(s:ByteArray)(l:List Te):(Te.mk k n s l).l=l:=rfl
theorem quf{l:List Te}{k:Nat}(h:k<l.length):(D.r (l.map eT)).get (k:Int)=eT (l.getD k default):=q31 eT h
theorem qfv{k:Nat}(h:k<t.l.length):szT (t.l.getD k default)<szT t:=zke (q8t h)
theorem qvk:FOk yr zl7:=qa2 (m:=mT) q6h fun N ih=>qea ih fun ds outs hw hg=>by
 obtain⟨d,r,rfl,hd,e,r',rfl,he,rfl⟩:=hw;obtain⟨t,rfl,ht⟩:=wfT hd;obtain⟨m,rfl,hm⟩:=wfI he;simp only[q3e,mT,zl7,uE,q1p,yw,uC,uB] at hg;obtain⟨hsz,h1,rfl⟩:=hg;have hl:=ht.l;rw[q4q,zz];refine⟨fun st=>∃k:Nat,k≤t.l.length∧st=[.i (min ((q4y (t.l.take k):Int)+1) m),.i k],fun st=>t.l.length - (st.getD 1 .u).int.toNat,⟨0,uG _,by simp[X.evs,X.ev,q4y];omega⟩,?_⟩;rintro st - ⟨k,hk,rfl⟩;rw[zw];refine⟨fun hlt=>?_,fun hlt=>?_⟩
 ·simp only[gnZ,gnT,gnB] at hlt;obtain⟨hkl,hlm⟩:=hlt;have hkl':k<t.l.length:=by omega
  have ha:=qfv hkl';have hs:=qzj hkl';have hmn:1≤m - min ((q4y (t.l.take k):Int)+1) m:=by omega
  simp only[gnZ,gnT,quf hkl',q3e,mT,zl7,if_pos hmn,if_pos (show szT (t.l.getD k default)<N by omega)];refine⟨⟨by omega,by omega,by omega,by omega⟩,⟨by omega,by omega⟩,?_⟩;rw[jg,if_pos rfl];refine⟨⟨k+1,by omega,?_⟩,?_⟩
  ·rw[hs];simp;omega
  ·simp[D.int];omega
 ·simp only[gnZ,gnT,uT] at hlt;simp only[gnZ,gnT];have hz:=zor t;have:min ((q4y (t.l.take k):Int)+1) m=min (szT t:Int) m:=by
   rcases hlt with h|h
   ·have:k=t.l.length:=by omega
    subst this;rw[uY];omega
   ·have h2:=qk1 (t.l.take k) (t.l.drop k);rw[kD] at h2;omega
  rw[this]
theorem qxu:FOk q0k (gTi fun t=>min (szT t:Int) 2001):=qgc qvk fun ds outs hw hg=>by
 obtain⟨d,r,rfl,hd,rfl⟩:=hw;obtain⟨t,rfl,ht⟩:=wfT hd;simp only[gTi,q1p,uB] at hg;subst hg;simp[q5h,gnZ,gnT,zl7]
theorem qxb:FOk q0j (gTb q9z):=qg4 fun ds outs hw hg=>by
 obtain⟨d,r,rfl,hd,rfl⟩:=hw;obtain⟨t,rfl,ht⟩:=wfT hd;simp only[gTb,q1p,uB] at hg;subst hg;simp only[q5i,gnZ,gnT,q9z];by_cases h0:t.k=0
 ·simp[h0,uI]
 ·by_cases h1:t.k=1
  ·simp[h1]
  ·by_cases h2:t.k=2
   ·simp[h2,uI]
   ·by_cases h3:t.k=3
    ·simp[h3,uI]
    ·simp[h0,h1,h2,h3]
theorem q67(t:Te):zq t=true↔q9z t=true∧∀j,j<t.l.length→zq (t.l.getD j default)=true:=by
 rw[qtt,gnB,uJ];simp
theorem qv1:FOk yu (gTb zq):=qa2 (m:=mT) q79 fun N ih=>qej qxb ih fun ds outs hw hg=>by
 obtain⟨d,r,rfl,hd,rfl⟩:=hw;obtain⟨t,rfl,ht⟩:=wfT hd;simp only[q3e,mT,gTb,uE,q1p,yw,uC,uB] at hg;obtain⟨hsz,rfl⟩:=hg;have hl:=ht.l;simp only[q4t,gnZ,gnT,gTb];refine⟨fun hn=>?_,fun hn=>?_⟩
 ·rw[qtt,show q9z t=false by simpa using hn];rfl
 have hn:q9z t=true:=by simpa using hn
 rw[zz];refine⟨fun st=>∃k:Nat,k≤t.l.length∧st=[.b false,.i k]∧∀j,j<k→zq (t.l.getD j default)=true,fun st=>t.l.length - (st.getD 1 .u).int.toNat,⟨0,uG _,rfl,fun j hj=>absurd hj (uP _)⟩,?_⟩;rintro st - ⟨k,hk,rfl,hP⟩;rw[zw];refine⟨fun hlt=>?_,fun hlt=>?_⟩
 ·simp only[gnZ,gnT] at hlt;have hkl':k<t.l.length:=by omega
  have ha:=qfv hkl';simp only[gnZ,gnT,quf hkl',q3e,mT,gTb,if_pos (show szT (t.l.getD k default)<N by omega)];refine⟨⟨by omega,by omega⟩,fun hx=>?_,fun hx=>⟨⟨by omega,by omega⟩,?_⟩⟩
  ·have:zq t=false:=by
    cases hh:zq t with
    |false=>rfl
    |true=>rw[((q67 t).1 hh).2 k hkl'] at hx;cases hx
   rw[this]
  ·rw[jg,if_pos rfl];refine⟨⟨k+1,by omega,by simp,q2v hP (by simpa using hx)⟩,?_⟩;simp[D.int];omega
 ·simp only[gnZ,gnT] at hlt⊢;have:k=t.l.length:=by omega
  subst this;rw[(q67 t).2 ⟨hn,hP⟩]
theorem qsx:FOk j5 (gTb q01):=qei qxu qv1 fun ds outs hw hg=>by
 obtain⟨d,r,rfl,hd,rfl⟩:=hw;obtain⟨t,rfl,ht⟩:=wfT hd;simp only[gTb,q1p,uB] at hg;subst hg;have e:decide (min (szT t:Int) 2001≤2000)=decide (szT t≤2000):=by rw[decide_eq_decide];omega
 simp[q4x,gnZ,gnT,gTi,gTb,q01,e]
def zm2:List D→Option (List D)
 |[t,m]=>if 1≤m.int then some [.i (m.int - min (szT (dT t):Int) m.int)] else none
 |_=>none
theorem qw8:FOk jj zm2:=qa2 (m:=mT) qbw fun N ih=>qqi ih fun ds outs hw hg=>by
 obtain⟨d,r,rfl,hd,e,r',rfl,he,rfl⟩:=hw;obtain⟨t,rfl,ht⟩:=wfT hd;obtain⟨m,rfl,hm⟩:=wfI he;simp only[q3e,mT,zm2,uE,q1p,yw,uC,uB] at hg;obtain⟨hsz,h1,rfl⟩:=hg;have hl:=ht.l;rw[q89,qp];refine⟨by simp only[gnZ,gnT];omega,?_⟩;rw[zz];refine⟨fun st=>∃k:Nat,k≤t.l.length∧st=[.i k,.i (m - min ((q4y (t.l.take k):Int)+1) m)],fun st=>t.l.length - (st.getD 0 .u).int.toNat,⟨0,uG _,by simp[X.evs,X.ev,q4y,evl,D.int];omega⟩,?_⟩;rintro st - ⟨k,hk,rfl⟩;rw[zw];refine⟨fun hlt=>?_,fun hlt=>?_⟩
 ·simp only[gnZ,gnT,gnB] at hlt;obtain⟨hkl,hlm⟩:=hlt;have hkl':k<t.l.length:=by omega
  have ha:=qfv hkl';have hs:=qzj hkl';have hmn:1≤m - min ((q4y (t.l.take k):Int)+1) m:=by omega
  simp only[gnZ,gnT,quf hkl',q3e,mT,zm2,if_pos hmn,if_pos (show szT (t.l.getD k default)<N by omega)];refine⟨⟨by omega,by omega⟩,⟨by omega,by omega⟩,?_⟩;rw[jg,if_pos rfl];refine⟨⟨k+1,by omega,?_⟩,?_⟩
  ·rw[hs];simp;omega
  ·simp[D.int];omega
 ·simp only[gnZ,gnT,uT] at hlt;simp only[gnZ,gnT];have hz:=zor t;have:m - min ((q4y (t.l.take k):Int)+1) m=m - min (szT t:Int) m:=by
   rcases hlt with h|h
   ·have:k=t.l.length:=by omega
    subst this;rw[uY];omega
   ·have h2:=qk1 (t.l.take k) (t.l.drop k);rw[kD] at h2;omega
  rw[this]
theorem qjp:FOk q05 (gTi fun t=>min (szT t:Int) 2001):=qy8 qw8 fun ds outs hw hg=>by
 obtain⟨d,r,rfl,hd,rfl⟩:=hw;obtain⟨t,rfl,ht⟩:=wfT hd;simp only[gTi,q1p,uB] at hg;subst hg;simp[qbj,gnZ,gnT,zm2];omega
theorem qkz:FOk yf (gTb zq):=qa2 (m:=mT) qef fun N ih=>qx7 ih fun ds outs hw hg=>by
 obtain⟨d,r,rfl,hd,rfl⟩:=hw;obtain⟨t,rfl,ht⟩:=wfT hd;simp only[q3e,mT,gTb,uE,q1p,yw,uC,uB] at hg;obtain⟨hsz,rfl⟩:=hg;have hl:=ht.l;have key:∀(x:X),x.ev (evl (qb [(yf,q3e mT N (gTb zq))]) [eT t])=.b (q9z t)→Tree.go (qb [(yf,q3e mT N (gTb zq))]) (fun o=>o=[D.b (zq t)]) (.loop 12 1 [x,(.lit (.i 0))] (.br (.and (.lt (.tok 2) (.len (.fld (.tok 0) 3))) (.tok 1)) (.need [(.le (.lit (.i 0)) (.tok 2)),(.lt (.tok 2) (.len (.fld (.tok 0) 3))),(.ok 0 [(.get (.fld (.tok 0) 3) (.tok 2))])] (.need [(.rng .i64 (.add (.tok 2) (.lit (.i 1))))] (.back 12 [(.call 0 0 [(.get (.fld (.tok 0) 3) (.tok 2))]),(.add (.tok 2) (.lit (.i 1)))]))) (.leaf [(.tok 1)]))) [eT t] fun _ _=>False:=by
  intro x hx;rw[zz];refine⟨fun st=>∃(k:Nat)(v:Bool),k≤t.l.length∧st=[.b v,.i k]∧(v=true↔q9z t=true∧∀j,j<k→zq (t.l.getD j default)=true),fun st=>t.l.length - (st.getD 1 .u).int.toNat,⟨0,q9z t,uG _,by simp only[X.evs,hx,X.ev];rfl,by simp⟩,?_⟩;rintro st - ⟨k,v,hk,rfl,hv⟩;rw[zw];refine⟨fun hlt=>?_,fun hlt=>?_⟩
  ·simp only[gnZ,gnT,gnB] at hlt;obtain⟨hlt,rfl⟩:=hlt;have hkl':k<t.l.length:=by omega
   have ha:=qfv hkl';simp only[gnZ,gnT,quf hkl',q3e,mT,gTb,if_pos (show szT (t.l.getD k default)<N by omega)];refine⟨⟨by omega,by omega⟩,⟨by omega,by omega⟩,?_⟩;rw[jg,if_pos rfl];have hv':=hv.1 rfl;refine⟨⟨k+1,_,by omega,rfl,⟨fun h=>⟨hv'.1,q2v hv'.2 h⟩,fun h=>h.2 k (Nat.lt_succ_self _)⟩⟩,?_⟩;simp[D.int];omega
  ·simp only[gnZ,gnT,uT] at hlt;simp only[gnZ,gnT];rw[show v=zq t from ?_];cases hvv:v with
   | false =>
    cases hh:zq t with
    |false=>rfl
    |true=>
     have h2:=(q67 t).1 hh;rw[hv.2 ⟨h2.1,fun j hj=>h2.2 j (by omega)⟩] at hvv;cases hvv
   | true =>
    have:k=t.l.length:=by
     rcases hlt with h|h
     ·omega
     ·rw[hvv] at h;cases h
    subst this;exact((q67 t).2 (hv.1 hvv)).symm
 rw[qb0];simp only[zw];have e0:∀z:Int,(X.eq (.fld (.tok 0) 0) (.lit (.i z))).ev (evl (qb [(yf,q3e mT N (gTb zq))]) [eT t])=.b (decide (t.k=z)):=fun z=>by
  simp only[gnZ,gnT]
 simp only[e0,q6x,gnD,decide_eq_false_iff_not];refine⟨fun h=>key _ ?_,fun h0=>⟨fun h=>key _ ?_,fun h1=>⟨fun h=>key _ ?_,fun h2=>⟨fun h=>key _ ?_,fun h3=>key _ ?_⟩⟩⟩⟩
 all_goals simp only[gnZ,gnT,q9z]
 ·simp[h,uI]
 ·simp[h,uI]
 ·simp[h,uI]
 ·have e8:decide (0<(t.l.length:Int))=decide (1≤(t.l.length:Int)):=rfl;rw[e8];simp[h,uI]
 ·simp[h0,h1,h2,h3]
theorem qck:FOk yx (gTb q01):=qtj qjp qkz fun ds outs hw hg=>by
 obtain⟨d,r,rfl,hd,rfl⟩:=hw;obtain⟨t,rfl,ht⟩:=wfT hd;simp only[gTb,q1p,uB] at hg;subst hg;have e:decide (min (szT t:Int) 2001≤2000)=decide (szT t≤2000):=by rw[decide_eq_decide];omega
 simp[q9o,gnZ,gnT,gTi,gTb,q01,e]
theorem qqf:FOk q0o (gTT id):=qmd fun ds outs hw hg=>by
 obtain⟨d,r,rfl,hd,rfl⟩:=hw;obtain⟨t,rfl,ht⟩:=wfT hd;simp only[gTT,q1p,uB] at hg;subst hg;simp only[q6q,gnZ,gnT,id]
theorem qxq:FOk q02 (gTT id):=qa2 (m:=mT) qd9 fun N ih=>qw5 qqf ih fun ds outs hw hg=>by
 obtain⟨d,r,rfl,hd,rfl⟩:=hw;obtain⟨t,rfl,ht⟩:=wfT hd;simp only[q3e,mT,gTT,uE,q1p,yw,uC,uB] at hg;obtain⟨hsz,rfl⟩:=hg;have hl:=ht.l;rw[q9r,zw];refine⟨fun h=>?_,fun h=>?_⟩
 ·simp only[gnZ,gnT,gTT,id]
 rw[zz];refine⟨fun st=>∃k:Nat,k≤t.l.length∧st=[.i k,eT (.mk t.k t.n t.s (t.l.take k))],fun st=>t.l.length - (st.getD 0 .u).int.toNat,⟨0,uG _,by simp only[X.evs,X.ev,evl,uE,zsz,zr6,zsr,qou];rfl⟩,?_⟩;rintro st - ⟨k,hk,rfl⟩;rw[zw];refine⟨fun hlt=>?_,fun hlt=>?_⟩
 ·simp only[gnZ,gnT] at hlt;have hkl':k<t.l.length:=by omega
  have ha:=qfv hkl';simp only[gnZ,gnT,quf hkl',q3e,mT,gTT,if_pos (show szT (t.l.getD k default)<N by omega),id,zw7,List.length_take];refine⟨⟨by omega,by omega⟩,by omega,⟨by omega,by omega⟩,?_⟩;rw[jg,if_pos rfl];refine⟨⟨k+1,by omega,?_⟩,?_⟩
  ·rw[q7x hkl',zkk];rfl
  ·simp[D.int];omega
 ·simp only[gnZ,gnT] at hlt⊢;have:k=t.l.length:=by omega
  subst this;rw[uY];cases t;rfl
theorem qhx:FOk yi (gTT fun t=>if q01 t then t else zT):=qte qck qxq fun ds outs hw hg=>by
 obtain⟨d,r,rfl,hd,rfl⟩:=hw;obtain⟨t,rfl,ht⟩:=wfT hd;simp only[gTT,q1p,uB] at hg;subst hg;simp only[q9p,gnZ,gnT,gTb,gTT,id];cases q01 t<;>simp
def gSt(f:ByteArray→Te):List D→Option (List D)
 |[s]=>some [eT (f s.str)]
 |_=>none
def qbd(s:ByteArray):Te:=if s.size≤100 then .mk 2 0 s [] else zT
theorem zit{s:ByteArray}(h:s.size≤100):qbd s=.mk 2 0 s []:=if_pos h
theorem q4u:FOk zo (gSt qbd):=qx1 qhx fun ds outs hw hg=>by
 obtain⟨d,r,rfl,hd,rfl⟩:=hw;obtain⟨s,rfl,hs⟩:=hd.str;simp only[gSt,q5f,uB] at hg;subst hg;have e:D.a ((D.a ([D.i 0,.i 0,.s ⟨#[]⟩,.r []].set 0 (.i 2))).fs.set 2 (.s s))=eT (.mk 2 0 s []):=rfl;simp only[qao,gnZ,gnT,gTT,zv9];have e2:D.a (((eT zT).fs.set 0 (.i 2)).set 2 (.s s))=eT (.mk 2 0 s []):=rfl;simp only[e2];have:q01 (.mk 2 0 s [])=decide (s.size≤100):=by
  rw[kL];simp[q01,szT,q4y,zq,q0m,q9z,Te.k,Te.n,Te.s,Te.l];exact Iff.trans decide_eq_true_iff (Int.ofNat_le (n:=100))
 simp only[q1p,this,qbd,gnD]
theorem qs8{s:So}(h:zi s=true):qg2 s=true:=by
 simp only[zi,gnB] at h;exact h.1
theorem z3h{s:So}(h:zi s=true):q95 s.ys=true:=by
 have:=qs8 h;simp only[qg2,gnB] at this;exact this.2.2.2.2
theorem z3o{s:So}(h:zi s=true):s.cs.length≤1048576:=by
 have:=qs8 h;simp only[qg2,gnB,gnD] at this;omega
theorem qsf{s:So}(h:zi s=true)(hi:inS s i=true):q7m s i=true:=by
 simp only[zi,gnB] at h;have h1:=qs.1 hi;have hk:=qur h.2.1 (k:=i.toNat) (by omega);rwa [show((i.toNat:Nat):Int)=i by omega] at hk
theorem zjq{s:So}(h:zi s=true)(hi:inS s i=true)(ht:(cellAt s i).t≠4):vcR s (cellAt s i)=true:=by
 have:=qsf h hi;unfold q7m at this;rw[if_neg ht] at this;simp only[gnB] at this;exact this.1
theorem znd{s:So}(h:zi s=true)(hi:inS s i=true):qot s i=true:=by
 by_cases ht:(cellAt s i).t=4
 ·exact(En.st (fun hn=>by have:=hn.1;rw[q34 hi] at this;omega)).ends
 ·have:=qsf h hi;unfold q7m at this;rw[if_neg ht] at this;simp only[gnB] at this;exact this.2.1
theorem qm6{s:So}(h:vcR s c=true)(ht:c.t=0):inS s c.n=true∧(cellAt s c.n).t≠4:=by
 unfold vcR at h;rw[if_pos ht] at h;simp only[gnB,uO,decide_eq_false_iff_not] at h;rw[q34 h.1] at h;exact h
theorem zpi{s:So}(h:zi s=true){n:Int}(hn:Ns s n):inS s (nx s n)=true:=by
 have hi:=hn.inS;have ht:(cellAt s n).t=0:=by have:=hn.1;rwa [q34 hi] at this
 exact(qm6 (zjq h hi (by omega)) ht).1
theorem zrr{s:So}(h:zi s=true)(hi:inS s i=true)(ht:(cellAt s i).t=4):1≤arS s (cellAt s i).n∧arS s (cellAt s i).n≤8∧∀j:Nat,(j:Int)<arS s (cellAt s i).n→inS s (i+1+j)=true∧vcR s (cellAt s (i+1+j))=true:=by
 have:=qsf h hi;unfold q7m at this;rw[if_pos ht] at this;simp only[gnB,gnD,uJ,uN,uO,decide_eq_false_iff_not] at this;obtain⟨h1,h2,h3⟩:=this;refine⟨h1,(z5e (z3h h) _).2,fun j hj=>?_⟩;have q:=qs.1 h2;have q1:=qs.1 hi;have hin:inS s (i+1+j)=true:=qs.2 ⟨by omega,by omega⟩;refine⟨hin,zjq h hin ?_⟩;have:=h3 j (by omega);rw[show i+((j:Int)+1)=i+1+j by omega,q34 hin] at this;exact this
theorem z9l{s:So}{n:Int}(h:0≤arS s n):0≤n∧n<s.ys.length∧arS s n=(s.ys.getD n.toNat default).ar:=by
 unfold arS at h⊢;split at h
 ·rename_i hn;rw[if_pos hn];exact⟨hn.1,hn.2,rfl⟩
 ·omega
def q8v(s:So)(n:Int):Sy:=s.ys.getD n.toNat default
theorem z65{s:So}(hv:∀m,Ns s m→inS s (nx s m)=true):∀(k:Nat)(n:Int),inS s n=true→q3g s (k+1) n=true→q3g s k n=false→∃l:List Int,l.length=k+1∧l.Nodup∧(∀x∈l,inS s x=true)∧∀x∈l,∃j,j≤k∧q3g s (j+1) x=true
 |0,n,hi,h1,_=>⟨[n],rfl,by simp,(fun x hx=>by rw[kH.1 hx];exact hi),fun x hx=>⟨0,uU _,by rw[kH.1 hx];exact h1⟩⟩
 | k + 1, n, hi, h1, h2 => by
  have hn:Ns s n:=Classical.byContradiction fun hn=>by rw[q8o hn] at h2;cases h2
  have h1':=h1;rw[q5d hn] at h1 h2;obtain⟨l,e1,e2,e3,e4⟩:=z65 hv k _ (hv n hn) h1 h2;refine⟨n::l,by simp[e1],?_,fun x hx=>?_,fun x hx=>?_⟩
  ·refine kJ.2 ⟨fun hm=>?_,e2⟩;obtain⟨j,hj,he⟩:=e4 n hm;rw[q5d hn] at he;rw[qgi hj he] at h2;cases h2
  ·rcases uL.1 hx with rfl|hx
   ·exact hi
   ·exact e3 x hx
  ·rcases uL.1 hx with rfl|hx
   ·exact⟨k+1,uU _,h1'⟩
   ·obtain⟨j,hj,he⟩:=e4 x hx;exact⟨j,by omega,he⟩
theorem qfa{s:So}(h:zi s=true){n:Int}(hi:inS s n=true):q3g s s.cs.length n=true:=by
 cases hk':q3g s s.cs.length n with
 |true=>rfl
 | false =>
  obtain⟨l,e1,e2,e3,-⟩:=z65 (fun m hm=>zpi h hm) s.cs.length n hi (znd h hi) hk';have h1:=qsl s.cs.length (l.map Int.toNat) ?_ ?_
  ·rw[uF,e1] at h1;omega
  ·refine uW.map _ (fun a b h=>h) ?_;refine uW.imp_of_mem (R:=fun a b=>a≠b) (fun{a b}ha hb hab e=>hab ?_) e2;have h1:=qs.1 (e3 a ha);have h2:=qs.1 (e3 b hb);omega
  ·intro x hx;obtain⟨a,ha,rfl⟩:=kS.1 hx;have h1:=qs.1 (e3 a ha);omega
def qct(s:So):Nat→Ce→Ce
 |0,c=>c
 |k+1,c=>if c.t=0∧inS s c.n=true∧cellAt s c.n≠c then qct s k (cellAt s c.n) else c
theorem z42{s:So}(h:c.t≠0):∀k,qct s k c=c
 |0=>rfl
 |k+1=>if_neg fun q=>h q.1
theorem qss{s:So}(j:Nat):∀(k:Nat)(n:Int),q3g s k n=true→qct s (k+j) ⟨0,n⟩=qct s k ⟨0,n⟩
 |0,n,h=>by cases h
 | k + 1, n, h => by
  rw[show k+1+j=(k+j)+1 by omega];unfold qct;split
  ·rename_i hc;by_cases ht:(cellAt s n).t=0
   ·have e:cellAt s n=⟨0,nx s n⟩:=Ce.ext' ht rfl;have hn:Ns s n:=⟨(q34 hc.2.1).trans ht,fun hn=>hc.2.2 (Ce.ext' ht hn)⟩;rw[q5d hn] at h
    show qct s (k+j) (cellAt s n)=qct s k (cellAt s n)
    rw[e];exact qss j k _ h
   ·rw[z42 ht,z42 ht]
  ·rfl
def qdx(s:So)(c:Ce):Ce:=if vcR s c then qct s (s.cs.length+1) c else⟨0,0⟩
theorem zbe{s:So}(h:zi s=true)(hc:vcR s c=true):qct s s.cs.length c=qct s (s.cs.length+1) c:=by
 by_cases ht:c.t=0
 ·have e:c=⟨0,c.n⟩:=Ce.ext' ht rfl;rw[e];exact(qss 1 _ _ (qfa h (qm6 hc ht).1)).symm
 ·rw[z42 ht,z42 ht]
theorem zb9{s:So}(h:zi s=true):∀(k:Nat){c:Ce},vcR s c=true→vcR s (qct s k c)=true
 |0,c,hc=>hc
 | k + 1, c, hc => by
  unfold qct;split
  ·rename_i q;exact zb9 h k (zjq h q.2.1 (qm6 hc q.1).2)
  ·exact hc
theorem z1g{s:So}(h:zi s=true)(hc:vcR s c=true):vcR s (qdx s c)=true:=by
 rw[qdx,if_pos hc];exact zb9 h _ hc
def zd9:List D→Option (List D)
 |[s,c]=>if zi (dS s) then some [eC (qdx (dS s) (dC c))] else none
 |_=>none
theorem zgg:D.a [.i 0,.i 0]=eC ⟨0,0⟩:=rfl
theorem zg8:FOk zj zd9:=qek jm qac fun ds outs hw hg=>by
 obtain⟨d,r,rfl,hd,e,r',rfl,he,rfl⟩:=hw;obtain⟨s,rfl,hs⟩:=wfS hd;obtain⟨c,rfl,hc⟩:=wfC he;simp only[zd9,zr,q0t,uC,uB] at hg;obtain⟨hv,rfl⟩:=hg;have hvs:=qad hv;have hl:=z3o hv;have hvc:∀c,vcP s c=vcR s c:=hvs.vc;simp only[q4r,gnZ,qcu,hvc,zgg];refine⟨fun h=>?_,fun h=>?_⟩
 ·simp only[qdx,show vcR s c=false by simpa using h];rfl
 have hvc':vcR s c=true:=by simpa using h
 rw[zz];refine⟨fun st=>∃(k:Nat)(x:Ce),k≤s.cs.length∧st=[.i k,eC x]∧qct s (s.cs.length - k) x=qdx s c,fun st=>s.cs.length - (st.getD 0 .u).int.toNat,⟨0,c,uG _,rfl,by rw[kT,zbe hv hvc',qdx,if_pos hvc']⟩,?_⟩;rintro st - ⟨k,x,hk,rfl,hP⟩;rw[zw];refine⟨fun hlt=>?_,fun hlt=>?_⟩
 ·simp only[gnZ] at hlt;have hkl:k<s.cs.length:=by omega
  obtain⟨n,hn⟩:∃n,s.cs.length - k=n+1:=⟨s.cs.length - k - 1,by omega⟩;rw[hn] at hP;unfold qct at hP;have hn2:s.cs.length - (k+1)=n:=by omega
  have ht:=hvs.tag_in x.n;by_cases h0:x.t=0
  ·cases hin:inS s x.n with
   | true =>
    have h3:=qs.1 hin;rw[hin] at ht;have ht':¬q3f s x.n<0:=by have:=of_decide_eq_true ht;omega
    simp only[gnZ,qa3,zs hin,h0,ht',h3.1,h3.2];refine⟨fun hx=>?_,fun hx=>?_⟩
    ·have hx':cellAt s x.n=x:=by simpa using hx
     rw[if_neg (fun q=>q.2.2 hx')] at hP;rw[hP]
    ·have hx':cellAt s x.n≠x:=by simpa using hx
     rw[if_pos ⟨h0,hin,hx'⟩] at hP;refine⟨⟨by omega,by omega⟩,?_⟩;rw[jg,if_pos rfl];refine⟨⟨k+1,cellAt s x.n,by omega,by simp,by rw[hn2];exact hP⟩,?_⟩;simp[D.int];omega
   |false=>
    rw[hin] at ht;have ht':q3f s x.n<0:=by have:=of_decide_eq_false ht;omega
    rw[if_neg (fun q=>by rw[hin] at q;cases q.2.1)] at hP;simp only[gnZ,qa3,h0,ht',←hP];simp
  ·rw[if_neg (fun q=>h0 q.1)] at hP;simp only[gnZ,qa3,h0,←hP];simp
 ·simp only[gnZ] at hlt⊢;have:k=s.cs.length:=by omega
  subst this;rw[kB] at hP;rw[←hP,qct]
theorem qwc:FOk q1d zd9:=qpc q2i q3p fun ds outs hw hg=>by
 obtain⟨d,r,rfl,hd,e,r',rfl,he,rfl⟩:=hw;obtain⟨s,rfl,hs⟩:=wfS hd;obtain⟨c,rfl,hc⟩:=wfC he;simp only[zd9,zr,q0t,uC,uB] at hg;obtain⟨hv,rfl⟩:=hg;have hl:=z3o hv;simp only[q7r,gnZ,qcu,zgg];refine⟨fun h=>?_,fun h=>?_⟩
 ·simp only[qdx,show vcR s c=false by simpa using h];rfl
 have hvc':vcR s c=true:=by simpa using h
 rw[zz];refine⟨fun st=>∃(k:Nat)(x:Ce),k≤s.cs.length+1∧st=[.i k,eC x]∧qct s (s.cs.length+1 - k) x=qdx s c,fun st=>s.cs.length+1 - (st.getD 0 .u).int.toNat,⟨0,c,uG _,rfl,by rw[kT,qdx,if_pos hvc']⟩,?_⟩;rintro st - ⟨k,x,hk,rfl,hP⟩;simp only[qp,zw,q40,z2p];by_cases hkl:k≤s.cs.length
 ·obtain⟨n,hn⟩:∃n,s.cs.length+1 - k=n+1:=⟨s.cs.length - k,by omega⟩;rw[hn] at hP;unfold qct at hP;have hn2:s.cs.length+1 - (k+1)=n:=by omega
  have hk':(k:Int)≤s.cs.length:=by omega
  by_cases h0:x.t=0
  ·cases hin:inS s x.n with
   | true =>
    have h3:=qs.1 hin;simp only[gnZ,qcv,zs hin,h0,h3.1,h3.2,hin,hk'];refine⟨fun hx=>?_,fun hx=>?_⟩
    ·have hx':cellAt s x.n≠x:=by simpa using hx
     rw[if_pos ⟨h0,hin,hx'⟩] at hP;refine⟨⟨by omega,by omega⟩,?_⟩;rw[jg,if_pos rfl];refine⟨⟨k+1,cellAt s x.n,by omega,by simp,by rw[hn2];exact hP⟩,?_⟩;simp[D.int];omega
    ·have hx':cellAt s x.n=x:=by simpa using hx
     rw[if_neg (fun q=>q.2.2 hx')] at hP;rw[hP]
   |false=>
    rw[if_neg (fun q=>by rw[hin] at q;cases q.2.1)] at hP;simp only[gnZ,qcv,h0,hin,←hP];simp
  ·rw[if_neg (fun q=>h0 q.1)] at hP;simp only[gnZ,qcv,h0,←hP];simp
 ·have:k=s.cs.length+1:=by omega
  subst this;rw[kB] at hP;have hk':¬((s.cs.length+1:Nat):Int)≤s.cs.length:=by omega
  simp only[gnZ,hk',←hP,qct];simp
end Go.Proofs.YtdaadonfbnedaaaGreat
